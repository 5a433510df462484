/- ConsentRuns. -/
import Derived.Test.YtjgljgkfflojbaaE5
namespace Go.Proofs.Ytjgljgkfflojbaa.A
open Go Go.RowKit
set_option linter.unusedVariables false
set_option linter.unusedSimpArgs false
set_option maxRecDepth 20000

theorem Weak.appL {M : Nat → Option Obj} {X X' : List Atom} (h : Weak ⟨M, X⟩ ⟨M, X'⟩) : ∀ A : List Atom, Weak ⟨M, A ++ X⟩ ⟨M, A ++ X'⟩
  | [] => h
  | a :: A => Weak.cons (Weak.appL h A)
theorem BoO.opened {g : Nat} {S : St} {M : Nat → Option Obj} {K X : List Atom} (h : BoO g S M K X) : ∃ tv r ts N, S = stOf ts S.gone ∧ RowVal tv 4 (tvs ts) ∧ (∀ x ∈ ts, ThAt ⟨M, N ++ K⟩ x) ∧ Weak ⟨M, X⟩ ⟨M, cbA g tv r ts S.gone ++ (N ++ K)⟩ ∧ BoO g S M K (cbA g tv r ts S.gone ++ (N ++ K)) := by
  obtain ⟨tv, r, ts, N, h1, h2, h3, h4⟩ := h.2
  exact ⟨tv, r, ts, N, h1, h2, h3, h4, fun a ha => List.mem_append_right _ (List.mem_append_right _ ha), tv, r, ts, N, h1, h2, h3, Weak.refl _⟩
theorem Bo.drop {g : Nat} {S : St} {M : Nat → Option Obj} {A L0 : List Atom} {H : Hp} (h : Bo g S M (A ++ L0) H) : Weak H ⟨M, L0⟩ := by
  obtain ⟨tv, r, ts, N, _, _, _, h4⟩ := h
  exact h4.trans ((Weak.dropAll M _ _).trans ((Weak.dropAll M _ _).trans (Weak.dropAll M _ _)))
set_option maxHeartbeats 8000000 in
theorem c_ConsentRuns (v : Value) (l : List Int) (at' how by' : Int) (H : Hp) (hv : IntsAt H v l) (ha : I64 at') (hh : I64 how) (hy : I64 by') (R : Ending → Hp → Prop) (hR : ∀ H', R (.returned (.bool true)) H') :
    ACalls Try.prog 6 [v, .int .i64 at', .int .i64 how, .int .i64 by'] H R := by
  refine acalls_code hT Try.func6 rfl rfl ?_
  conv => whnf
  refine p_New fun g H0 B0 => ?_
  obtain ⟨X0, hw0, O0⟩ := B0.o
  conv => whnf
  intro gr
  conv => whnf
  refine ACalls.weak (Weak.consAny hw0) (c_Script26 v l _ (hv.mono (hle_sub fun b hb => List.mem_cons_of_mem _ (O0.1 b hb))) _ fun a cs N hcs hra hN => ?_)
  have hcl : cs.length ≤ 24 := by
    have := congrArg List.length hcs
    rw [List.length_map] at this
    rw [this]
    have := (sc26_bd l (scN26 l) (by unfold scN26; omega)).2.2.1
    unfold script26; rw [this]; unfold scN26; omega
  have hoa : ∀ c ∈ cs, okA c.a := fun c hc => by
    refine (sc26_bd l (scN26 l) (by unfold scN26; omega)).2.2.2 c.a ?_
    have : c.a ∈ script26 l := by rw [← hcs]; exact List.mem_map.2 ⟨c, hc, rfl⟩
    exact this
  have O1 : BoO g ⟨[], []⟩ H.M (.row a 42 4 (avs cs) :: (N ++ H.L)) (.row a 42 4 (avs cs) :: (N ++ X0)) := O0.add (.row a 42 4 (avs cs) :: N)
  obtain ⟨pa, ca, rfl, hca⟩ := flatAt avc (fun _ => rfl) (by omega) (H := ⟨H.M, .row a 42 4 (avs cs) :: (N ++ H.L)⟩) (l := cs) (readsRow (e := 42) List.mem_cons_self hra)
  conv => whnf
  refine awp_loopL hT 140 [1, 2, 3, 9, 10, 11, 12] (fun m vs H' => ∃ (i : Nat) (S : St) (K X Y : List Atom), vs = [.int .i64 at', .int .i64 how, .int .i64 by', ptr g, ptr gr, .slice pa cs.length ca, .int .i64 i] ∧ m + i = cs.length ∧ okS S ∧ BoO g S H.M K X ∧ Rb gr S H.M K Y ∧
    (∀ b ∈ .row (.slice pa cs.length ca) 42 4 (avs cs) :: N, b ∈ K) ∧ H' = ⟨H.M, Y ++ X⟩) cs.length rfl rfl
    ((Weak.perm (List.perm_middle (l₁ := .row (.slice pa cs.length ca) 42 4 (avs cs) :: N))).trans ((weakNil _ 3 1).trans ((weakNil _ 4 1).trans ((weakNil _ 22 1).trans ((weakNil _ 40 2).trans (weakPull [4] rfl))))))
    ⟨0, ⟨[], []⟩, _, _, _, rfl, by omega, ⟨by simp, by simp, by simp, by simp⟩, O1, ⟨.slice none 0 0, .slice none 0 0, .slice none 0 0, .slice none 0 0, [], [], rfl, ⟨.inl ⟨rfl, rfl⟩, .inl ⟨rfl, rfl⟩, .inl ⟨rfl, rfl⟩, .inl ⟨rfl, rfl⟩⟩, by simp, (List.append_nil _).symm⟩, fun b hb => by
      rcases List.mem_cons.1 hb with e | hb
      · exact e ▸ List.mem_cons_self
      · exact List.mem_cons_of_mem _ (List.mem_append_left _ hb), rfl⟩ ?_
  rintro m u vs H' ⟨i, S, K, X, Y, rfl, hm, hok, O, rb, hka, rfl⟩
  conv => whnf
  refine ifC_dec (fun h1 => ?_) (fun h1 => ?_)
  · have hil : i < cs.length := by omega
    have hmem := List.getElem_mem hil
    have ho := hoa _ hmem
    obtain ⟨ga, oa, rfl, _⟩ := hca i hil
    have hce : ∀ X, (∀ b ∈ K, b ∈ X) → CellsAt ⟨H.M, X⟩ ga (oa + i * 4) (avc cs[i]) := fun X hX => by
      obtain ⟨p, c, e, hc⟩ := flatAt avc (fun _ => rfl) (by omega) (H := ⟨H.M, X⟩) (l := cs) (v := .slice (some ⟨ga, oa, none⟩) cs.length ca) (readsRow (e := 42) (hX _ (hka _ List.mem_cons_self)) hra)
      obtain ⟨g', o', e', h⟩ := hc i hil
      cases e; cases e'
      exact h
    obtain ⟨rf, rp⟩ := hN cs[i] hmem K fun b hb => hka b (List.mem_cons_of_mem _ hb)
    obtain ⟨f1, f2, f3, ef⟩ := rf.slice
    obtain ⟨p1, p2, p3, ep⟩ := rp.slice
    have hxf : IntsAt ⟨H.M, K⟩ cs[i].fv cs[i].a.f := ⟨rf, fun x hx => by have := ho.f.2 x hx; omega, by have := ho.f.1; omega⟩
    have hxp : IntsAt ⟨H.M, K⟩ cs[i].pv cs[i].a.p := ⟨rp, fun x hx => by have := ho.p.2 x hx; omega, by have := ho.p.1; omega⟩
    have hxf' : IntsAt ⟨H.M, K⟩ (.slice f1 f2 f3) cs[i].a.f := by rw [← ef]; exact hxf
    have hxp' : IntsAt ⟨H.M, K⟩ (.slice p1 p2 p3) cs[i].a.p := by rw [← ep]; exact hxp
    have hb24 := around_bd at' 24 (by omega)
    have hc24 := around_bd by' 24 (by omega)
    conv => whnf
    refine ⟨ga, oa, rfl, by omega, ?_⟩
    conv => whnf
    refine ⟨avc cs[i], rfl, hce _ (fun b hb => List.mem_append_right _ (O.1 b hb)), ?_⟩
    unfold avc
    rw [ef, ep]
    conv => whnf
    intro g13
    conv => whnf
    refine stC 0 rfl rfl (by first | (refine ⟨rfl, ?_⟩; repeat' (first | exact trivial | refine ⟨rfl, ?_⟩)) | simp [oneCells, Value.oneCell', setN]) ?_
    conv => whnf
    refine c_Around at' 24 ha (by omega) _ _ ?_
    conv => whnf
    -- the book's act, the reference's act, and what is compared
    refine ifC_dec (fun h2 => ?_) (fun h2 => ?_)
    · conv => whnf
      refine ldA 0 rfl rfl ?_
      conv => whnf
      refine ACalls.weakR (c_Odd26 ⟨.slice f1 f2 f3, .slice p1 p2 p3, cs[i].a⟩ how by' hh hy K _ (fun b hb => List.mem_cons_of_mem _ (List.mem_append_right _ (O.1 b hb))) (by rw [← ef]; exact hxf) (by rw [← ep]; exact hxp) (by have := ho.f.1; show cs[i].a.f.length ≤ 1000; omega) (by have := ho.p.1; show cs[i].a.p.length ≤ 1000; omega) _ fun y N2 hyf hyp =>
        ⟨⟨H.M, .cells g13 42 [.int .i64 cs[i].a.k, .int .i64 cs[i].a.n, .slice f1 f2 f3, .slice p1 p2 p3] :: (Y ++ (N2 ++ X))⟩, Weak.perm (List.perm_middle.trans (List.Perm.cons _ (List.perm_append_comm_assoc N2 Y X))), ?_⟩)
      obtain ⟨y1, y2, y3, ey⟩ := hyf.reads.slice
      obtain ⟨z1, z2, z3, ez⟩ := hyp.reads.slice
      have hyf' : IntsAt ⟨H.M, N2 ++ K⟩ (.slice y1 y2 y3) y.a.f := by rw [← ey]; exact hyf
      have hyp' : IntsAt ⟨H.M, N2 ++ K⟩ (.slice z1 z2 z3) y.a.p := by rw [← ez]; exact hyp
      unfold av
      rw [ey, ez]
      conv => whnf
      refine stC 0 rfl rfl (by first | (refine ⟨rfl, ?_⟩; repeat' (first | exact trivial | refine ⟨rfl, ?_⟩)) | simp [oneCells, Value.oneCell', setN]) ?_
      conv => whnf
      have O' := O.add N2
      have rb2 := rb.up (K' := N2 ++ K) fun b hb => List.mem_append_right _ hb
      refine c_Around by' 24 hy (by omega) _ _ ?_
      conv => whnf
      refine ifC_dec (fun h3 => ?_) (fun h3 => ?_)
      · obtain ⟨tv, r, ts, N3, hS, hT3, h33, hw3, O3⟩ := (O').opened
        conv => whnf
        refine ACalls.weak (Weak.cons (Weak.appL hw3 Y)) (c_Copy26 g tv r ts S.gone _ (cbIn hT3 (fun x hx => (h33 x hx).mono (hle_sub fun b hb => by simp only [List.mem_append, List.mem_cons] at hb ⊢; rcases hb with h | h <;> simp [h])) (fun b hb => by simp only [List.mem_append, List.mem_cons]; simp [hb])) (by have := hok.n; rw [hS] at this; simpa [stOf] using this) _ ?_)
        intro gd Hd Bd
        rw [← hS] at Bd
        conv => whnf
        intro q8
        conv => whnf
        refine p_Make (Bd.add _) hok (f := []) (p := [8]) (nilI _) (intsRow (l := [8]) 0 rfl (rowNew rfl (by omega)) (by simp; omega) (by simp)) fun H2 B2 => ?_
        conv => whnf
        refine p_Remove B2 (hok.mk' _ _) fun H3 s hs B3 => ?_
        obtain ⟨s1, s2, s3, rfl⟩ := hs.slice
        conv => whnf
        refine ACalls.weakR (p_Renew B3 ((hok.mk' _ _).rm' _) fun H4 B4 => ⟨_, Bo.drop (A := [_, _]) B4, ?_⟩)
        conv => whnf
        refine ldA 0 rfl rfl ?_
        conv => whnf
        refine q_do (.cells g13 42 [.int .i64 (y).a.k, .int .i64 (y).a.n, (.slice y1 y2 y3), (.slice z1 z2 z3)] :: Y) O3 hok (x := ⟨(.slice y1 y2 y3), (.slice z1 z2 z3), (y).a⟩) hyf' hyp' ?_
        intro X2 s hs O2
        have hok2 := hok.do' (y).a
        obtain ⟨s1, s2, s3, rfl⟩ := hs.slice
        conv => whnf
        refine ldA 0 rfl rfl ?_
        conv => whnf
        refine ACalls.weak (Weak.perm List.perm_middle.symm) (r_Do (X := .cells g13 42 [.int .i64 (y).a.k, .int .i64 (y).a.n, (.slice y1 y2 y3), (.slice z1 z2 z3)] :: X2) rb2 hok (fun b hb => List.mem_cons_of_mem _ (O2.1 b (List.mem_cons_of_mem _ hb))) (x := ⟨(.slice y1 y2 y3), (.slice z1 z2 z3), (y).a⟩) hyf' hyp' ?_)
        intro Y' s' hs' rb'
        obtain ⟨q1, q2, q3, rfl⟩ := hs'.slice
        obtain ⟨tv, r, ts, N4, hS, hT4, h34, hw4, O4⟩ := O2.opened
        obtain ⟨tv', bv', uv', gv', ts', N', hS', hV', h3', rfl⟩ := rb'
        have hri : ∀ x ∈ (doS S (y).a).2.2.1, I64 x := fun x hx => by
          unfold doS at hx
          split at hx
          · rcases rm_cases (S := S) (x := (y).a.n) with ⟨_, _, e⟩ | e
            · rw [e] at hx; simp at hx
            · rw [e] at hx
              obtain ⟨j, hj, rfl⟩ := List.mem_map.1 hx
              have := (List.mem_filter.1 hj).1
              rw [List.mem_range] at this
              have := hok.n
              omega
          · split at hx
            · simp at hx
            · simp at hx
        have hrl : (doS S (y).a).2.2.1.length ≤ 256 := by
          unfold doS
          split
          · rcases rm_cases (S := S) (x := (y).a.n) with ⟨_, _, e⟩ | e
            · rw [e]; simp
            · rw [e]
              have : (rmL S (y).a.n).length ≤ S.ts.length := by
                unfold rmL
                rw [List.length_map]
                exact Nat.le_trans (List.length_filter_le _ _) (by simp)
              have := hok.n
              simp only
              omega
          · split <;> simp
        generalize hD : doS S (y).a = D at *
        obtain ⟨S', n', r', e'⟩ := D
        simp only at hs hs' hok2 hS hS' hT4 h34 hw4 O2 O4 hV' h3' hri hrl ⊢
        conv => whnf
        refine ifC_neg (by simp) ?_
        conv => whnf
        refine ifC_neg (by simp) ?_
        conv => whnf
        refine ACalls.weak (Weak.cons (Weak.appL (Weak.cons hw4) _)) (c_SameInts _ _ r' r' _ ⟨readsRow (e := 3) (by simp) hs, hri, by omega⟩ ⟨readsRow (e := 3) (by simp) hs', hri, by omega⟩ _ ?_)
        rw [decide_eq_true rfl]
        conv => whnf
        refine c_agree g tv r ts gr tv' bv' uv' gv' ts' S'.gone _ (cbIn hT4 (fun x hx => (h34 x hx).mono (hle_sub fun b hb => by simp only [List.mem_append, List.mem_cons] at hb ⊢; rcases hb with h | h | h <;> simp [h])) (fun b hb => by simp only [List.mem_append, List.mem_cons]; simp [hb]))
          (rfIn hV' (fun x hx => (h3' x hx).mono (hle_sub fun b hb => by simp only [List.mem_append, List.mem_cons] at hb ⊢; rcases hb with h | h <;> simp [h])) (fun b hb => by simp only [List.mem_append, List.mem_cons]; simp [hb])) (hS ▸ hok2) (hS.symm.trans hS') _ ?_
        conv => whnf
        repeat (refine ⟨_, wi (by omega), ?_⟩; conv => whnf)
        exact ⟨rfl, rfl, m - 1, _, by omega, (Weak.drop _ _ _).trans ((Weak.perm List.perm_middle).trans (Weak.drop _ _ _)), i + 1, S', _, _, _, rfl, by omega, hok2, O4, ⟨tv', bv', uv', gv', ts', N', hS', hV', fun x hx => (h3' x hx).mono (hle_sub fun b hb => by simp only [List.mem_append, List.mem_cons] at hb ⊢; rcases hb with h | h <;> simp [h]), rfl⟩, fun b hb => List.mem_cons_of_mem _ ((fun b hb => List.mem_append_right N2 hb) b (hka b hb)), rfl⟩
      · conv => whnf
        refine ldA 0 rfl rfl ?_
        conv => whnf
        refine q_do (.cells g13 42 [.int .i64 (y).a.k, .int .i64 (y).a.n, (.slice y1 y2 y3), (.slice z1 z2 z3)] :: Y) (O') hok (x := ⟨(.slice y1 y2 y3), (.slice z1 z2 z3), (y).a⟩) hyf' hyp' ?_
        intro X2 s hs O2
        have hok2 := hok.do' (y).a
        obtain ⟨s1, s2, s3, rfl⟩ := hs.slice
        conv => whnf
        refine ldA 0 rfl rfl ?_
        conv => whnf
        refine ACalls.weak (Weak.perm List.perm_middle.symm) (r_Do (X := .cells g13 42 [.int .i64 (y).a.k, .int .i64 (y).a.n, (.slice y1 y2 y3), (.slice z1 z2 z3)] :: X2) rb2 hok (fun b hb => List.mem_cons_of_mem _ (O2.1 b (List.mem_cons_of_mem _ hb))) (x := ⟨(.slice y1 y2 y3), (.slice z1 z2 z3), (y).a⟩) hyf' hyp' ?_)
        intro Y' s' hs' rb'
        obtain ⟨q1, q2, q3, rfl⟩ := hs'.slice
        obtain ⟨tv, r, ts, N4, hS, hT4, h34, hw4, O4⟩ := O2.opened
        obtain ⟨tv', bv', uv', gv', ts', N', hS', hV', h3', rfl⟩ := rb'
        have hri : ∀ x ∈ (doS S (y).a).2.2.1, I64 x := fun x hx => by
          unfold doS at hx
          split at hx
          · rcases rm_cases (S := S) (x := (y).a.n) with ⟨_, _, e⟩ | e
            · rw [e] at hx; simp at hx
            · rw [e] at hx
              obtain ⟨j, hj, rfl⟩ := List.mem_map.1 hx
              have := (List.mem_filter.1 hj).1
              rw [List.mem_range] at this
              have := hok.n
              omega
          · split at hx
            · simp at hx
            · simp at hx
        have hrl : (doS S (y).a).2.2.1.length ≤ 256 := by
          unfold doS
          split
          · rcases rm_cases (S := S) (x := (y).a.n) with ⟨_, _, e⟩ | e
            · rw [e]; simp
            · rw [e]
              have : (rmL S (y).a.n).length ≤ S.ts.length := by
                unfold rmL
                rw [List.length_map]
                exact Nat.le_trans (List.length_filter_le _ _) (by simp)
              have := hok.n
              simp only
              omega
          · split <;> simp
        generalize hD : doS S (y).a = D at *
        obtain ⟨S', n', r', e'⟩ := D
        simp only at hs hs' hok2 hS hS' hT4 h34 hw4 O2 O4 hV' h3' hri hrl ⊢
        conv => whnf
        refine ifC_neg (by simp) ?_
        conv => whnf
        refine ifC_neg (by simp) ?_
        conv => whnf
        refine ACalls.weak (Weak.cons (Weak.appL (Weak.cons hw4) _)) (c_SameInts _ _ r' r' _ ⟨readsRow (e := 3) (by simp) hs, hri, by omega⟩ ⟨readsRow (e := 3) (by simp) hs', hri, by omega⟩ _ ?_)
        rw [decide_eq_true rfl]
        conv => whnf
        refine c_agree g tv r ts gr tv' bv' uv' gv' ts' S'.gone _ (cbIn hT4 (fun x hx => (h34 x hx).mono (hle_sub fun b hb => by simp only [List.mem_append, List.mem_cons] at hb ⊢; rcases hb with h | h | h <;> simp [h])) (fun b hb => by simp only [List.mem_append, List.mem_cons]; simp [hb]))
          (rfIn hV' (fun x hx => (h3' x hx).mono (hle_sub fun b hb => by simp only [List.mem_append, List.mem_cons] at hb ⊢; rcases hb with h | h <;> simp [h])) (fun b hb => by simp only [List.mem_append, List.mem_cons]; simp [hb])) (hS ▸ hok2) (hS.symm.trans hS') _ ?_
        conv => whnf
        repeat (refine ⟨_, wi (by omega), ?_⟩; conv => whnf)
        exact ⟨rfl, rfl, m - 1, _, by omega, (Weak.drop _ _ _).trans ((Weak.perm List.perm_middle).trans (Weak.drop _ _ _)), i + 1, S', _, _, _, rfl, by omega, hok2, O4, ⟨tv', bv', uv', gv', ts', N', hS', hV', fun x hx => (h3' x hx).mono (hle_sub fun b hb => by simp only [List.mem_append, List.mem_cons] at hb ⊢; rcases hb with h | h <;> simp [h]), rfl⟩, fun b hb => List.mem_cons_of_mem _ ((fun b hb => List.mem_append_right N2 hb) b (hka b hb)), rfl⟩
    · refine c_Around by' 24 hy (by omega) _ _ ?_
      conv => whnf
      refine ifC_dec (fun h3 => ?_) (fun h3 => ?_)
      · obtain ⟨tv, r, ts, N3, hS, hT3, h33, hw3, O3⟩ := (O).opened
        conv => whnf
        refine ACalls.weak (Weak.cons (Weak.appL hw3 Y)) (c_Copy26 g tv r ts S.gone _ (cbIn hT3 (fun x hx => (h33 x hx).mono (hle_sub fun b hb => by simp only [List.mem_append, List.mem_cons] at hb ⊢; rcases hb with h | h <;> simp [h])) (fun b hb => by simp only [List.mem_append, List.mem_cons]; simp [hb])) (by have := hok.n; rw [hS] at this; simpa [stOf] using this) _ ?_)
        intro gd Hd Bd
        rw [← hS] at Bd
        conv => whnf
        intro q8
        conv => whnf
        refine p_Make (Bd.add _) hok (f := []) (p := [8]) (nilI _) (intsRow (l := [8]) 0 rfl (rowNew rfl (by omega)) (by simp; omega) (by simp)) fun H2 B2 => ?_
        conv => whnf
        refine p_Remove B2 (hok.mk' _ _) fun H3 s hs B3 => ?_
        obtain ⟨s1, s2, s3, rfl⟩ := hs.slice
        conv => whnf
        refine ACalls.weakR (p_Renew B3 ((hok.mk' _ _).rm' _) fun H4 B4 => ⟨_, Bo.drop (A := [_, _]) B4, ?_⟩)
        conv => whnf
        refine ldA 0 rfl rfl ?_
        conv => whnf
        refine q_do (.cells g13 42 [.int .i64 (cs[i]).a.k, .int .i64 (cs[i]).a.n, (.slice f1 f2 f3), (.slice p1 p2 p3)] :: Y) O3 hok (x := ⟨(.slice f1 f2 f3), (.slice p1 p2 p3), (cs[i]).a⟩) hxf' hxp' ?_
        intro X2 s hs O2
        have hok2 := hok.do' (cs[i]).a
        obtain ⟨s1, s2, s3, rfl⟩ := hs.slice
        conv => whnf
        refine ldA 0 rfl rfl ?_
        conv => whnf
        refine ACalls.weak (Weak.perm List.perm_middle.symm) (r_Do (X := .cells g13 42 [.int .i64 (cs[i]).a.k, .int .i64 (cs[i]).a.n, (.slice f1 f2 f3), (.slice p1 p2 p3)] :: X2) rb hok (fun b hb => List.mem_cons_of_mem _ (O2.1 b (List.mem_cons_of_mem _ hb))) (x := ⟨(.slice f1 f2 f3), (.slice p1 p2 p3), (cs[i]).a⟩) hxf' hxp' ?_)
        intro Y' s' hs' rb'
        obtain ⟨q1, q2, q3, rfl⟩ := hs'.slice
        obtain ⟨tv, r, ts, N4, hS, hT4, h34, hw4, O4⟩ := O2.opened
        obtain ⟨tv', bv', uv', gv', ts', N', hS', hV', h3', rfl⟩ := rb'
        have hri : ∀ x ∈ (doS S (cs[i]).a).2.2.1, I64 x := fun x hx => by
          unfold doS at hx
          split at hx
          · rcases rm_cases (S := S) (x := (cs[i]).a.n) with ⟨_, _, e⟩ | e
            · rw [e] at hx; simp at hx
            · rw [e] at hx
              obtain ⟨j, hj, rfl⟩ := List.mem_map.1 hx
              have := (List.mem_filter.1 hj).1
              rw [List.mem_range] at this
              have := hok.n
              omega
          · split at hx
            · simp at hx
            · simp at hx
        have hrl : (doS S (cs[i]).a).2.2.1.length ≤ 256 := by
          unfold doS
          split
          · rcases rm_cases (S := S) (x := (cs[i]).a.n) with ⟨_, _, e⟩ | e
            · rw [e]; simp
            · rw [e]
              have : (rmL S (cs[i]).a.n).length ≤ S.ts.length := by
                unfold rmL
                rw [List.length_map]
                exact Nat.le_trans (List.length_filter_le _ _) (by simp)
              have := hok.n
              simp only
              omega
          · split <;> simp
        generalize hD : doS S (cs[i]).a = D at *
        obtain ⟨S', n', r', e'⟩ := D
        simp only at hs hs' hok2 hS hS' hT4 h34 hw4 O2 O4 hV' h3' hri hrl ⊢
        conv => whnf
        refine ifC_neg (by simp) ?_
        conv => whnf
        refine ifC_neg (by simp) ?_
        conv => whnf
        refine ACalls.weak (Weak.cons (Weak.appL (Weak.cons hw4) _)) (c_SameInts _ _ r' r' _ ⟨readsRow (e := 3) (by simp) hs, hri, by omega⟩ ⟨readsRow (e := 3) (by simp) hs', hri, by omega⟩ _ ?_)
        rw [decide_eq_true rfl]
        conv => whnf
        refine c_agree g tv r ts gr tv' bv' uv' gv' ts' S'.gone _ (cbIn hT4 (fun x hx => (h34 x hx).mono (hle_sub fun b hb => by simp only [List.mem_append, List.mem_cons] at hb ⊢; rcases hb with h | h | h <;> simp [h])) (fun b hb => by simp only [List.mem_append, List.mem_cons]; simp [hb]))
          (rfIn hV' (fun x hx => (h3' x hx).mono (hle_sub fun b hb => by simp only [List.mem_append, List.mem_cons] at hb ⊢; rcases hb with h | h <;> simp [h])) (fun b hb => by simp only [List.mem_append, List.mem_cons]; simp [hb])) (hS ▸ hok2) (hS.symm.trans hS') _ ?_
        conv => whnf
        repeat (refine ⟨_, wi (by omega), ?_⟩; conv => whnf)
        exact ⟨rfl, rfl, m - 1, _, by omega, (Weak.drop _ _ _).trans ((Weak.perm List.perm_middle).trans (Weak.drop _ _ _)), i + 1, S', _, _, _, rfl, by omega, hok2, O4, ⟨tv', bv', uv', gv', ts', N', hS', hV', fun x hx => (h3' x hx).mono (hle_sub fun b hb => by simp only [List.mem_append, List.mem_cons] at hb ⊢; rcases hb with h | h <;> simp [h]), rfl⟩, fun b hb => List.mem_cons_of_mem _ ((fun b hb => hb) b (hka b hb)), rfl⟩
      · conv => whnf
        refine ldA 0 rfl rfl ?_
        conv => whnf
        refine q_do (.cells g13 42 [.int .i64 (cs[i]).a.k, .int .i64 (cs[i]).a.n, (.slice f1 f2 f3), (.slice p1 p2 p3)] :: Y) (O) hok (x := ⟨(.slice f1 f2 f3), (.slice p1 p2 p3), (cs[i]).a⟩) hxf' hxp' ?_
        intro X2 s hs O2
        have hok2 := hok.do' (cs[i]).a
        obtain ⟨s1, s2, s3, rfl⟩ := hs.slice
        conv => whnf
        refine ldA 0 rfl rfl ?_
        conv => whnf
        refine ACalls.weak (Weak.perm List.perm_middle.symm) (r_Do (X := .cells g13 42 [.int .i64 (cs[i]).a.k, .int .i64 (cs[i]).a.n, (.slice f1 f2 f3), (.slice p1 p2 p3)] :: X2) rb hok (fun b hb => List.mem_cons_of_mem _ (O2.1 b (List.mem_cons_of_mem _ hb))) (x := ⟨(.slice f1 f2 f3), (.slice p1 p2 p3), (cs[i]).a⟩) hxf' hxp' ?_)
        intro Y' s' hs' rb'
        obtain ⟨q1, q2, q3, rfl⟩ := hs'.slice
        obtain ⟨tv, r, ts, N4, hS, hT4, h34, hw4, O4⟩ := O2.opened
        obtain ⟨tv', bv', uv', gv', ts', N', hS', hV', h3', rfl⟩ := rb'
        have hri : ∀ x ∈ (doS S (cs[i]).a).2.2.1, I64 x := fun x hx => by
          unfold doS at hx
          split at hx
          · rcases rm_cases (S := S) (x := (cs[i]).a.n) with ⟨_, _, e⟩ | e
            · rw [e] at hx; simp at hx
            · rw [e] at hx
              obtain ⟨j, hj, rfl⟩ := List.mem_map.1 hx
              have := (List.mem_filter.1 hj).1
              rw [List.mem_range] at this
              have := hok.n
              omega
          · split at hx
            · simp at hx
            · simp at hx
        have hrl : (doS S (cs[i]).a).2.2.1.length ≤ 256 := by
          unfold doS
          split
          · rcases rm_cases (S := S) (x := (cs[i]).a.n) with ⟨_, _, e⟩ | e
            · rw [e]; simp
            · rw [e]
              have : (rmL S (cs[i]).a.n).length ≤ S.ts.length := by
                unfold rmL
                rw [List.length_map]
                exact Nat.le_trans (List.length_filter_le _ _) (by simp)
              have := hok.n
              simp only
              omega
          · split <;> simp
        generalize hD : doS S (cs[i]).a = D at *
        obtain ⟨S', n', r', e'⟩ := D
        simp only at hs hs' hok2 hS hS' hT4 h34 hw4 O2 O4 hV' h3' hri hrl ⊢
        conv => whnf
        refine ifC_neg (by simp) ?_
        conv => whnf
        refine ifC_neg (by simp) ?_
        conv => whnf
        refine ACalls.weak (Weak.cons (Weak.appL (Weak.cons hw4) _)) (c_SameInts _ _ r' r' _ ⟨readsRow (e := 3) (by simp) hs, hri, by omega⟩ ⟨readsRow (e := 3) (by simp) hs', hri, by omega⟩ _ ?_)
        rw [decide_eq_true rfl]
        conv => whnf
        refine c_agree g tv r ts gr tv' bv' uv' gv' ts' S'.gone _ (cbIn hT4 (fun x hx => (h34 x hx).mono (hle_sub fun b hb => by simp only [List.mem_append, List.mem_cons] at hb ⊢; rcases hb with h | h | h <;> simp [h])) (fun b hb => by simp only [List.mem_append, List.mem_cons]; simp [hb]))
          (rfIn hV' (fun x hx => (h3' x hx).mono (hle_sub fun b hb => by simp only [List.mem_append, List.mem_cons] at hb ⊢; rcases hb with h | h <;> simp [h])) (fun b hb => by simp only [List.mem_append, List.mem_cons]; simp [hb])) (hS ▸ hok2) (hS.symm.trans hS') _ ?_
        conv => whnf
        repeat (refine ⟨_, wi (by omega), ?_⟩; conv => whnf)
        exact ⟨rfl, rfl, m - 1, _, by omega, (Weak.drop _ _ _).trans ((Weak.perm List.perm_middle).trans (Weak.drop _ _ _)), i + 1, S', _, _, _, rfl, by omega, hok2, O4, ⟨tv', bv', uv', gv', ts', N', hS', hV', fun x hx => (h3' x hx).mono (hle_sub fun b hb => by simp only [List.mem_append, List.mem_cons] at hb ⊢; rcases hb with h | h <;> simp [h]), rfl⟩, fun b hb => List.mem_cons_of_mem _ ((fun b hb => hb) b (hka b hb)), rfl⟩
  · conv => whnf
    refine n_Make _ _ _ _ ?_
    conv => whnf
    refine n_Remove _ _ _ ?_
    conv => whnf
    refine n_Depends _ _ _ ?_
    conv => whnf
    refine n_Renew _ _ _ ?_
    conv => whnf
    refine n_Copy _ _ ?_
    conv => whnf
    refine c_lives26 _ _ ?_
    intro H'
    conv => whnf
    refine ⟨rfl, ?_⟩
    conv => whnf
    exact fin (Weak.refl _) (hR _)
end Go.Proofs.Ytjgljgkfflojbaa.A
