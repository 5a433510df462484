/- dioramaref26: Remove, Renew. -/
import Derived.Test.YtjgljgkfflojbaaE2
namespace Go.Proofs.Ytjgljgkfflojbaa.A
open Go Go.RowKit
set_option linter.unusedVariables false
set_option linter.unusedSimpArgs false
set_option maxRecDepth 20000

theorem rmV_rt (x : Int) (t : TV) : rtc (rmV x t) = rtc t ∧ (rmV x t).bv = t.bv := by unfold rmV; exact ⟨rfl, rfl⟩
theorem rts_rm (x : Int) (ts : List TV) : rts (ts.map (rmV x)) = rts ts := by
  induction ts with
  | nil => rfl
  | cons t ts ih => simp only [rts, List.map_cons, List.flatMap_cons] at *; rw [ih, (rmV_rt x t).1]
theorem rbs_rm (x : Int) (ts : List TV) : rbs (ts.map (rmV x)) = rbs ts := by
  unfold rbs; rw [List.map_map]; rfl
theorem rus_set {ts : List TV} {k : Nat} (hk : k < ts.length) (b : Bool) : setN (rus ts) k [.bool b] = rus (ts.set k { ts[k] with t := { ts[k].t with u := b } }) := by
  unfold rus
  rw [bools_set, List.map_set]
set_option maxHeartbeats 2000000 in
theorem c_Remove26r (g : Nat) (tv bv uv gv : Value) (ts : List TV) (gone : List Int) (x : Int) (M : Nat → Option Obj) (L : List Atom) (hV : RfV tv bv uv gv ts gone) (hl : ∀ x ∈ ts, ThAt ⟨M, L⟩ x) (hok : okS (stOf ts gone)) (hgl : gone.length ≤ 65536) (R : Ending → Hp → Prop)
    (h0 : (rmS (stOf ts gone) x).2.2 ≠ 0 → R (.returned (.tuple #[.slice none 0 0, .int .i64 (rmS (stOf ts gone) x).2.2])) ⟨M, rfA g tv bv uv gv ts gone ++ L⟩)
    (h1 : (rmS (stOf ts gone) x).2.2 = 0 → ∀ s gv', RowVal s 1 (ints (rmL (stOf ts gone) x)) → RfV tv bv uv gv' (ts.map (rmV x)) (gone ++ [x]) → R (.returned (.tuple #[s, .int .i64 0])) ⟨M, rfA g tv bv uv gv' (ts.map (rmV x)) (gone ++ [x]) ++ (.row s 3 1 (ints (rmL (stOf ts gone) x)) :: L)⟩) :
    ACalls Try.prog 43 [ptr g, .int .i64 x] ⟨M, rfA g tv bv uv gv ts gone ++ L⟩ R := by
  have ho := hok.ts.1
  have hn := ho.n
  obtain ⟨t1, t3, rfl⟩ := hV.t.cnt (by omega) (rts_length ts)
  obtain ⟨b1, b3, rfl⟩ := hV.b.cnt (by omega) (by rw [rbs_length, Nat.mul_one])
  obtain ⟨u1, u3, rfl⟩ := hV.u.cnt (by omega) (by rw [rus_length, Nat.mul_one])
  obtain ⟨g1, g3, rfl⟩ := hV.g.cnt (by omega) (by rw [ints_length, Nat.mul_one])
  have out : ∀ e, e ≠ 0 → (rmS (stOf ts gone) x).2.2 = e → R (.returned (.tuple #[.slice none 0 0, .int .i64 e])) ⟨M, rfA g (.slice t1 ts.length t3) (.slice b1 ts.length b3) (.slice u1 ts.length u3) (.slice g1 gone.length g3) ts gone ++ L⟩ := fun e he h => by rw [← h]; exact h0 (by rw [h]; exact he)
  have hcb0 : RfAt ⟨M, rfA g (.slice t1 ts.length t3) (.slice b1 ts.length b3) (.slice u1 ts.length u3) (.slice g1 gone.length g3) ts gone ++ L⟩ g (.slice t1 ts.length t3) (.slice b1 ts.length b3) (.slice u1 ts.length u3) (.slice g1 gone.length g3) ts gone :=
    rfIn hV (fun y hy => (hl y hy).mono (hle_sub fun a ha => List.mem_append_right _ ha)) fun a ha => List.mem_append_left _ ha
  have hIg : IntsAt ⟨M, rfA g (.slice t1 ts.length t3) (.slice b1 ts.length b3) (.slice u1 ts.length u3) (.slice g1 gone.length g3) ts gone ++ L⟩ (.slice g1 gone.length g3) gone := ⟨hcb0.g, fun x hx => by have := hok.gone x hx; omega, by omega⟩
  refine acalls_code hT Try.func43 rfl rfl ?_
  conv => whnf
  unfold rmS at out h0 h1
  have hg : (stOf ts gone).gone = gone := rfl
  rw [hg] at out h0 h1
  refine ifC_dec (fun c1 => ?_) (fun c1 => ?_)
  · conv => whnf
    refine ⟨rfl, ?_⟩
    conv => whnf
    exact fin (Weak.refl _) (out 5 (by omega) (by rw [if_pos (by omega)]))
  · conv => whnf
    refine ifC_dec (fun c2 => ?_) (fun c2 => ?_)
    · conv => whnf
      refine ⟨rfl, ?_⟩
      conv => whnf
      exact fin (Weak.refl _) (out 5 (by omega) (by rw [if_pos (by omega)]))
    · rw [if_neg (by omega)] at out h0 h1
      conv => whnf
      refine ldS 0 rfl rfl ?_
      conv => whnf
      refine c_Has26 _ gone _ _ hIg _ ?_
      by_cases hx : x ∈ gone
      · rw [decide_eq_true hx]
        conv => whnf
        refine ⟨rfl, ?_⟩
        conv => whnf
        exact fin (Weak.refl _) (out 7 (by omega) (by rw [if_pos hx]))
      · rw [decide_eq_false hx]
        rw [if_neg hx] at out h0 h1
        clear out h0
        have h1 := h1 rfl
        conv => whnf
        refine ldS 0 rfl rfl ?_
        conv => whnf
        intro q
        conv => whnf
        refine ⟨M, _, ints gone, ints [x], readsNew rfl rfl, ints_one _, (weakDel 0 rfl).trans (weakPull [4] rfl), by rw [ints_length, ints_length]; simp; omega, by rw [ints_length, ints_length]; simp [maxLen]; omega, fun gv' hgv => ?_⟩
        rw [← ints_append] at hgv ⊢
        obtain ⟨q1, q3, rfl⟩ := hgv.cnt (by omega) (by rw [ints_length, Nat.mul_one])
        conv => whnf
        refine stC 1 rfl rfl (by first | (refine ⟨rfl, ?_⟩; repeat' (first | exact trivial | refine ⟨rfl, ?_⟩)) | simp [oneCells, Value.oneCell', setN]) ?_
        conv => whnf
        have hthk : ∀ k, ∀ y ∈ rmK x k ts, ThAt ⟨M, L⟩ y := fun k => rmK_at hl
        refine awp_loopL hT 59 [0, 1, 6, 7] (fun m vs H' => ∃ (k : Nat) (s : Value), vs = [ptr g, .int .i64 x, s, .int .i64 k] ∧ m + k = ts.length ∧ RowVal s 1 (ints (rmO (stOf ts gone) x k)) ∧
          H' = ⟨M, .row s 3 1 (ints (rmO (stOf ts gone) x k)) :: .cells g 54 [.slice t1 ts.length t3, .slice b1 ts.length b3, .slice u1 ts.length u3, .slice q1 (gone ++ [x]).length q3] :: .row (.slice t1 ts.length t3) 40 2 (rts ts) :: .row (.slice b1 ts.length b3) 22 1 (rbs ts) :: .row (.slice u1 ts.length u3) 4 1 (rus (rmK x k ts)) :: .row (.slice q1 (gone ++ [x]).length q3) 3 1 (ints (gone ++ [x])) :: L⟩) ts.length rfl rfl ((weakPull [1, 1, 1, 1] rfl).trans (weakNil _ 3 1)) ⟨0, .slice none 0 0, rfl, rfl, .inl ⟨rfl, rfl⟩, rfl⟩ ?_
        rintro m u vs H' ⟨k, s, rfl, hk, hs, rfl⟩
        obtain ⟨s1, s2, s3, rfl⟩ := hs.slice
        have hol := rmO_len (stOf ts gone) x k
        conv => whnf
        refine ldS 1 rfl rfl ?_
        conv => whnf
        refine ifC_dec (fun h3 => ?_) (fun h3 => ?_)
        · have hkl : k < ts.length := by omega
          have hkr : k < (rmK x k ts).length := by rw [rmK_length]; exact hkl
          have hsucc := rmO_succ (stOf ts gone) x k
          have hmem := List.getElem_mem hkl
          rw [th_at (gone := gone) hkl] at hsucc
          have hKs := rmK_succ (x := x) hkl
          have hrb : Reads ⟨M, .row (.slice s1 s2 s3) 3 1 (ints (rmO (stOf ts gone) x k)) :: .cells g 54 [.slice t1 ts.length t3, .slice b1 ts.length b3, .slice u1 ts.length u3, .slice q1 (gone ++ [x]).length q3] :: .row (.slice t1 ts.length t3) 40 2 (rts ts) :: .row (.slice b1 ts.length b3) 22 1 (rbs ts) :: .row (.slice u1 ts.length u3) 4 1 (rus (rmK x k ts)) :: .row (.slice q1 (gone ++ [x]).length q3) 3 1 (ints (gone ++ [x])) :: L⟩ (.slice b1 ts.length b3) 1 (rbs ts) := readsRow (e := 22) (by simp) hV.b
          obtain ⟨_, _, e1, hcb⟩ := rbAt hrb
          cases e1
          obtain ⟨gb, ob, rfl, hcellb⟩ := hcb k hkl
          obtain ⟨_, _, e2, hcu⟩ := ruAt hcb0.u
          cases e2
          obtain ⟨gu, ou, rfl, _⟩ := hcu k hkl
          conv => whnf
          refine ldS 1 rfl rfl ?_
          conv => whnf
          refine ⟨gb, ob, rfl, by omega, ?_⟩
          conv => whnf
          refine ⟨_, hcellb, ?_⟩
          conv => whnf
          refine c_Has26 _ ts[k].t.b x _ ⟨(hl _ hmem).b.mono (hle_sub fun a ha => by simp [ha]), fun y hy => by have := ho.bb _ hmem y hy; omega, by have := ho.b _ hmem; omega⟩ _ ?_
          by_cases hxb : x ∈ ts[k].t.b
          · rw [decide_eq_true hxb]
            rw [if_pos hxb] at hsucc
            rw [rmV_eq hxb] at hKs
            have hset := rus_set hkr false
            rw [rmK_get hkl hkr, ← hKs] at hset
            conv => whnf
            refine ldS 1 rfl rfl ?_
            conv => whnf
            refine ⟨gu, ou, rfl, by omega, ?_⟩
            conv => whnf
            refine stW 4 rfl k (by simp) (by rw [rus_length, rmK_length]; simp; omega) ⟨rfl, trivial⟩ hset ?_
            conv => whnf
            intro gb
            conv => whnf
            refine ⟨M, _, ints (rmO (stOf ts gone) x k), ints [(k : Int)], readsNew rfl rfl, ints_one _, weakDel 0 rfl, by rw [ints_length, ints_length]; simp; omega, by rw [ints_length, ints_length]; simp [maxLen]; omega, fun v' hv' => ?_⟩
            rw [← ints_append, ← hsucc] at *
            conv => whnf
            repeat (refine ⟨_, wi (by omega), ?_⟩; conv => whnf)
            exact ⟨rfl, rfl, m - 1, _, by omega, Weak.refl _, k + 1, v', rfl, by omega, hv', rfl⟩
          · rw [decide_eq_false hxb]
            rw [if_neg hxb, List.append_nil] at hsucc
            rw [rmV_ne hxb] at hKs
            have hKs : rmK x (k + 1) ts = rmK x k ts := by
              rw [hKs]
              conv => rhs; rw [← List.set_getElem_self hkr]
              rw [rmK_get hkl hkr]
            conv => whnf
            repeat (refine ⟨_, wi (by omega), ?_⟩; conv => whnf)
            exact ⟨rfl, rfl, m - 1, _, by omega, Weak.refl _, k + 1, .slice s1 s2 s3, rfl, by omega, by rw [hsucc]; exact hs, by rw [hsucc, hKs]⟩
        · have hke : k = ts.length := by omega
          subst hke
          rw [rmK_all]
          have hO : rmO (stOf ts gone) x ts.length = rmL (stOf ts gone) x := by simp [rmO, rmL, stOf]
          rw [hO] at hs
          rw [hO]
          conv => whnf
          refine ⟨rfl, ?_⟩
          conv => whnf
          have := h1 _ (.slice q1 (gone ++ [x]).length q3) hs ⟨by rw [rts_rm]; exact hV.t, by rw [rbs_rm]; exact hV.b, hV.u.len (by rw [rus_length, rus_length, List.length_map]), hgv⟩
          unfold rfA at this
          rw [rts_rm, rbs_rm] at this
          exact fin (weakPull [1, 1, 1, 1, 1, 0] rfl) this
theorem rts_set {ts : List TV} {k : Nat} (hk : k < ts.length) (x : TV) : setN (rts ts) (k * 2) [x.fv, x.pv] = rts (ts.set k x) := by
  induction ts generalizing k with
  | nil => simp at hk
  | cons a r ih =>
    cases k with
    | zero => simp [rts, rtc, setN]
    | succ k =>
      have := ih (k := k) (by simpa using hk)
      simp only [rts, rtc, setN, List.flatMap_cons, List.set_cons_succ, List.cons_append, List.nil_append] at *
      rw [show (k + 1) * 2 + 1 = k * 2 + 1 + 1 + 1 by omega, show (k + 1) * 2 = k * 2 + 1 + 1 by omega]
      simp only [List.set_cons_succ]
      rw [this]
theorem rbs_set (ts : List TV) (k : Nat) (x : TV) : setN (rbs ts) k [x.bv] = rbs (ts.set k x) := by simp [setN, rbs, List.map_set]
theorem rus_set2 (ts : List TV) (k : Nat) (x : TV) : setN (rus ts) k [.bool x.t.u] = rus (ts.set k x) := by unfold rus; rw [bools_set, List.map_set]
def keptL (l gone : List Int) : List Int := l.filter fun x => !decide (x ∈ gone)
theorem keptL_succ {l gone : List Int} {k : Nat} (hk : k < l.length) : keptL (l.take (k + 1)) gone = if l[k] ∈ gone then keptL (l.take k) gone else keptL (l.take k) gone ++ [l[k]] := by
  unfold keptL
  rw [List.take_succ_eq_append_getElem hk, List.filter_append]
  by_cases h : l[k] ∈ gone <;> simp [h]
theorem keptL_len (l gone : List Int) (k : Nat) : (keptL (l.take k) gone).length ≤ l.length := by
  unfold keptL
  have := List.length_filter_le (fun x => !decide (x ∈ gone)) (l.take k)
  rw [List.length_take] at this
  omega
set_option maxHeartbeats 4000000 in
theorem c_Renew26r (g : Nat) (tv bv uv gv : Value) (ts : List TV) (gone : List Int) (i : Int) (M : Nat → Option Obj) (L : List Atom) (hV : RfV tv bv uv gv ts gone) (hl : ∀ x ∈ ts, ThAt ⟨M, L⟩ x) (hok : okS (stOf ts gone)) (hgl : gone.length ≤ 65536) (R : Ending → Hp → Prop)
    (h0 : (rnS (stOf ts gone) i).2 ≠ 0 → R (.returned (.int .i64 (rnS (stOf ts gone) i).2)) ⟨M, rfA g tv bv uv gv ts gone ++ L⟩)
    (h1 : (rnS (stOf ts gone) i).2 = 0 → ∀ (k : Nat) (hk : k < ts.length) x, i = k → x.t = rnT (stOf ts gone) ts[k].t → x.fv = ts[k].fv → RowVal x.pv 1 (ints x.t.p) → RowVal x.bv 1 (ints x.t.b) → RfV tv bv uv gv (ts.set k x) gone →
      R (.returned (.int .i64 0)) ⟨M, rfA g tv bv uv gv (ts.set k x) gone ++ (.row x.pv 3 1 (ints x.t.p) :: .row x.bv 3 1 (ints x.t.b) :: L)⟩) :
    ACalls Try.prog 44 [ptr g, .int .i64 i] ⟨M, rfA g tv bv uv gv ts gone ++ L⟩ R := by
  have ho := hok.ts.1
  have ho2 := hok.ts.2
  have hn := ho.n
  obtain ⟨t1, t3, rfl⟩ := hV.t.cnt (by omega) (rts_length ts)
  obtain ⟨b1, b3, rfl⟩ := hV.b.cnt (by omega) (by rw [rbs_length, Nat.mul_one])
  obtain ⟨u1, u3, rfl⟩ := hV.u.cnt (by omega) (by rw [rus_length, Nat.mul_one])
  obtain ⟨g1, g3, rfl⟩ := hV.g.cnt (by omega) (by rw [ints_length, Nat.mul_one])
  have hsn : (stOf ts gone).ts.length = ts.length := by simp [stOf]
  have out : ∀ e, e ≠ 0 → (rnS (stOf ts gone) i).2 = e → R (.returned (.int .i64 e)) ⟨M, rfA g (.slice t1 ts.length t3) (.slice b1 ts.length b3) (.slice u1 ts.length u3) (.slice g1 gone.length g3) ts gone ++ L⟩ := fun e he h => by rw [← h]; exact h0 (by rw [h]; exact he)
  have hcb : ∀ L', (∀ a ∈ rfA g (.slice t1 ts.length t3) (.slice b1 ts.length b3) (.slice u1 ts.length u3) (.slice g1 gone.length g3) ts gone ++ L, a ∈ L') → RfAt ⟨M, L'⟩ g (.slice t1 ts.length t3) (.slice b1 ts.length b3) (.slice u1 ts.length u3) (.slice g1 gone.length g3) ts gone :=
    fun L' h => rfIn hV (fun x hx => (hl x hx).mono (hle_sub fun a ha => h a (List.mem_append_right _ ha))) fun a ha => h a (List.mem_append_left _ ha)
  have hcb0 := hcb _ fun a ha => ha
  refine acalls_code hT Try.func44 rfl rfl ?_
  conv => whnf
  unfold rnS at out h0 h1
  rw [hsn] at out h0 h1
  refine ifC_dec (fun c1 => ?_) (fun c1 => ?_)
  · conv => whnf
    refine ⟨rfl, ?_⟩
    conv => whnf
    exact fin (Weak.refl _) (out 6 (by omega) (by rw [if_pos (by omega)]))
  · conv => whnf
    refine ldS 0 rfl rfl ?_
    conv => whnf
    refine ifC_dec (fun c2 => ?_) (fun c2 => ?_)
    · conv => whnf
      refine ⟨rfl, ?_⟩
      conv => whnf
      exact fin (Weak.refl _) (out 6 (by omega) (by rw [if_pos (by omega)]))
    · rw [if_neg (by omega)] at out h0 h1
      obtain ⟨k, rfl⟩ : ∃ k : Nat, i = k := ⟨i.toNat, by omega⟩
      have hk : k < ts.length := by omega
      rw [th_at hk] at out h0 h1
      have hmem := List.getElem_mem hk
      obtain ⟨_, _, e1, hct⟩ := rtAt hcb0.t
      cases e1
      obtain ⟨gt, ot, rfl, hce⟩ := hct k hk
      obtain ⟨_, _, e1, hcbb⟩ := rbAt hcb0.b
      cases e1
      obtain ⟨gb, ob, rfl, _⟩ := hcbb k hk
      obtain ⟨_, _, e1, hcu⟩ := ruAt hcb0.u
      cases e1
      obtain ⟨gu, ou, rfl, hcellu⟩ := hcu k hk
      conv => whnf
      refine ldS 0 rfl rfl ?_
      conv => whnf
      refine ⟨gu, ou, rfl, by omega, ?_⟩
      conv => whnf
      refine ⟨_, hcellu, ?_⟩
      cases hu : ts[k].t.u with
      | true =>
        conv => whnf
        refine ⟨rfl, ?_⟩
        conv => whnf
        exact fin (Weak.refl _) (out 8 (by omega) (by rw [if_pos hu]))
      | false =>
        rw [if_neg (by rw [hu]; simp)] at out h0 h1
        have hfr := ho2.f _ hmem
        have hfb := (riseF_iff.1 hfr).2
        have hpb := (riseF_iff.1 (ho2.p _ hmem)).2
        have hpl := ho2.pl _ hmem
        have hth := hl _ hmem
        obtain ⟨f1, f2, f3, efv⟩ := hth.f.slice
        obtain ⟨p1, p3, epv, _⟩ := intsAt hth.p
        conv => whnf
        refine ldS 0 rfl rfl ?_
        conv => whnf
        refine ⟨gt, ot, rfl, by omega, ?_⟩
        conv => whnf
        refine ⟨rtc ts[k], rfl, hce, ?_⟩
        unfold rtc
        rw [efv, epv]
        conv => whnf
        intro g5
        conv => whnf
        refine stC 0 rfl rfl (by first | (refine ⟨rfl, ?_⟩; repeat' (first | exact trivial | refine ⟨rfl, ?_⟩)) | simp [oneCells, Value.oneCell', setN]) ?_
        conv => whnf
        refine ldS 0 rfl rfl ?_
        conv => whnf
        have hcb1 := fun (X : List Atom) => hcb (X ++ (rfA g (.slice (some ⟨gt, ot, none⟩) ts.length t3) (.slice (some ⟨gb, ob, none⟩) ts.length b3) (.slice (some ⟨gu, ou, none⟩) ts.length u3) (.slice g1 gone.length g3) ts gone ++ L)) fun a ha => List.mem_append_right _ ha
        have hcb2 := hcb1 [.cells g5 40 [.slice f1 f2 f3, .slice p1 ts[k].t.p.length p3]]
        refine c_Stale26 g _ _ _ _ ts gone _ ts[k].t.f _ hcb2 ⟨by rw [← efv]; exact hth.f.mono (hle_sub fun a ha => by simp [ha]), fun x hx => by have := hfb x hx; omega, by have := riseF_len hfr; omega⟩ (fun x hx => by have := hfb x hx; omega) _ ?_
        cases hst : staleS (stOf ts gone) ts[k].t.f with
        | true =>
          conv => whnf
          refine ⟨rfl, ?_⟩
          conv => whnf
          exact fin (weakK 1 rfl) (out 17 (by omega) (by rw [if_pos hst]))
        | false =>
          rw [if_neg (by rw [hst]; simp)] at out h0 h1
          clear out h0
          have h1 := h1 rfl k hk
          conv => whnf
          refine awp_loopL hT 87 [0, 1, 5, 6, 7] (fun m vs H' => ∃ (j : Nat) (s : Value), vs = [ptr g, .int .i64 k, ptr g5, s, .int .i64 j] ∧ m + j = ts[k].t.p.length ∧ RowVal s 1 (ints (keptL (ts[k].t.p.take j) gone)) ∧
            H' = ⟨M, .row s 3 1 (ints (keptL (ts[k].t.p.take j) gone)) :: .cells g5 40 [.slice f1 f2 f3, .slice p1 ts[k].t.p.length p3] :: (rfA g (.slice (some ⟨gt, ot, none⟩) ts.length t3) (.slice (some ⟨gb, ob, none⟩) ts.length b3) (.slice (some ⟨gu, ou, none⟩) ts.length u3) (.slice g1 gone.length g3) ts gone ++ L)⟩) ts[k].t.p.length rfl rfl (weakNil _ 3 1) ⟨0, .slice none 0 0, rfl, by omega, .inl ⟨rfl, rfl⟩, rfl⟩ ?_
          rintro m u vs H' ⟨j, s, rfl, hm, hs, rfl⟩
          obtain ⟨s1, s2, s3, rfl⟩ := hs.slice
          have hkl := keptL_len ts[k].t.p gone j
          have hcb3 := hcb1 [.row (.slice s1 s2 s3) 3 1 (ints (keptL (ts[k].t.p.take j) gone)), .cells g5 40 [.slice f1 f2 f3, .slice p1 ts[k].t.p.length p3]]
          have hIg := (⟨hcb3.g, fun x hx => by have := hok.gone x hx; omega, by omega⟩ : IntsAt _ _ gone)
          conv => whnf
          refine ldS 1 rfl rfl ?_
          conv => whnf
          refine ifC_dec (fun h2 => ?_) (fun h2 => ?_)
          · have hjl : j < ts[k].t.p.length := by omega
            have hgj := geti_at hjl
            obtain ⟨_, _, e1, hcp⟩ := intsAt hth.p
            rw [epv] at e1
            cases e1
            obtain ⟨gp, op, rfl, hcell⟩ := hcp j (by omega) (by omega)
            have hcell := HLe.cell (H' := ⟨M, .row (.slice s1 s2 s3) 3 1 (ints (keptL (ts[k].t.p.take j) gone)) :: .cells g5 40 [.slice f1 f2 f3, .slice (some ⟨gp, op, none⟩) ts[k].t.p.length p3] :: (rfA g (.slice (some ⟨gt, ot, none⟩) ts.length t3) (.slice (some ⟨gb, ob, none⟩) ts.length b3) (.slice (some ⟨gu, ou, none⟩) ts.length u3) (.slice g1 gone.length g3) ts gone ++ L)⟩) (hle_sub fun a ha => by simp [ha]) hcell
            conv => whnf
            refine awp_drawQ hT hM 11 (by kernel_rfl) ?_
            conv => whnf
            refine ⟨_, hcb3.h 3 _ rfl, ?_⟩
            conv => whnf
            refine ldS 1 rfl rfl ?_
            conv => whnf
            refine ⟨gp, op, rfl, by omega, ?_⟩
            conv => whnf
            refine ⟨_, hcell, ?_⟩
            conv => whnf
            refine c_Has26 _ gone _ _ hIg _ ⟨Weak.refl _, ?_⟩
            by_cases hx : geti ts[k].t.p j ∈ gone
            · rw [decide_eq_true hx]
              have hsucc : keptL (ts[k].t.p.take (j + 1)) gone = keptL (ts[k].t.p.take j) gone := by rw [keptL_succ hjl, if_pos (by rw [← hgj]; exact hx)]
              conv => whnf
              repeat (refine ⟨_, wi (by omega), ?_⟩; conv => whnf)
              exact ⟨rfl, rfl, m - 1, _, by omega, Weak.refl _, j + 1, .slice s1 s2 s3, rfl, by omega, by rw [hsucc]; exact hs, by rw [hsucc]⟩
            · rw [decide_eq_false hx]
              have hsucc : keptL (ts[k].t.p.take (j + 1)) gone = keptL (ts[k].t.p.take j) gone ++ [geti ts[k].t.p j] := by rw [keptL_succ hjl, if_neg (by rw [← hgj]; exact hx), hgj]
              conv => whnf
              refine ldS 1 rfl rfl ?_
              conv => whnf
              refine ⟨gp, op, rfl, by omega, ?_⟩
              conv => whnf
              refine ⟨_, hcell, ?_⟩
              conv => whnf
              intro q
              conv => whnf
              refine ⟨M, _, ints (keptL (ts[k].t.p.take j) gone), ints [geti ts[k].t.p j], readsNew rfl rfl, ints_one _, weakDel 0 rfl, by rw [ints_length, ints_length]; simp; omega, by rw [ints_length, ints_length]; simp [maxLen]; omega, fun w hw => ?_⟩
              rw [← ints_append, ← hsucc] at *
              conv => whnf
              repeat (refine ⟨_, wi (by omega), ?_⟩; conv => whnf)
              exact ⟨rfl, rfl, m - 1, _, by omega, Weak.refl _, j + 1, w, rfl, by omega, hw, rfl⟩
          · have hje : j = ts[k].t.p.length := by omega
            subst hje
            rw [List.take_length] at hs hkl ⊢
            obtain ⟨x1, ex1⟩ : ∃ x1 : TV, x1 = ⟨.slice f1 f2 f3, .slice s1 s2 s3, ts[k].bv, ts[k].t⟩ := ⟨_, rfl⟩
            have hset1 := rts_set hk x1
            rw [show x1.fv = .slice f1 f2 f3 by rw [ex1], show x1.pv = .slice s1 s2 s3 by rw [ex1]] at hset1
            have hsx : ∀ x : TV, x.fv = x1.fv → x.pv = x1.pv → rts (ts.set k x) = rts (ts.set k x1) := fun x e1 e2 => by rw [← rts_set hk x, ← rts_set hk x1, e1, e2]
            conv => whnf
            refine stC 1 rfl rfl (by first | (refine ⟨rfl, ?_⟩; repeat' (first | exact trivial | refine ⟨rfl, ?_⟩)) | simp [oneCells, Value.oneCell', setN]) ?_
            conv => whnf
            refine awp_drawQ hT hM 6 (by kernel_rfl) ?_
            conv => whnf
            refine ⟨_, cellOwn (e := 54) (cs := [.slice (some ⟨gt, ot, none⟩) ts.length t3, .slice (some ⟨gb, ob, none⟩) ts.length b3, .slice (some ⟨gu, ou, none⟩) ts.length u3, .slice g1 gone.length g3]) (by simp [rfA]) rfl, ?_⟩
            conv => whnf
            refine ldA 1 rfl rfl ?_
            conv => whnf
            refine ⟨gt, ot, rfl, by omega, ?_⟩
            conv => whnf
            refine stW 3 rfl (k * 2) (by simp) (by rw [rts_length]; simp [setN]; omega) ⟨rfl, rfl, trivial⟩ hset1 ?_
            conv => whnf
            refine awp_draw hT hM 8 (List.range 8) (by kernel_rfl) M _ [] (by rw [List.append_nil]; exact Weak.refl _) ?_
            conv => whnf
            refine ldS 2 rfl rfl ?_
            conv => whnf
            refine ldA 1 rfl rfl ?_
            conv => whnf
            have hkept := (riseF_iff.1 (filter_rise (fun x => !decide (x ∈ gone)) (ho2.p _ hmem))).2
            refine c_Base26 g (.slice (some ⟨gt, ot, none⟩) ts.length t3) (.slice (some ⟨gb, ob, none⟩) ts.length b3) (.slice (some ⟨gu, ou, none⟩) ts.length u3) (.slice g1 gone.length g3) ts gone _ _ ts[k].t.f (keptL ts[k].t.p gone) _
              (fun i v hi => cellOwn (e := 54) (cs := [.slice (some ⟨gt, ot, none⟩) ts.length t3, .slice (some ⟨gb, ob, none⟩) ts.length b3, .slice (some ⟨gu, ou, none⟩) ts.length u3, .slice g1 gone.length g3]) (by simp [rfA]) (by rw [Nat.zero_add]; exact hi))
              (readsRow (e := 22) (by simp [rfA]) hV.b) (fun x hx => ((hl x hx).b).mono (hle_sub fun a ha => by simp [rfA, ha])) ho
              ⟨by rw [← efv]; exact hth.f.mono (hle_sub fun a ha => by simp [rfA, ha]), fun x hx => by have := hfb x hx; omega, by have := riseF_len hfr; omega⟩
              ⟨readsRow (e := 3) (by simp) hs, fun x hx => by have := hkept x hx; omega, by omega⟩ (by have := riseF_len hfr; omega) (by omega) (fun x hx => by have := hkept x hx; omega) (fun x hx => by have := hfb x hx; omega) _ ?_
            intro bw hbw
            obtain ⟨w1, w2, w3, rfl⟩ := hbw.slice
            obtain ⟨x, ex⟩ : ∃ x : TV, x = ⟨ts[k].fv, .slice s1 s2 s3, .slice w1 w2 w3, rnT (stOf ts gone) ts[k].t⟩ := ⟨_, rfl⟩
            have hset2 := rbs_set ts k x
            have hset3 := rus_set2 ts k x
            rw [show x.bv = .slice w1 w2 w3 by rw [ex]] at hset2
            rw [show x.t.u = true by rw [ex]; rfl] at hset3
            refine ⟨_, _ :: _, weakMid, fun _ _ h => h, ?_⟩
            conv => whnf
            refine ⟨_, Weak.perm List.perm_append_comm, ?_⟩
            conv => whnf
            refine ⟨gb, ob, rfl, by omega, ?_⟩
            conv => whnf
            refine stW 5 rfl k (by simp) (by rw [rbs_length]; simp; omega) ⟨rfl, trivial⟩ hset2 ?_
            conv => whnf
            refine ldS 3 rfl rfl ?_
            conv => whnf
            refine ⟨gu, ou, rfl, by omega, ?_⟩
            conv => whnf
            refine stW 6 rfl k (by simp) (by rw [rus_length]; simp; omega) ⟨rfl, trivial⟩ hset3 ?_
            conv => whnf
            refine ⟨rfl, ?_⟩
            conv => whnf
            have := h1 x rfl (by rw [ex]) (by rw [ex]) (by rw [ex]; exact hs) (by rw [ex]; exact hbw) ⟨hV.t.len (by rw [rts_length, rts_length, List.length_set]), hV.b.len (by rw [rbs_length, rbs_length, List.length_set]), hV.u.len (by rw [rus_length, rus_length, List.length_set]), hV.g⟩
            refine fin ?_ this
            rw [← hsx x (by rw [ex, ex1, efv]) (by rw [ex, ex1])]
            rw [show x.pv = .slice s1 s2 s3 by rw [ex], show x.bv = .slice w1 w2 w3 by rw [ex], show x.t.p = keptL ts[k].t.p gone by rw [ex]; rfl, show x.t.b = norm (baseL (stOf ts gone) ts[k].t.f (keptL ts[k].t.p gone)) by rw [ex]; rfl]
            exact (weakPull [3, 3, 3, 3, 3, 1, 0] rfl).trans (weakSkip 7 1 rfl)
end Go.Proofs.Ytjgljgkfflojbaa.A
