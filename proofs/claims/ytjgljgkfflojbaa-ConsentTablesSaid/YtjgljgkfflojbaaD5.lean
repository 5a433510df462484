/- consent: New, has, Depends, Remove. -/
import Derived.Test.YtjgljgkfflojbaaD4
namespace Go.Proofs.Ytjgljgkfflojbaa.A
open Go Go.RowKit
set_option linter.unusedVariables false
set_option linter.unusedSimpArgs false
set_option maxRecDepth 20000

theorem c_New26 (H : Hp) (R : Ending → Hp → Prop) (hR : ∀ g r, R (.returned (ptr g)) ⟨H.M, cbA g (.slice none 0 0) r [] [] ++ H.L⟩) : ACalls Try.prog 8 [] H R := by
  refine acalls_code hT Try.func8 rfl rfl ?_
  conv => whnf
  intro r
  conv => whnf
  intro g
  conv => whnf
  refine ⟨rfl, ?_⟩
  conv => whnf
  exact fin ((weakNil _ 82 4).trans (weakPull [1, 0, 0] rfl)) (hR g r)
theorem c_has26 (g : Nat) (tv : Value) (r : Nat) (ts : List TV) (gone : List Int) (i : Int) (H : Hp) (hb : CbAt H g tv r ts gone) (R : Ending → Hp → Prop)
    (hR : R (.returned (.bool (decide (0 ≤ i ∧ i < ts.length)))) H) : ACalls Try.prog 37 [ptr g, .int .i64 i] H R := by
  obtain ⟨pt, ct, rfl, _⟩ := tvsAt hb.t
  refine acalls_code hT Try.func37 rfl rfl ?_
  conv => whnf
  refine ifC_dec (fun h1 => ?_) (fun h1 => ?_)
  · conv => whnf
    refine ⟨_, hb.h 0 _ rfl, ?_⟩
    conv => whnf
    refine ⟨rfl, ?_⟩
    conv => whnf
    have : decide (0 ≤ i ∧ i < (ts.length : Int)) = decide (i < (ts.length : Int)) := by
      by_cases h : i < (ts.length : Int) <;> simp [h] <;> omega
    rw [this] at hR
    exact fin (Weak.refl _) hR
  · conv => whnf
    refine ⟨rfl, ?_⟩
    conv => whnf
    rw [decide_eq_false (by omega)] at hR
    exact fin (Weak.refl _) hR
theorem c_Depends (g : Nat) (tv : Value) (r : Nat) (ts : List TV) (gone : List Int) (i : Int) (H : Hp) (hb : CbAt H g tv r ts gone) (ho : okTs ts) (R : Ending → Hp → Prop)
    (h0 : ¬ (0 ≤ i ∧ i < ts.length) → R (.returned (.tuple #[.slice none 0 0, .bool false, .int .i64 6])) H)
    (h1 : 0 ≤ i ∧ i < ts.length → ∀ v', RowVal v' 1 (ints ((stOf ts gone).th i).b) → R (.returned (.tuple #[v', .bool ((stOf ts gone).th i).u, .int .i64 0])) ⟨H.M, .row v' 3 1 (ints ((stOf ts gone).th i).b) :: H.L⟩) :
    ACalls Try.prog 15 [ptr g, .int .i64 i] H R := by
  obtain ⟨pt, ct, rfl, hct⟩ := tvsAt hb.t
  refine acalls_code hT Try.func15 rfl rfl ?_
  conv => whnf
  refine c_has26 g _ r ts gone i _ hb _ ?_
  by_cases hi : 0 ≤ i ∧ i < ts.length
  · rw [decide_eq_true hi]
    obtain ⟨k, rfl⟩ : ∃ k : Nat, i = k := ⟨i.toNat, by omega⟩
    have hk : k < ts.length := by omega
    obtain ⟨gt, ot, rfl, hce⟩ := hct k hk
    have h1 := h1 hi
    rw [th_at hk] at h1
    have hx := List.getElem_mem hk
    conv => whnf
    refine awp_draw hT hM 18 (List.range 18) (by kernel_rfl) H.M H.L [] (by rw [List.append_nil]; exact Weak.refl _) ?_
    conv => whnf
    refine ⟨_, hb.h 0 _ rfl, ?_⟩
    conv => whnf
    refine ⟨gt, ot, rfl, by omega, ?_⟩
    conv => whnf
    refine ⟨_, hce 2 _ rfl, ?_⟩
    conv => whnf
    refine c_CloneI _ _ _ ((hb.l _ hx).b.mono (hle_app _ _ _)) (ints_one _) (by rw [ints_length]; have := ho.b _ hx; omega) _ ?_
    intro v' hv'
    obtain ⟨a1, a2, a3, rfl⟩ := hv'.slice
    refine ⟨_, _ :: _, weakMid, fun _ _ h => h, ?_⟩
    conv => whnf
    refine ⟨_, hb.h 0 _ rfl, ?_⟩
    conv => whnf
    refine ⟨gt, ot, rfl, by omega, ?_⟩
    conv => whnf
    refine ⟨_, hce 3 _ rfl, ?_⟩
    conv => whnf
    refine ⟨_, Weak.perm List.perm_append_comm, ?_⟩
    conv => whnf
    refine ⟨rfl, ?_⟩
    conv => whnf
    exact fin (Weak.refl _) (h1 _ hv')
  · rw [decide_eq_false hi]
    conv => whnf
    refine ⟨rfl, ?_⟩
    conv => whnf
    exact fin (Weak.refl _) (h0 hi)

/-! ### Remove -/
def rmV (x : Int) (t : TV) : TV := { t with t := rmT x t.t }
def rmK (x : Int) (k : Nat) (ts : List TV) : List TV := (ts.take k).map (rmV x) ++ ts.drop k
theorem rmK_length (x : Int) (k : Nat) (ts : List TV) : (rmK x k ts).length = ts.length := by simp [rmK]; omega
theorem rmK_get {x : Int} {k : Nat} {ts : List TV} (hk : k < ts.length) (h : k < (rmK x k ts).length) : (rmK x k ts)[k] = ts[k] := by
  simp only [rmK]
  rw [List.getElem_append_right (by simp; omega)]
  simp [Nat.min_eq_left (Nat.le_of_lt hk)]
theorem rmK_succ {x : Int} {k : Nat} {ts : List TV} (hk : k < ts.length) : rmK x (k + 1) ts = (rmK x k ts).set k (rmV x ts[k]) := by
  have e : rmK x k ts = (ts.take k).map (rmV x) ++ (ts[k] :: ts.drop (k + 1)) := by rw [rmK, List.drop_eq_getElem_cons hk]
  rw [e, List.set_append_right _ _ (by simp; omega), show k - ((ts.take k).map (rmV x)).length = 0 by simp; omega, List.set_cons_zero]
  rw [rmK, List.take_succ_eq_append_getElem hk, List.map_append, List.append_assoc]
  rfl
theorem rmK_all (x : Int) (ts : List TV) : rmK x ts.length ts = ts.map (rmV x) := by simp [rmK]
theorem tvs_set {ts : List TV} {k : Nat} (hk : k < ts.length) (b : Bool) : setN (tvs ts) (k * 4 + 3) [.bool b] = tvs (ts.set k { ts[k] with t := { ts[k].t with u := b } }) := by
  induction ts generalizing k with
  | nil => simp at hk
  | cons a l ih =>
    cases k with
    | zero => simp [tvs, tvc, setN]
    | succ k =>
      have := ih (k := k) (by simpa using hk)
      simp only [tvs, tvc, setN, List.flatMap_cons, List.set_cons_succ, List.cons_append, List.nil_append, List.getElem_cons_succ] at *
      rw [show (k + 1) * 4 = k * 4 + 3 + 1 by omega]
      simp only [List.set_cons_succ]
      rw [this]
theorem mUpd_gmap {x : Int} : ∀ {gone : List Int}, x ∉ gone → mUpd (gmap gone) x (.bool true) = gmap (gone ++ [x])
  | [], _ => rfl
  | a :: l, h => by
    have ih := mUpd_gmap (x := x) (gone := l) fun h' => h (List.mem_cons_of_mem _ h')
    show (if a = x then _ else _) = _
    rw [if_neg (fun e => h (by rw [e]; exact List.mem_cons_self))]
    show _ :: mUpd (gmap l) x (.bool true) = _
    rw [ih]; rfl
theorem rmV_ne {x : Int} {t : TV} (h : x ∉ t.t.b) : rmV x t = t := by
  unfold rmV rmT; rw [if_neg h]
theorem rmV_eq {x : Int} {t : TV} (h : x ∈ t.t.b) : rmV x t = { t with t := { t.t with u := false } } := by
  unfold rmV rmT; rw [if_pos h]
def rmO (S : St) (x : Int) (k : Nat) : List Int := ((List.range k).filter fun i : Nat => decide (x ∈ (S.th i).b)).map fun i : Nat => (i : Int)
theorem rmO_succ (S : St) (x : Int) (k : Nat) : rmO S x (k + 1) = rmO S x k ++ (if x ∈ (S.th k).b then [(k : Int)] else []) := by
  unfold rmO
  rw [List.range_succ, List.filter_append, List.map_append]
  congr 1
  by_cases h : x ∈ (S.th k).b <;> simp [h]
theorem rmO_len (S : St) (x : Int) (k : Nat) : (rmO S x k).length ≤ k := by
  unfold rmO
  rw [List.length_map]
  exact Nat.le_trans (List.length_filter_le _ _) (by simp)
theorem rmK_at {H : Hp} {x : Int} {k : Nat} {ts : List TV} (h : ∀ y ∈ ts, ThAt H y) : ∀ y ∈ rmK x k ts, ThAt H y := fun y hy => by
  rcases List.mem_append.1 hy with hy | hy
  · obtain ⟨z, hz, rfl⟩ := List.mem_map.1 hy
    have hz := h z (List.mem_of_mem_take hz)
    unfold rmV rmT
    split <;> exact ⟨hz.f, hz.p, hz.b⟩
  · exact h y (List.mem_of_mem_drop hy)

set_option maxHeartbeats 2000000 in
theorem c_Remove26 (g : Nat) (tv : Value) (r : Nat) (ts : List TV) (gone : List Int) (x : Int) (M : Nat → Option Obj) (L : List Atom) (ht : RowVal tv 4 (tvs ts)) (hl : ∀ x ∈ ts, ThAt ⟨M, L⟩ x) (ho : okTs ts) (R : Ending → Hp → Prop)
    (h0 : (rmS (stOf ts gone) x).2.2 ≠ 0 → R (.returned (.tuple #[.slice none 0 0, .int .i64 (rmS (stOf ts gone) x).2.2])) ⟨M, cbA g tv r ts gone ++ L⟩)
    (h1 : (rmS (stOf ts gone) x).2.2 = 0 → ∀ s, RowVal s 1 (ints (rmL (stOf ts gone) x)) → RowVal tv 4 (tvs (ts.map (rmV x))) → R (.returned (.tuple #[s, .int .i64 0])) ⟨M, cbA g tv r (ts.map (rmV x)) (gone ++ [x]) ++ (.row s 3 1 (ints (rmL (stOf ts gone) x)) :: L)⟩) :
    ACalls Try.prog 24 [ptr g, .int .i64 x] ⟨M, cbA g tv r ts gone ++ L⟩ R := by
  have hn := ho.n
  have out : ∀ e, e ≠ 0 → (rmS (stOf ts gone) x).2.2 = e → R (.returned (.tuple #[.slice none 0 0, .int .i64 e])) ⟨M, cbA g tv r ts gone ++ L⟩ := fun e he h => by rw [← h]; exact h0 (by rw [h]; exact he)
  have hcb0 : CbAt ⟨M, cbA g tv r ts gone ++ L⟩ g tv r ts gone := cbIn ht (fun y hy => (hl y hy).mono (hle_sub fun a ha => by simp [ha])) (fun a ha => by simp [ha])
  obtain ⟨pt, ct, rfl, _⟩ := tvsAt hcb0.t
  refine acalls_code hT Try.func24 rfl rfl ?_
  conv => whnf
  unfold rmS at out h0 h1
  have hg : (stOf ts gone).gone = gone := rfl
  rw [hg] at out h0 h1
  refine ifC_dec (fun c1 => ?_) (fun c1 => ?_)
  · conv => whnf
    refine ⟨rfl, ?_⟩
    conv => whnf
    exact fin (Weak.refl _) (out 5 (by omega) (by rw [if_pos (by omega)]))
  · conv => whnf
    refine ifC_dec (fun c2 => ?_) (fun c2 => ?_)
    · conv => whnf
      refine ⟨rfl, ?_⟩
      conv => whnf
      exact fin (Weak.refl _) (out 5 (by omega) (by rw [if_pos (by omega)]))
    · rw [if_neg (by omega)] at out h0 h1
      conv => whnf
      refine ⟨_, hcb0.h 1 _ rfl, ?_⟩
      conv => whnf
      refine ⟨_, hcb0.m, ?_⟩
      rw [mLook_gmap]
      by_cases hx : x ∈ gone
      · rw [decide_eq_true hx]
        conv => whnf
        refine ⟨rfl, ?_⟩
        conv => whnf
        exact fin (Weak.refl _) (out 7 (by omega) (by rw [if_pos hx]))
      · rw [decide_eq_false hx]
        rw [if_neg hx] at out h0 h1
        clear out h0
        have h1 := h1 rfl
        conv => whnf
        refine ⟨_, hcb0.h 1 _ rfl, ?_⟩
        conv => whnf
        refine ⟨2, _, rfl, ?_⟩
        rw [mUpd_gmap hx]
        conv => whnf
        refine ldS 0 rfl rfl ?_
        conv => whnf
        have hthk : ∀ k, ∀ y ∈ rmK x k ts, ThAt ⟨M, L⟩ y := fun k => rmK_at hl
        refine awp_loopL hT 61 [0, 1, 6, 34, 35] (fun m vs H' => ∃ (k : Nat) (s : Value), vs = [ptr g, .int .i64 x, s, .int .i64 ts.length, .int .i64 k] ∧ m + k = ts.length ∧ RowVal s 1 (ints (rmO (stOf ts gone) x k)) ∧ RowVal (.slice pt ts.length ct) 4 (tvs (rmK x k ts)) ∧
          H' = ⟨M, cbA g (.slice pt ts.length ct) r (rmK x k ts) (gone ++ [x]) ++ (.row s 3 1 (ints (rmO (stOf ts gone) x k)) :: L)⟩) ts.length rfl rfl ((weakNil _ 3 1).trans (weakPull [1, 1, 1] rfl)) ⟨0, .slice none 0 0, rfl, rfl, .inl ⟨rfl, rfl⟩, ht, rfl⟩ ?_
        rintro m u vs H' ⟨k, s, rfl, hk, hs, htk, rfl⟩
        obtain ⟨s1, s2, s3, rfl⟩ := hs.slice
        conv => whnf
        refine ifC_dec (fun h3 => ?_) (fun h3 => ?_)
        · have hkl : k < ts.length := by omega
          have hcb : CbAt ⟨M, cbA g (.slice pt ts.length ct) r (rmK x k ts) (gone ++ [x]) ++ (.row (.slice s1 s2 s3) 3 1 (ints (rmO (stOf ts gone) x k)) :: L)⟩ g (.slice pt ts.length ct) r (rmK x k ts) (gone ++ [x]) :=
            cbIn htk (fun y hy => (hthk k y hy).mono (hle_sub fun a ha => by simp [ha])) (fun a ha => by simp [ha])
          have hkr : k < (rmK x k ts).length := by rw [rmK_length]; exact hkl
          obtain ⟨q1, q2, eq, hct⟩ := tvsAt hcb.t
          obtain ⟨gt, ot, e3, hce⟩ := hct k hkr
          rw [rmK_length] at eq
          cases eq
          subst e3
          rw [rmK_get hkl hkr] at hce
          have hmem := List.getElem_mem hkl
          have hthx := th_at (gone := gone) hkl
          have hsucc := rmO_succ (stOf ts gone) x k
          have hKs := rmK_succ (x := x) hkl
          have hol := rmO_len (stOf ts gone) x k
          rw [hthx] at hsucc
          conv => whnf
          refine ldS 0 rfl rfl ?_
          conv => whnf
          refine ⟨gt, ot, rfl, by omega, ?_⟩
          conv => whnf
          refine ⟨_, hce 2 _ rfl, ?_⟩
          conv => whnf
          refine c_Contains _ ts[k].t.b x _ ⟨(hl _ hmem).b.mono (hle_sub fun a ha => by simp [ha]), fun y hy => by have := ho.bb _ hmem y hy; omega, by have := ho.b _ hmem; omega⟩ _ ?_
          by_cases hxb : x ∈ ts[k].t.b
          · rw [decide_eq_true hxb]
            rw [if_pos hxb] at hsucc
            rw [rmV_eq hxb] at hKs
            conv => whnf
            refine ldS 0 rfl rfl ?_
            conv => whnf
            refine ⟨gt, ot, rfl, by omega, ?_⟩
            conv => whnf
            refine stW 1 rfl (k * 4 + 3) (by simp; omega) (by rw [tvs_length, rmK_length]; simp; omega) ⟨rfl, trivial⟩ (tvs_set hkr false) ?_
            rw [rmK_get hkl hkr, ← hKs]
            conv => whnf
            intro gb
            conv => whnf
            refine ⟨M, cbA g (.slice (some ⟨gt, ot, none⟩) ts.length ct) r (rmK x (k + 1) ts) (gone ++ [x]) ++ L, ints (rmO (stOf ts gone) x k), ints [(k : Int)], readsNew rfl rfl, ints_one _, (weakPull [4] rfl).trans (weakDel 1 rfl), by rw [ints_length, ints_length]; simp; omega, by rw [ints_length, ints_length]; simp [maxLen]; omega, fun v' hv' => ?_⟩
            rw [← ints_append, ← hsucc] at *
            conv => whnf
            repeat (refine ⟨_, wi (by omega), ?_⟩; conv => whnf)
            exact ⟨rfl, rfl, m - 1, _, by omega, weakPull [1, 1, 1] rfl, k + 1, v', rfl, by omega, hv', htk.len (by rw [tvs_length, tvs_length, rmK_length, rmK_length]), rfl⟩
          · rw [decide_eq_false hxb]
            rw [if_neg hxb, List.append_nil] at hsucc
            rw [rmV_ne hxb] at hKs
            have hKs : rmK x (k + 1) ts = rmK x k ts := by
              rw [hKs]
              conv => rhs; rw [← List.set_getElem_self hkr]
              rw [rmK_get hkl hkr]
            conv => whnf
            repeat (refine ⟨_, wi (by omega), ?_⟩; conv => whnf)
            exact ⟨rfl, rfl, m - 1, _, by omega, Weak.refl _, k + 1, .slice s1 s2 s3, rfl, by omega, by rw [hsucc]; exact hs, by rw [hKs]; exact htk, by rw [hsucc, hKs]⟩
        · have hke : k = ts.length := by omega
          subst hke
          rw [rmK_all] at htk
          rw [rmK_all]
          have hO : rmO (stOf ts gone) x ts.length = rmL (stOf ts gone) x := by simp [rmO, rmL, stOf]
          rw [hO] at hs
          rw [hO]
          conv => whnf
          refine ⟨rfl, ?_⟩
          conv => whnf
          exact fin (Weak.refl _) (h1 _ hs htk)
end Go.Proofs.Ytjgljgkfflojbaa.A
