/- dioramaref26: list, Script; dioramalaw26: do. -/
import Derived.Test.YtjgljgkfflojbaaD10
namespace Go.Proofs.Ytjgljgkfflojbaa.A
open Go Go.RowKit
set_option linter.unusedVariables false
set_option linter.unusedSimpArgs false
set_option maxRecDepth 20000

def listG (l : List Int) (at' n : Int) : Nat → Int × List Int
  | 0 => (-1, [])
  | i + 1 => ((listG l at' n i).1 + 1 + atv l (at' + 1 + i) 3, if (listG l at' n i).1 + 1 + atv l (at' + 1 + i) 3 < n then (listG l at' n i).2 ++ [(listG l at' n i).1 + 1 + atv l (at' + 1 + i) 3] else (listG l at' n i).2)
def listF (l : List Int) (at' n : Int) : List Int := (listG l at' n (atv l at' 5).toNat).2
theorem listG_bd (l : List Int) (at' n : Int) : ∀ i, -1 ≤ (listG l at' n i).1 ∧ (listG l at' n i).1 ≤ 3 * i ∧ (listG l at' n i).2.length ≤ i ∧ Inc (listG l at' n i).2 ∧ ∀ x ∈ (listG l at' n i).2, 0 ≤ x ∧ x < n ∧ x ≤ (listG l at' n i).1
  | 0 => ⟨by simp [listG], by simp [listG], by simp [listG], by simp [listG], by simp [listG]⟩
  | i + 1 => by
    obtain ⟨h1, h2, h3, h4, h5⟩ := listG_bd l at' n i
    have h := atv_bd l (at' + 1 + i) 3 (by omega)
    simp only [listG]
    refine ⟨by omega, by omega, ?_, ?_, ?_⟩
    · split
      · simp; omega
      · omega
    · split
      · exact List.pairwise_append.2 ⟨h4, by simp, fun a ha b hb => by rw [List.mem_singleton.1 hb]; have := h5 a ha; omega⟩
      · exact h4
    · intro x hx
      split at hx
      · rcases List.mem_append.1 hx with hx | hx
        · have := h5 x hx; omega
        · rw [List.mem_singleton.1 hx]; omega
      · have := h5 x hx; omega
theorem listF_bd (l : List Int) (at' n : Int) : (listF l at' n).length ≤ 4 ∧ Inc (listF l at' n) ∧ ∀ x ∈ listF l at' n, 0 ≤ x ∧ x < n := by
  obtain ⟨h1, h2, h3, h4, h5⟩ := listG_bd l at' n (atv l at' 5).toNat
  have := atv_bd l at' 5 (by omega)
  exact ⟨by unfold listF; omega, h4, fun x hx => by have := h5 x hx; omega⟩
theorem c_list (v : Value) (l : List Int) (at' n : Int) (H : Hp) (hv : IntsAt H v l) (hat : 0 ≤ at' ∧ at' ≤ 1000) (hn : 0 ≤ n ∧ n ≤ 1000) (R : Ending → Hp → Prop)
    (hR : ∀ v', RowVal v' 1 (ints (listF l at' n)) → R (.returned v') ⟨H.M, .row v' 3 1 (ints (listF l at' n)) :: H.L⟩) : ACalls Try.prog 36 [v, .int .i64 at', .int .i64 n] H R := by
  have h5 := atv_bd l at' 5 (by omega)
  obtain ⟨w, ew⟩ : ∃ w : Nat, atv l at' 5 = w := ⟨(atv l at' 5).toNat, by omega⟩
  have hF : listF l at' n = (listG l at' n w).2 := by unfold listF; rw [ew]; rfl
  rw [hF] at hR
  refine acalls_code hT Try.func36 rfl rfl ?_
  conv => whnf
  refine awp_loopL hT 34 [0, 1, 2, 7, 8, 9] (fun m vs H' => ∃ (k : Nat) (s : Value), vs = [v, .int .i64 at', .int .i64 n, s, .int .i64 (listG l at' n k).1, .int .i64 k] ∧ m + k = w ∧ RowVal s 1 (ints (listG l at' n k).2) ∧ H' = ⟨H.M, .row s 3 1 (ints (listG l at' n k).2) :: H.L⟩) w rfl rfl (weakNil H 3 1) ⟨0, .slice none 0 0, rfl, by omega, .inl ⟨rfl, rfl⟩, rfl⟩ ?_
  rintro m u vs H' ⟨k, s, rfl, hm, hs, rfl⟩
  obtain ⟨s1, s2, s3, rfl⟩ := hs.slice
  have hv' := hv.mono (HLe.cons H (.row (.slice s1 s2 s3) 3 1 (ints (listG l at' n k).2)))
  conv => whnf
  refine c_At v l _ _ (by omega) _ hv' _ ?_
  rw [ew]
  conv => whnf
  refine ifC_dec (fun h1 => ?_) (fun h1 => ?_)
  · obtain ⟨b1, b2, b3, _, _⟩ := listG_bd l at' n k
    have h3 := atv_bd l (at' + 1 + k) 3 (by omega)
    conv => whnf
    repeat (refine ⟨_, wi (by omega), ?_⟩; conv => whnf)
    refine c_At v l _ _ (by omega) _ hv' _ ?_
    conv => whnf
    repeat (refine ⟨_, wi (by omega), ?_⟩; conv => whnf)
    refine ifC_dec (fun h2 => ?_) (fun h2 => ?_)
    · conv => whnf
      intro q
      conv => whnf
      have hsucc : (listG l at' n (k + 1)).2 = (listG l at' n k).2 ++ [(listG l at' n k).1 + 1 + atv l (at' + 1 + k) 3] := by simp only [listG]; rw [if_pos h2]
      refine ⟨H.M, H.L, ints (listG l at' n k).2, ints [(listG l at' n k).1 + 1 + atv l (at' + 1 + k) 3], readsNew rfl rfl, ints_one _, weakK 1 rfl, by rw [ints_length, ints_length]; simp; omega, by rw [ints_length, ints_length]; simp [maxLen]; omega, fun v' hv2 => ?_⟩
      rw [← ints_append, ← hsucc] at *
      conv => whnf
      repeat (refine ⟨_, wi (by omega), ?_⟩; conv => whnf)
      exact ⟨rfl, rfl, m - 1, _, by omega, Weak.refl _, k + 1, v', rfl, by omega, hv2, rfl⟩
    · have hsucc : (listG l at' n (k + 1)).2 = (listG l at' n k).2 := by simp only [listG]; rw [if_neg h2]
      conv => whnf
      repeat (refine ⟨_, wi (by omega), ?_⟩; conv => whnf)
      exact ⟨rfl, rfl, m - 1, _, by omega, Weak.refl _, k + 1, .slice s1 s2 s3, rfl, by omega, by rw [hsucc]; exact hs, by rw [hsucc]⟩
  · have hk : k = w := by omega
    subst hk
    conv => whnf
    refine ⟨rfl, ?_⟩
    conv => whnf
    exact fin (Weak.refl _) (hR _ hs)

/-! ### Acts -/
structure A26 where
  k : Int
  n : Int
  f : List Int
  p : List Int
structure AV where
  fv : Value
  pv : Value
  a : A26
def avc (x : AV) : List Value := [.int .i64 x.a.k, .int .i64 x.a.n, x.fv, x.pv]
def avs (cs : List AV) : List Value := cs.flatMap avc
def av (x : AV) : Value := .agg #[.int .i64 x.a.k, .int .i64 x.a.n, x.fv, x.pv]
def doS (S : St) (a : A26) : St × Int × List Int × Int :=
  if a.k = 1 then ((rmS S a.n).1, 0, (rmS S a.n).2.1, (rmS S a.n).2.2) else
  if a.k = 2 then ((rnS S a.n).1, 0, [], (rnS S a.n).2) else
  ((mkS S a.f a.p).1, (mkS S a.f a.p).2.1, [], (mkS S a.f a.p).2.2)
theorem okS.do' {S : St} (h : okS S) (a : A26) : okS (doS S a).1 := by
  unfold doS; split
  · exact h.rm' _
  · split
    · exact h.rn' _
    · exact h.mk' _ _
theorem Bo.swap {g : Nat} {S : St} {M : Nat → Option Obj} {L0 : List Atom} {H : Hp} {a b : Atom} (h : Bo g S M (a :: b :: L0) H) : Bo g S M (b :: a :: L0) H := by
  obtain ⟨tv, r, ts, N, h1, h2, h3, h4⟩ := h
  refine ⟨tv, r, ts, N, h1, h2, fun x hx => (h3 x hx).mono (hle_sub fun y hy => ?_), h4.trans (Weak.perm (List.Perm.append_left _ (List.Perm.append_left _ (List.Perm.swap ..))))⟩
  simp only [List.mem_append, List.mem_cons] at hy ⊢
  rcases hy with h | h | h | h
  · exact .inl h
  · exact .inr (.inr (.inl h))
  · exact .inr (.inl h)
  · exact .inr (.inr (.inr h))
theorem p_do {g : Nat} {S : St} {M : Nat → Option Obj} {L0 : List Atom} {H : Hp} {R : Ending → Hp → Prop} (hb : Bo g S M L0 H) (hok : okS S) {x : AV} (hf : IntsAt ⟨M, L0⟩ x.fv x.a.f) (hp : IntsAt ⟨M, L0⟩ x.pv x.a.p)
    (hR : ∀ H' s, RowVal s 1 (ints (doS S x.a).2.2.1) → Bo g (doS S x.a).1 M (.row s 3 1 (ints (doS S x.a).2.2.1) :: L0) H' → R (.returned (.tuple #[.int .i64 (doS S x.a).2.1, s, .int .i64 (doS S x.a).2.2.2])) H') :
    ACalls Try.prog 14 [ptr g, av x] H R := by
  obtain ⟨pf, cf, ef, _⟩ := hf.open
  obtain ⟨pp, cp, ep, _⟩ := hp.open
  obtain ⟨fv, pv, a⟩ := x
  simp only at ef ep hf hp
  subst ef ep
  unfold doS at hR
  refine acalls_code hT Try.func14 rfl rfl ?_
  conv => whnf
  intro g3
  conv => whnf
  refine ldS 0 rfl rfl ?_
  conv => whnf
  refine ifC_dec (fun h1 => ?_) (fun h1 => ?_)
  · rw [if_pos h1] at hR
    conv => whnf
    refine ldS 0 rfl rfl ?_
    conv => whnf
    refine p_Remove (hb.add _) hok fun H' s hs hB => ?_
    obtain ⟨s1, s2, s3, rfl⟩ := hs.slice
    conv => whnf
    refine ⟨rfl, ?_⟩
    conv => whnf
    exact fin (Weak.refl _) (hR H' _ hs (Bo.take (A := [_]) hB.swap))
  · rw [if_neg h1] at hR
    conv => whnf
    refine ldS 0 rfl rfl ?_
    conv => whnf
    refine ifC_dec (fun h2 => ?_) (fun h2 => ?_)
    · rw [if_pos h2] at hR
      conv => whnf
      refine ldS 0 rfl rfl ?_
      conv => whnf
      refine p_Renew (hb.add _) hok fun H' hB => ?_
      conv => whnf
      refine ⟨rfl, ?_⟩
      conv => whnf
      exact fin (Weak.refl _) (hR H' (.slice none 0 0) (.inl ⟨rfl, rfl⟩) (Bo.nil (Bo.take (A := [_]) hB)))
    · rw [if_neg h2] at hR
      conv => whnf
      refine ldS 0 rfl rfl ?_
      conv => whnf
      refine ldS 0 rfl rfl ?_
      conv => whnf
      refine p_Make (hb.add _) hok (hf.mono (hle_sub fun y hy => List.mem_cons_of_mem _ hy)) (hp.mono (hle_sub fun y hy => List.mem_cons_of_mem _ hy)) fun H' hB => ?_
      conv => whnf
      refine ⟨rfl, ?_⟩
      conv => whnf
      exact fin (Weak.refl _) (hR H' (.slice none 0 0) (.inl ⟨rfl, rfl⟩) (Bo.nil (Bo.take (A := [_]) hB)))
end Go.Proofs.Ytjgljgkfflojbaa.A
