/- noise and dioramaref23: Weights. -/
import Derived.Test.YtohdcmkooedkcaaN1
import Derived.Test.YtohdcmkooedkcaaK4
import Derived.Test.YtohdcmkooedkcaaA16
namespace Go.Proofs.Ytohdcmkooedkcaa.A
open Go Go.RowKit
set_option linter.unusedVariables false
set_option linter.unusedSimpArgs false
set_option maxRecDepth 20000

def wtsUp (c m k : Int) (n : Nat) : List Int := (List.range n).map fun x : Nat => wtF c m k x
theorem wtsUp_succ (c m k : Int) (n : Nat) : wtsUp c m k (n + 1) = wtsUp c m k n ++ [wtF c m k n] := by simp [wtsUp, List.range_succ]
theorem wtsUp_len (c m k : Int) (n : Nat) : (wtsUp c m k n).length = n := by simp [wtsUp]
def wtsL (c m k : Int) : List Int := wtsUp c m k (m + 1).toNat
/-- The iterator: what a round does, told by J; D: where a round has left. -/
theorem c_all1 (gb : Nat) (c m k : Int) (hk : HidOk c m k) (l : Nat) (J : Nat → Hp → Prop) (D : Hp → Prop) (hcell : ∀ x H, J x H → CellsAt H gb 0 [.int .i64 c, .int .i64 m, .int .i64 k])
    (hy : ∀ (x : Nat) (H : Hp), J x H → (x : Int) ≤ m → ∀ R' : Ending → Hp → Prop, (∀ H' H2, Weak H' H2 → J (x + 1) H2 → R' (.returned (.bool true)) H') → (∀ H', D H' → R' (.returned (.bool false)) H') → AYields Try.prog l [.int .i64 x, .int .i64 (wtF c m k x)] H R')
    (H : Hp) (h0 : J 0 H) (R : Ending → Hp → Prop) (hR : ∀ H', (∃ x : Nat, (x : Int) = m + 1 ∧ J x H') ∨ D H' → R (.returned (.tuple #[])) H') : ACalls Try.prog 59 [.func (.yield l) #[] #[], ptr gb] H R := by
  have hm1 := hk.m1
  have hm37 := hk.m37
  obtain ⟨w, hw⟩ : ∃ w : Nat, m + 1 = w := ⟨(m + 1).toNat, by omega⟩
  refine acalls_codeY hT Try.func59 rfl rfl ?_
  conv => whnf
  refine ⟨_, hcell 0 H h0 1 _ rfl, ?_⟩
  conv => whnf
  repeat (refine ⟨_, wi (by omega), ?_⟩; conv => whnf)
  rw [hw]
  refine awp_loopY hT 18 [0, 1, 6, 7] (fun n vs H' => ∃ x : Nat, vs = [.func (.yield l) #[] #[], ptr gb, .int .i64 w, .int .i64 x] ∧ n + x = w ∧ J x H') w rfl rfl (Weak.refl _) ⟨0, rfl, rfl, h0⟩ ?_
  rintro n u vs H' ⟨x, rfl, hx, hJ⟩
  conv => whnf
  refine ifC_dec (fun h1 => ?_) (fun h1 => ?_)
  · conv => whnf
    refine ⟨_, rfl, hcell x H' hJ, ?_⟩
    conv => whnf
    refine c_weight c m k x hk (by omega) (by omega) _ _ ?_
    conv => whnf
    refine hy x H' hJ (by omega) _ (fun H3 H2 hw3 hJ2 => ?_) (fun H3 hD => ?_)
    · conv => whnf
      repeat (refine ⟨_, wi (by omega), ?_⟩; conv => whnf)
      exact ⟨rfl, rfl, n - 1, H2, by omega, hw3, x + 1, rfl, by omega, hJ2⟩
    · conv => whnf
      refine ⟨rfl, ?_⟩
      conv => whnf
      exact fin (Weak.refl _) (hR _ (.inr hD))
  · conv => whnf
    refine ⟨rfl, ?_⟩
    conv => whnf
    exact fin (Weak.refl _) (hR _ (.inl ⟨x, by omega, hJ⟩))
theorem c_all (c m k : Int) (H : Hp) (R : Ending → Hp → Prop) (hR : ∀ gb, R (.returned (.func (.func 59) #[] #[ptr gb])) ⟨H.M, .cells gb 74 [.int .i64 c, .int .i64 m, .int .i64 k] :: H.L⟩) :
    ACalls Try.prog 45 [hidV c m k] H R := by
  unfold hidV
  refine acalls_code hT Try.func45 rfl rfl ?_
  conv => whnf
  intro gb
  conv => whnf
  refine ⟨rfl, ?_⟩
  conv => whnf
  exact fin (Weak.refl _) (hR gb)
theorem c_Weights (c m k : Int) (hc : I64 c) (hm : I64 m) (hk : I64 k) (H : Hp) (R : Ending → Hp → Prop)
    (h0 : hidB c m k = false → R (.returned (.tuple #[.slice none 0 0, .int .i64 5])) H)
    (h1 : hidB c m k = true → ∀ v', RowVal v' 1 (ints (wtsL c m k)) → R (.returned (.tuple #[v', .int .i64 0])) ⟨H.M, .row v' 3 1 (ints (wtsL c m k)) :: H.L⟩) :
    ACalls Try.prog 34 [.int .i64 c, .int .i64 m, .int .i64 k] H R := by
  refine acalls_codeR hT Try.func34 rfl rfl ?_
  conv => whnf
  intro g8
  conv => whnf
  refine stC 0 rfl rfl (by first | (refine ⟨rfl, ?_⟩; repeat' (first | exact trivial | refine ⟨rfl, ?_⟩)) | simp [oneCells, Value.oneCell', setN]) ?_
  conv => whnf
  refine ldA 0 rfl rfl ?_
  conv => whnf
  refine c_hidValid c m k hc hm hk _ _ ?_
  cases hb : hidB c m k with
  | false =>
    conv => whnf
    refine .inl ⟨rfl, ?_⟩
    conv => whnf
    exact fin (weakK 1 rfl) (h0 hb)
  | true =>
    have hok := hidB_iff.1 hb
    have hm1 := hok.m1
    have hm37 := hok.m37
    have h1 := h1 hb
    conv => whnf
    intro g9
    conv => whnf
    refine ldA 1 rfl rfl ?_
    conv => whnf
    refine c_all c m k _ _ ?_
    intro gb
    conv => whnf
    refine awp_rangeFunc hT (f := 59) (first := #[]) (cap := #[ptr gb]) rfl ?_
    intro fn d l
    generalize hrec : recL fn _ _ _ _ d = rec
    refine ACalls.weak (H1 := ⟨H.M, .obj l (.loop rec) :: .row (.slice none 0 0) 3 1 (ints (wtsUp c m k 0)) :: .cells g9 22 [.slice none 0 0] :: .cells gb 74 [.int .i64 c, .int .i64 m, .int .i64 k] :: .obj d (.deferred (some [])) :: H.L⟩) ?_
      (c_all1 gb c m k hok l (fun x H' => ∃ s, RowVal s 1 (ints (wtsUp c m k x)) ∧ H' = ⟨H.M, .obj l (.loop rec) :: .row s 3 1 (ints (wtsUp c m k x)) :: .cells g9 22 [s] :: .cells gb 74 [.int .i64 c, .int .i64 m, .int .i64 k] :: .obj d (.deferred (some [])) :: H.L⟩) (fun _ => False) ?_ ?_ _ ⟨_, .inl ⟨rfl, rfl⟩, rfl⟩ _ ?_)
    · exact (weakNil _ 3 1).trans ((weakPull [1, 0, 2, 1, 0] rfl).trans (weakSkip 5 1 rfl))
    · rintro x H' ⟨s, hs, rfl⟩
      exact fun j v hj => cellOwn (e := 74) (cs := [.int .i64 c, .int .i64 m, .int .i64 k]) (by simp) (by rw [Nat.zero_add]; exact hj)
    · rintro x H' ⟨s, hs, rfl⟩ hxm R' hy hD
      obtain ⟨s1, s3, rfl⟩ := hs.cnt (by omega) (by rw [ints_length, Nat.mul_one])
      have hwl := wtsUp_len c m k x
      have hws := wtsUp_succ c m k x
      rw [← hrec]
      refine ayields_two hT ?_
      conv => whnf
      refine ⟨rfl, ?_⟩
      conv => whnf
      refine ldS 1 rfl rfl ?_
      conv => whnf
      intro q
      conv => whnf
      refine ⟨H.M, _, ints (wtsUp c m k x), ints [wtF c m k x], readsNew rfl rfl, ints_one _, weakDel 0 rfl, by rw [ints_length, ints_length, hwl]; simp; omega, by rw [ints_length, ints_length, hwl]; simp [maxLen]; omega, fun v' hv' => ?_⟩
      rw [← ints_append, ← hws] at hv' ⊢
      obtain ⟨q1, q2, q3, rfl⟩ := hv'.slice
      conv => whnf
      refine stC 1 rfl rfl (by first | (refine ⟨rfl, ?_⟩; repeat' (first | exact trivial | refine ⟨rfl, ?_⟩)) | simp [oneCells, Value.oneCell', setN]) ?_
      conv => whnf
      exact hy _ _ (Weak.refl _) ⟨_, hv', by rw [← hrec]; rfl⟩
    · rintro H' (⟨x, hx, s, hs, rfl⟩ | h)
      · have hxe : x = (m + 1).toNat := by omega
        subst hxe
        obtain ⟨s1, s2, s3, rfl⟩ := hs.slice
        refine ⟨.ready, none, H.M, _, by simp, by rw [← hrec]; exact Weak.refl _, ?_⟩
        conv => whnf
        refine ldS 1 rfl rfl ?_
        conv => whnf
        refine .inr ⟨d, 3, rfl, rfl, ?_⟩
        conv => whnf
        exact fin (weakSkip 1 3 rfl) (h1 _ hs)
      · exact h.elim
end Go.Proofs.Ytohdcmkooedkcaa.A
