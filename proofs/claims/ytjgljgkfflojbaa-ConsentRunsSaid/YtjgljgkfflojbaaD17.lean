/- dioramalaw26: without. -/
import Derived.Test.YtjgljgkfflojbaaD14
namespace Go.Proofs.Ytjgljgkfflojbaa.A
open Go Go.RowKit
set_option linter.unusedVariables false
set_option linter.unusedSimpArgs false
set_option maxRecDepth 20000

def lessL (l gone : List Int) : List Int := l.filter fun x => !decide (x ∈ gone)
theorem lessL_succ {l gone : List Int} {k : Nat} (hk : k < l.length) : lessL (l.take (k + 1)) gone = if l[k] ∈ gone then lessL (l.take k) gone else lessL (l.take k) gone ++ [l[k]] := by
  unfold lessL
  rw [List.take_succ_eq_append_getElem hk, List.filter_append]
  by_cases h : l[k] ∈ gone <;> simp [h]
theorem lessL_len (l gone : List Int) (k : Nat) : (lessL (l.take k) gone).length ≤ l.length := by
  unfold lessL
  have := List.length_filter_le (fun x => !decide (x ∈ gone)) (l.take k)
  rw [List.length_take] at this
  omega
theorem c_without (v v' : Value) (l gone : List Int) (H : Hp) (hv : IntsAt H v l) (hv' : IntsAt H v' gone) (hl : l.length ≤ 1000) (R : Ending → Hp → Prop)
    (hR : ∀ w, RowVal w 1 (ints (lessL l gone)) → R (.returned w) ⟨H.M, .row w 3 1 (ints (lessL l gone)) :: H.L⟩) : ACalls Try.prog 20 [v, v'] H R := by
  obtain ⟨p, c, rfl, _, hc⟩ := hv.open
  refine acalls_code hT Try.func20 rfl rfl ?_
  conv => whnf
  refine awp_loopL hT 28 [0, 1, 5, 6] (fun m vs H' => ∃ (k : Nat) (s : Value), vs = [.slice p l.length c, v', s, .int .i64 k] ∧ m + k = l.length ∧ RowVal s 1 (ints (lessL (l.take k) gone)) ∧ H' = ⟨H.M, .row s 3 1 (ints (lessL (l.take k) gone)) :: H.L⟩) l.length rfl rfl (weakNil H 3 1) ⟨0, .slice none 0 0, rfl, rfl, .inl ⟨rfl, rfl⟩, rfl⟩ ?_
  rintro m u vs H' ⟨k, s, rfl, hm, hs, rfl⟩
  obtain ⟨s1, s2, s3, rfl⟩ := hs.slice
  have hlen := lessL_len l gone k
  conv => whnf
  refine ifC_dec (fun h1 => ?_) (fun h1 => ?_)
  · have hk : k < l.length := by omega
    have hg := geti_at hk
    obtain ⟨g, o, rfl, hcell⟩ := hc k (by omega) (by omega)
    conv => whnf
    refine ⟨g, o, rfl, by omega, ?_⟩
    conv => whnf
    refine ⟨_, HLe.cell (HLe.cons H _) hcell, ?_⟩
    conv => whnf
    refine c_Has26 _ gone _ _ (hv'.mono (HLe.cons H _)) _ ?_
    by_cases hx : geti l k ∈ gone
    · rw [decide_eq_true hx]
      have hsucc : lessL (l.take (k + 1)) gone = lessL (l.take k) gone := by rw [lessL_succ hk, if_pos (by rw [← hg]; exact hx)]
      conv => whnf
      repeat (refine ⟨_, wi (by omega), ?_⟩; conv => whnf)
      exact ⟨rfl, rfl, m - 1, _, by omega, Weak.refl _, k + 1, .slice s1 s2 s3, rfl, by omega, by rw [hsucc]; exact hs, by rw [hsucc]⟩
    · rw [decide_eq_false hx]
      have hsucc : lessL (l.take (k + 1)) gone = lessL (l.take k) gone ++ [geti l k] := by rw [lessL_succ hk, if_neg (by rw [← hg]; exact hx), hg]
      conv => whnf
      refine ⟨g, o, rfl, by omega, ?_⟩
      conv => whnf
      refine ⟨_, HLe.cell (HLe.cons H _) hcell, ?_⟩
      conv => whnf
      intro q
      conv => whnf
      refine ⟨H.M, H.L, ints (lessL (l.take k) gone), ints [geti l k], readsNew rfl rfl, ints_one _, weakK 1 rfl, by rw [ints_length, ints_length]; simp; omega, by rw [ints_length, ints_length]; simp [maxLen]; omega, fun w hw => ?_⟩
      rw [← ints_append, ← hsucc] at *
      conv => whnf
      repeat (refine ⟨_, wi (by omega), ?_⟩; conv => whnf)
      exact ⟨rfl, rfl, m - 1, _, by omega, Weak.refl _, k + 1, w, rfl, by omega, hw, rfl⟩
  · have hk : k = l.length := by omega
    subst hk
    rw [List.take_length] at *
    conv => whnf
    refine ⟨rfl, ?_⟩
    conv => whnf
    exact fin (Weak.refl _) (hR _ hs)
end Go.Proofs.Ytjgljgkfflojbaa.A
