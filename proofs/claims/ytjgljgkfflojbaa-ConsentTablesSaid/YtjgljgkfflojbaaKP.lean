/- slices.Compact at ints. -/
import Derived.Test.YtjgljgkfflojbaaKS
namespace Go.Proofs.Ytjgljgkfflojbaa.A
open Go Go.RowKit
set_option linter.unusedVariables false
set_option linter.unusedSimpArgs false
set_option maxRecDepth 4000

def cmpL (l : List Int) : List Int := Go.Lib.compact l
theorem cmpL_len (l : List Int) : (cmpL l).length ≤ l.length := by
  unfold cmpL Go.Lib.compact Go.Lib.compactUpTo
  rw [List.length_map]
  exact Nat.le_trans (List.length_filter_le _ _) (by simp)
theorem c_Compact (v : Value) (l : List Int) (M : Nat → Option Obj) (L : List Atom) (hv : RowVal v 1 (ints l)) (hlen : l.length ≤ 1099511627776) (R : Ending → Hp → Prop)
    (hR : ∀ v', RowVal v' 1 (ints (cmpL l)) → R (.returned v') ⟨M, .row v' 3 1 (ints (cmpL l)) :: L⟩) : ACalls Try.prog 54 [v] ⟨M, .row v 3 1 (ints l) :: L⟩ R := by
  rcases hv with ⟨rfl, h0⟩ | ⟨g, o, n, c, rfl, h1, h2, h3⟩
  · have hl : l = [] := List.length_eq_zero_iff.1 (by have := congrArg List.length h0; simpa [ints_length] using this)
    subst hl
    refine acalls_mk Try.func54 rfl rfl fun w0 F w hr => ?_
    refine (Try.slices_Compact_int_empty none 0 w).mono fun e w' ⟨he, hw⟩ => ?_
    subst he hw
    exact ⟨_, hr, hR _ (.inl ⟨rfl, rfl⟩)⟩
  · rw [ints_length, Nat.mul_one] at h1
    subst h1
    have hle := cmpL_len l
    have hw := weakPrefix (M := M) (L := L) (g := g) (o := o) (n := l.length) (c := c) (k := (cmpL l).length) (e := 3) (xs := ints (cmpL l ++ List.replicate (l.length - (cmpL l).length) 0)) hle
    have e1 : (ints (cmpL l ++ List.replicate (l.length - (cmpL l).length) 0)).take (cmpL l).length = ints (cmpL l) := by
      rw [ints_append, List.take_left' (ints_length _)]
    rw [e1] at hw
    refine ACalls.weakR (acalls_row Try.func54 rfl rfl (xs := l) (ys := cmpL l ++ List.replicate (l.length - (cmpL l).length) 0) (E := .returned (.slice (some ⟨g, o, none⟩) (cmpL l).length c)) (by simp; omega)
      (fun w hH hg => (Try.slices_Compact_int g o c l w hH (by omega) h2).mono fun e w' ⟨he, q, hw⟩ => ⟨he, q, #[], by rw [hw, Go.Sort.grow_empty]; rfl⟩)
      (R := fun e H' => ∃ H2, Weak H' H2 ∧ R e H2) ⟨_, hw, hR _ (.inr ⟨g, o, _, c, rfl, by rw [ints_length, Nat.mul_one], by omega, h3⟩)⟩ rfl)
end Go.Proofs.Ytjgljgkfflojbaa.A
