/- dioramalaw26: lives. -/
import Derived.Test.YtjgljgkfflojbaaD9
namespace Go.Proofs.Ytjgljgkfflojbaa.A
open Go Go.RowKit
set_option linter.unusedVariables false
set_option linter.unusedSimpArgs false
set_option maxRecDepth 20000

def V1 : St := ⟨[⟨[], [1, 2], [1, 2], true⟩], []⟩
def V2 : St := ⟨[⟨[], [1, 2], [1, 2], true⟩, ⟨[], [3], [3], true⟩], []⟩
def V3 : St := ⟨[⟨[], [1, 2], [1, 2], true⟩, ⟨[], [3], [3], true⟩, ⟨[0, 1], [2], [1, 2, 3], true⟩], []⟩
def V4 : St := ⟨[⟨[], [1, 2], [1, 2], false⟩, ⟨[], [3], [3], true⟩, ⟨[0, 1], [2], [1, 2, 3], false⟩], [1]⟩
def V5 : St := ⟨[⟨[], [2], [2], true⟩, ⟨[], [3], [3], true⟩, ⟨[0, 1], [2], [1, 2, 3], false⟩], [1]⟩
def V6 : St := ⟨[⟨[], [2], [2], true⟩, ⟨[], [3], [3], true⟩, ⟨[0, 1], [2], [2, 3], true⟩], [1]⟩
theorem mkS_ok {S : St} {f p b : List Int} (h1 : ¬ (S.ts.length ≥ 256 ∨ p.length > 512)) (h2 : ¬ (riseF (-1) S.ts.length f = false ∨ riseF (-1) 65536 p = false)) (h3 : ¬ (p.any fun x => decide (x ∈ S.gone)) = true) (h4 : ¬ staleS S f = true) (hb : Inc b) (hm : ∀ x, x ∈ b ↔ x ∈ baseL S f p) :
    mkS S f p = ((⟨S.ts ++ [⟨f, p, b, true⟩], S.gone⟩ : St), (S.ts.length : Int), (0 : Int)) := by
  unfold mkS
  rw [if_neg h1, if_neg h2, if_neg h3, if_neg h4, norm_eq hb hm]
theorem v1 : mkS ⟨[], []⟩ [] [1, 2] = (V1, 0, 0) := mkS_ok (by decide) (by decide) (by decide) (by decide) (by decide) (by intro x; simp [baseL])
theorem v2 : mkS V1 [] [3] = (V2, 1, 0) := mkS_ok (by decide) (by decide) (by decide) (by decide) (by decide) (by intro x; simp [baseL])
theorem v3 : mkS V2 [0, 1] [2] = (V3, 2, 0) := mkS_ok (by decide) (by decide) (by decide) (by decide) (by decide) (by intro x; simp [baseL, St.th, V2]; omega)
theorem vb : baseB V3 2 [1, 2, 3] true = true := by decide
theorem vr : rmS V3 1 = (V4, [0, 2], 0) := by kernel_rfl
theorem vn : rnS V4 2 = (V4, 17) := by kernel_rfl
theorem rnS_ok {S : St} {i : Int} {b : List Int} (h1 : ¬ (i < 0 ∨ i ≥ S.ts.length)) (h2 : ¬ (S.th i).u = true) (h3 : ¬ staleS S (S.th i).f = true) (hb : Inc b) (hm : ∀ x, x ∈ b ↔ x ∈ baseL S (S.th i).f ((S.th i).p.filter fun x => !decide (x ∈ S.gone))) :
    rnS S i = ((⟨S.ts.set i.toNat ⟨(S.th i).f, (S.th i).p.filter fun x => !decide (x ∈ S.gone), b, true⟩, S.gone⟩ : St), (0 : Int)) := by
  unfold rnS
  rw [if_neg h1, if_neg h2, if_neg h3, rnT, norm_eq hb hm]
theorem vn0 : rnS V4 0 = (V5, 0) := rnS_ok (b := [2]) (by decide) (by decide) (by decide) (by decide) (by intro x; simp [baseL, St.th, V4])
theorem vn2 : rnS V5 2 = (V6, 0) := rnS_ok (b := [2, 3]) (by decide) (by decide) (by decide) (by decide) (by intro x; simp [baseL, St.th, V5])
theorem vm : mkS V6 [] [1] = (V6, 0, 24) := by
  unfold mkS
  rw [if_neg (by decide), if_neg (by decide), if_pos (by decide)]
theorem vb0 : baseB V6 0 [2] true = true := by decide
theorem vb1 : baseB V6 1 [3] true = true := by decide
theorem vb2 : baseB V6 2 [2, 3] true = true := by decide
theorem c_lives26 (H : Hp) (R : Ending → Hp → Prop) (hR : ∀ H', R (.returned (.bool true)) H') : ACalls Try.prog 12 [] H R := by
  have o0 : okS ⟨[], []⟩ := ⟨by simp, by simp, by simp, by simp⟩
  have o1 : okS V1 := by have := o0.mk' [] [1, 2]; rw [v1] at this; exact this
  have o2 : okS V2 := by have := o1.mk' [] [3]; rw [v2] at this; exact this
  have o3 : okS V3 := by have := o2.mk' [0, 1] [2]; rw [v3] at this; exact this
  have o4 : okS V4 := by have := o3.rm' 1; rw [vr] at this; exact this
  have o5 : okS V5 := by have := o4.rn' 0; rw [vn0] at this; exact this
  have o6 : okS V6 := by have := o5.rn' 2; rw [vn2] at this; exact this
  refine acalls_code hT Try.func12 rfl rfl ?_
  conv => whnf
  refine p_New fun g H0 B0 => ?_
  conv => whnf
  intro q1
  conv => whnf
  refine p_Make (B0.add _) o0 (nilI _) (intsRow (l := [1, 2]) 0 rfl (rowNew rfl (by omega)) (by simp; omega) (by simp)) fun H1 B1 => ?_
  rw [v1] at B1 ⊢
  conv => whnf
  intro q2
  conv => whnf
  refine p_Make (B1.add _) o1 (nilI _) (intsRow (l := [3]) 0 rfl (rowNew rfl (by omega)) (by simp; omega) (by simp)) fun H2 B2 => ?_
  rw [v2] at B2 ⊢
  conv => whnf
  intro q3
  conv => whnf
  intro q4
  conv => whnf
  refine p_Make ((B2.add _).add _) o2 (intsRow (l := [0, 1]) 1 rfl (rowNew rfl (by omega)) (by simp; omega) (by simp)) (intsRow (l := [2]) 0 rfl (rowNew rfl (by omega)) (by simp; omega) (by simp)) fun H3 B3 => ?_
  rw [v3] at B3 ⊢
  conv => whnf
  intro q5
  conv => whnf
  refine p_base (B3.add _) o3 (intsRow (l := [1, 2, 3]) 0 rfl (rowNew rfl (by omega)) (by simp; omega) (by simp)) fun H4 B4 => ?_
  rw [vb]
  conv => whnf
  refine p_Remove B4 o3 fun H5 s hs B5 => ?_
  rw [vr] at hs B5 ⊢
  conv => whnf
  intro q6
  conv => whnf
  obtain ⟨L, hw, hsub, B6⟩ := (B5.add _).reads
  refine ACalls.weak hw (c_SameInts s _ [0, 2] [0, 2] _ ⟨readsRow (e := 3) (hsub _ (List.mem_cons_of_mem _ List.mem_cons_self)) hs, by simp; omega, by simp⟩ ⟨readsRow (e := 3) (hsub _ List.mem_cons_self) (rowNew rfl (by omega)), by simp; omega, by simp⟩ _ ?_)
  rw [decide_eq_true rfl]
  conv => whnf
  refine p_Renew B6 o4 fun H7 B7 => ?_
  rw [vn] at B7 ⊢
  conv => whnf
  refine p_Renew B7 o4 fun H8 B8 => ?_
  rw [vn0] at B8 ⊢
  conv => whnf
  refine p_Renew B8 o5 fun H9 B9 => ?_
  rw [vn2] at B9 ⊢
  conv => whnf
  intro q7
  conv => whnf
  refine p_Make (B9.add _) o6 (nilI _) (intsRow (l := [1]) 0 rfl (rowNew rfl (by omega)) (by simp; omega) (by simp)) fun H10 B10 => ?_
  rw [vm] at B10 ⊢
  conv => whnf
  intro q8
  conv => whnf
  refine p_base (B10.add _) o6 (intsRow (l := [2]) 0 rfl (rowNew rfl (by omega)) (by simp; omega) (by simp)) fun H11 B11 => ?_
  rw [vb0]
  conv => whnf
  intro q9
  conv => whnf
  refine p_base (B11.add _) o6 (intsRow (l := [3]) 0 rfl (rowNew rfl (by omega)) (by simp; omega) (by simp)) fun H12 B12 => ?_
  rw [vb1]
  conv => whnf
  intro q10
  conv => whnf
  refine p_base (B12.add _) o6 (intsRow (l := [2, 3]) 0 rfl (rowNew rfl (by omega)) (by simp; omega) (by simp)) fun H13 B13 => ?_
  rw [vb2]
  conv => whnf
  refine ⟨rfl, ?_⟩
  conv => whnf
  exact fin (Weak.refl _) (hR _)
end Go.Proofs.Ytjgljgkfflojbaa.A
