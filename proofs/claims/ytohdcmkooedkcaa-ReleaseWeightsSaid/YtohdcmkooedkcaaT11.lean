/- dioramalaw25: lives. -/
import Derived.Test.YtohdcmkooedkcaaT4R
import Derived.Test.YtohdcmkooedkcaaT7
import Derived.Test.YtohdcmkooedkcaaT6
import Derived.Test.YtohdcmkooedkcaaT9
import Derived.Test.YtohdcmkooedkcaaSameInts
namespace Go.Proofs.Ytohdcmkooedkcaa.A
open Go Go.RowKit
set_option linter.unusedVariables false
set_option linter.unusedSimpArgs false
set_option maxRecDepth 20000

def lvR (a b : Value) : List RV := [⟨a, ⟨7, [0]⟩⟩, ⟨b, ⟨3, [0]⟩⟩]
theorem lv0 (a b : Value) : givenT (tbOf [2] (lvR a b)) 0 12 = 0 := by kernel_rfl
theorem lv01 (a b : Value) : givenT (tbOf [2] (lvR a b)) 0 1 = 0 := by kernel_rfl
theorem lv1 (a b : Value) : wtT [2] (lvR a b) 0 12 [2, 0] = ([68719476736, 68719476736], 0) := by
  unfold wtT
  rw [if_neg (by rw [lv0]; simp), if_neg (by decide)]
  have h0 : wtOf (lvR a b) 0 12 [2, 0] 0 = 68719476736 := by
    show wtF 2 2 12 2 = _
    decide
  have h1 : wtOf (lvR a b) 0 12 [2, 0] 1 = 68719476736 := by
    show wtF 0 2 12 0 = _
    decide
  simp [wtUp, List.range_succ, h0, h1]
theorem lv2 (a b : Value) : wtT [2] (lvR a b) 0 12 [3, 0] = ([], 5) := by
  unfold wtT
  rw [if_neg (by rw [lv0]; simp), if_pos (by decide)]
theorem lv3 (a b : Value) : (wtT [2] (lvR a b) 0 1 [37, 0]).2 = 0 := by
  unfold wtT
  rw [if_neg (by rw [lv01]; simp), if_neg (by decide)]
theorem lvV (a b : Value) : validT (tbOf [2] (lvR a b)) = 0 := by kernel_rfl
theorem lv4 (a b : Value) : personsT (tbOf [2] (lvR a b)) = [3, 7] := by
  unfold personsT
  rw [if_pos (lvV a b)]
  show srt [7, 3] = [3, 7]
  exact inc_ext (srt_inc (by decide)) (by decide) fun x => by rw [mem_srt]; simp; omega
theorem lvOk (a b : Value) : okTb (tbOf [2] (lvR a b)) := okTb_of (by decide) (by simp; omega) (by simp [lvR]) fun x hx => by
  simp [lvR] at hx
  rcases hx with rfl | rfl <;> (simp; omega)
set_option maxHeartbeats 4000000 in
theorem c_lives25 (H : Hp) (R : Ending → Hp → Prop) (hR : ∀ N, R (.returned (.bool true)) ⟨H.M, N ++ H.L⟩) : ACalls Try.prog 19 [] H R := by
  refine acalls_code hT Try.func19 rfl rfl ?_
  conv => whnf
  intro q1
  conv => whnf
  intro q2
  conv => whnf
  intro q3
  conv => whnf
  intro q4
  conv => whnf
  intro g1
  conv => whnf
  refine stC 0 rfl rfl (by first | (refine ⟨rfl, ?_⟩; repeat' (first | exact trivial | refine ⟨rfl, ?_⟩)) | simp [oneCells, Value.oneCell', setN]) ?_
  conv => whnf
  refine ldA 0 rfl rfl ?_
  conv => whnf
  intro q5
  conv => whnf
  have hT0 : ∀ L : List Atom, (∀ a ∈ [Atom.row (.slice (some ⟨q4, 0, none⟩) 2 2) 55 2 (rvs (lvR (.slice (some ⟨q2, 0, none⟩) 1 1) (.slice (some ⟨q3, 0, none⟩) 1 1))), .row (.slice (some ⟨q3, 0, none⟩) 1 1) 3 1 (ints [0]), .row (.slice (some ⟨q2, 0, none⟩) 1 1) 3 1 (ints [0]), .row (.slice (some ⟨q1, 0, none⟩) 1 1) 3 1 (ints [2])], a ∈ L) → TbAt ⟨H.M, L⟩ (.slice (some ⟨q1, 0, none⟩) 1 1) (.slice (some ⟨q4, 0, none⟩) 2 2) [2] (lvR (.slice (some ⟨q2, 0, none⟩) 1 1) (.slice (some ⟨q3, 0, none⟩) 1 1)) := fun L hL =>
    ⟨readsRow (e := 3) (hL _ (by simp)) (rowNew rfl (by omega)), readsRow (e := 55) (hL _ (by simp)) (rowNew rfl (by omega)), fun x hx => by
      simp [lvR] at hx
      rcases hx with rfl | rfl
      · exact readsRow (e := 3) (hL _ (by simp)) (rowNew rfl (by omega))
      · exact readsRow (e := 3) (hL _ (by simp)) (rowNew rfl (by omega))⟩
  have ok := lvOk (.slice (some ⟨q2, 0, none⟩) 1 1) (.slice (some ⟨q3, 0, none⟩) 1 1)
  have l1 := lv1 (.slice (some ⟨q2, 0, none⟩) 1 1) (.slice (some ⟨q3, 0, none⟩) 1 1)
  have l2 := lv2 (.slice (some ⟨q2, 0, none⟩) 1 1) (.slice (some ⟨q3, 0, none⟩) 1 1)
  have l3 := lv3 (.slice (some ⟨q2, 0, none⟩) 1 1) (.slice (some ⟨q3, 0, none⟩) 1 1)
  have l4 := lv4 (.slice (some ⟨q2, 0, none⟩) 1 1) (.slice (some ⟨q3, 0, none⟩) 1 1)
  refine c_Weight _ _ _ [2] (lvR (.slice (some ⟨q2, 0, none⟩) 1 1) (.slice (some ⟨q3, 0, none⟩) 1 1)) 0 12 [2, 0] _ (hT0 _ (by simp [lvR, rvs, rvc, ints])) ok (intsRow 0 rfl (rowNew rfl (by omega)) (by simp; omega) (by simp)) (by simp) _ fun v1 hv1 => ?_
  rw [l1] at hv1 ⊢
  conv => whnf
  refine ldA 2 rfl rfl ?_
  conv => whnf
  intro q6
  conv => whnf
  refine c_Weight _ _ _ [2] (lvR (.slice (some ⟨q2, 0, none⟩) 1 1) (.slice (some ⟨q3, 0, none⟩) 1 1)) 0 12 [3, 0] _ (hT0 _ (by simp [lvR, rvs, rvc, ints])) ok (intsRow 0 rfl (rowNew rfl (by omega)) (by simp; omega) (by simp)) (by simp) _ fun v2 hv2 => ?_
  rw [l2]
  conv => whnf
  refine ldA 4 rfl rfl ?_
  conv => whnf
  intro q7
  conv => whnf
  refine c_Weight _ _ _ [2] (lvR (.slice (some ⟨q2, 0, none⟩) 1 1) (.slice (some ⟨q3, 0, none⟩) 1 1)) 0 1 [37, 0] _ (hT0 _ (by simp [lvR, rvs, rvc, ints])) ok (intsRow 0 rfl (rowNew rfl (by omega)) (by simp; omega) (by simp)) (by simp) _ fun v3 hv3 => ?_
  rw [l3]
  generalize (wtT [2] (lvR (.slice (some ⟨q2, 0, none⟩) 1 1) (.slice (some ⟨q3, 0, none⟩) 1 1)) 0 1 [37, 0]).1 = w3 at *
  conv => whnf
  intro q8
  conv => whnf
  refine c_SameInts v1 _ [68719476736, 68719476736] [68719476736, 68719476736] _ (intsRow 5 rfl hv1 (by simp; omega) (by simp)) (intsRow 0 rfl (rowNew rfl (by omega)) (by simp; omega) (by simp)) _ ?_
  rw [decide_eq_true rfl]
  conv => whnf
  refine ldA 7 rfl rfl ?_
  conv => whnf
  refine c_Persons _ _ [2] (lvR (.slice (some ⟨q2, 0, none⟩) 1 1) (.slice (some ⟨q3, 0, none⟩) 1 1)) _ (hT0 _ (by simp [lvR, rvs, rvc, ints])) ok _ fun v4 hv4 => ?_
  rw [l4] at hv4 ⊢
  conv => whnf
  intro q9
  conv => whnf
  refine c_SameInts v4 _ [3, 7] [3, 7] _ (intsRow 1 rfl hv4 (by simp; omega) (by simp)) (intsRow 0 rfl (rowNew rfl (by omega)) (by simp; omega) (by simp)) _ ?_
  rw [decide_eq_true rfl]
  conv => whnf
  refine ldA 9 rfl rfl ?_
  conv => whnf
  refine c_Without _ _ [2] (lvR (.slice (some ⟨q2, 0, none⟩) 1 1) (.slice (some ⟨q3, 0, none⟩) 1 1)) 7 _ (hT0 _ (by simp [lvR, rvs, rvc, ints])) ok _ fun v5 hv5 => ?_
  have hk : (lvR (.slice (some ⟨q2, 0, none⟩) 1 1) (.slice (some ⟨q3, 0, none⟩) 1 1)).filter (keepP 7) = [⟨.slice (some ⟨q3, 0, none⟩) 1 1, ⟨3, [0]⟩⟩] := by kernel_rfl
  rw [hk] at hv5 ⊢
  obtain ⟨p5, c5, rfl⟩ := hv5.cnt (k := 1) (by omega) rfl
  conv => whnf
  refine ⟨rfl, ?_⟩
  conv => whnf
  exact fin (Weak.refl _) (hR (_ :: _ :: _ :: _ :: _ :: _ :: _ :: _ :: _ :: _ :: _ :: _ :: _ :: _ :: _ :: []))
end Go.Proofs.Ytohdcmkooedkcaa.A
