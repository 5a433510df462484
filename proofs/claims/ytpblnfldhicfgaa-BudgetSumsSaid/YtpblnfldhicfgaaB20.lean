/- dioramalaw24: lives. -/
import Derived.Test.YtpblnfldhicfgaaB19
namespace Go.Proofs.Ytpblnfldhicfgaa.A
open Go Go.RowKit
set_option linter.unusedVariables false
set_option linter.unusedSimpArgs false
set_option maxRecDepth 20000

theorem c_AskNil (v : Value) (cost : Fr) (H : Hp) (R : Ending → Hp → Prop) (hR : R (.returned (.int .i64 1)) H) : ACalls Try.prog 26 [.pointer none, v, cost.v] H R := by
  refine acalls_code hT Try.func26 rfl rfl ?_
  conv => whnf
  intro gc
  conv => whnf
  intro ge
  conv => whnf
  refine stC 0 rfl rfl (by first | (refine ⟨rfl, ?_⟩; repeat' (first | exact trivial | refine ⟨rfl, ?_⟩)) | simp [oneCells, Value.oneCell', setN]) ?_
  conv => whnf
  refine ⟨rfl, ?_⟩
  conv => whnf
  refine ldS 0 rfl rfl ?_
  conv => whnf
  exact fin (weakK 2 rfl) hR
theorem c_CopyNil (H : Hp) (R : Ending → Hp → Prop) (hR : R (.returned (.pointer none)) H) : ACalls Try.prog 25 [.pointer none] H R := by
  refine acalls_code hT Try.func25 rfl rfl ?_
  conv => whnf
  refine ⟨rfl, ?_⟩
  conv => whnf
  exact fin (Weak.refl _) hR
theorem frsRow {H : Hp} {v : Value} {l : List Fr} (i : Nat) (h : H.L[i]? = some (.row v 24 2 (frs l))) (hv : RowVal v 2 (frs l)) (hf : ∀ x ∈ l, x.I) (hl : l.length ≤ 1000) : FrsAt H v l := ⟨readsRow (List.mem_of_getElem? h) hv, hf, hl⟩
theorem intsRow {H : Hp} {v : Value} {l : List Int} (i : Nat) (h : H.L[i]? = some (.row v 3 1 (ints l))) (hv : RowVal v 1 (ints l)) (hf : ∀ x ∈ l, I64 x) (hl : l.length ≤ 1000) : IntsAt H v l := ⟨readsRow (List.mem_of_getElem? h) hv, hf, by omega⟩

def LB0 : Bk := newB [⟨2, 1⟩, ⟨2, 1⟩, ⟨2, 1⟩] [0, 0, 1] [⟨3, 1⟩, ⟨1, 1⟩]
def LB1 : Bk := (askB LB0 [0, 1, 2] ⟨3, 2⟩).1
def LB2 : Bk := (askB LB1 [2] ⟨1, 2⟩).1
theorem lb_new : newErr [⟨2, 1⟩, ⟨2, 1⟩, ⟨2, 1⟩] [0, 0, 1] [⟨3, 1⟩, ⟨1, 1⟩] = 0 := by kernel_rfl
theorem lb_1 : (askB LB0 [0, 1, 2] ⟨3, 2⟩).2 = 0 := by kernel_rfl
theorem lb_s2 : usedF LB1.sp 2 = (⟨3, 2⟩, 0) := by kernel_rfl
theorem lb_o0 : usedF LB1.owed 0 = (⟨1, 1⟩, 0) := by kernel_rfl
theorem lb_2 : (askB LB1 [2] ⟨1, 2⟩).2 = 0 := by kernel_rfl
theorem lb_o1 : usedF LB2.owed 1 = (⟨1, 1⟩, 0) := by kernel_rfl
theorem lb_3 : (askB LB2 [2] ⟨1, 100⟩).2 = 22 := by kernel_rfl

theorem c_lives (H : Hp) (R : Ending → Hp → Prop) (hR : R (.returned (.bool true)) H) : ACalls Try.prog 15 [] H R := by
  refine acalls_code hT Try.func15 rfl rfl ?_
  conv => whnf
  intro g1
  conv => whnf
  refine stC 0 rfl rfl (by first | (refine ⟨rfl, ?_⟩; repeat' (first | exact trivial | refine ⟨rfl, ?_⟩)) | simp [oneCells, Value.oneCell', setN]) ?_
  conv => whnf
  refine ldA 0 rfl rfl ?_
  conv => whnf
  refine ldA 0 rfl rfl ?_
  conv => whnf
  refine ldA 0 rfl rfl ?_
  conv => whnf
  intro r1
  conv => whnf
  intro r2
  conv => whnf
  intro r3
  conv => whnf
  have fI : ∀ (p q : Int), I64 p → I64 q → (Fr.mk p q).I := fun p q a b => ⟨a, b⟩
  refine c_New _ _ _ [⟨2, 1⟩, ⟨2, 1⟩, ⟨2, 1⟩] [0, 0, 1] [⟨3, 1⟩, ⟨1, 1⟩] _ (frsRow 2 rfl (rowNew rfl (by omega)) (by intro x hx; simp at hx; subst hx; exact fI _ _ (by omega) (by omega)) (by simp)) (intsRow 1 rfl (rowNew rfl (by omega)) (by intro x hx; simp at hx; omega) (by simp))
    (frsRow 0 rfl (rowNew rfl (by omega)) (by intro x hx; simp at hx; rcases hx with rfl | rfl <;> exact fI _ _ (by omega) (by omega)) (by simp)) _ (fun h => absurd lb_new h) (fun _ g a b c d hV => ?_)
  have hB0 : okB LB0 := newB_ok lb_new
  rw [show newB [⟨2, 1⟩, ⟨2, 1⟩, ⟨2, 1⟩] [0, 0, 1] [⟨3, 1⟩, ⟨1, 1⟩] = LB0 from rfl] at *
  conv => whnf
  conv => whnf
  intro r4
  conv => whnf
  refine ldA 9 rfl rfl ?_
  conv => whnf
  refine c_AskNil _ ⟨2, 1⟩ _ _ ?_
  conv => whnf
  conv => whnf
  refine c_CopyNil _ _ ?_
  conv => whnf
  intro r5
  conv => whnf
  refine ACalls.weak (weakPull [2, 2, 2, 2, 2] rfl) (c_Ask g _ _ _ _ LB0 _ [0, 1, 2] ⟨3, 2⟩ _ _ hB0 hV (intsRow 5 rfl (rowNew rfl (by omega)) (by intro x hx; simp at hx; omega) (by simp)) (by simp) (fI _ _ (by omega) (by omega)) _ (fun a b c d hV => ?_))
  rw [lb_1]
  rw [show (askB LB0 [0, 1, 2] ⟨3, 2⟩).1 = LB1 from rfl] at *
  have hB1 : okB LB1 := hB0.ask _ _
  conv => whnf
  refine c_Spent g a b c d LB1 2 _ hB1 (bkAt hV) _ ?_
  rw [lb_s2]
  conv => whnf
  intro g6
  conv => whnf
  refine stC 0 rfl rfl (by first | (refine ⟨rfl, ?_⟩; repeat' (first | exact trivial | refine ⟨rfl, ?_⟩)) | simp [oneCells, Value.oneCell', setN]) ?_
  conv => whnf
  refine c_Owed g a b c d LB1 0 _ hB1 ((bkAt hV).mono (HLe.cons _ _)) _ ?_
  rw [lb_o0]
  conv => whnf
  intro g8
  conv => whnf
  refine stC 0 rfl rfl (by first | (refine ⟨rfl, ?_⟩; repeat' (first | exact trivial | refine ⟨rfl, ?_⟩)) | simp [oneCells, Value.oneCell', setN]) ?_
  conv => whnf
  intro r6
  conv => whnf
  refine ACalls.weak (weakPull [3, 3, 3, 3, 3] rfl) (c_Ask g _ _ _ _ LB1 _ [2] ⟨1, 2⟩ _ _ hB1 hV (intsRow 5 rfl (rowNew rfl (by omega)) (by intro x hx; simp at hx; omega) (by simp)) (by simp) (fI _ _ (by omega) (by omega)) _ (fun a b c d hV => ?_))
  rw [lb_2]
  rw [show (askB LB1 [2] ⟨1, 2⟩).1 = LB2 from rfl] at *
  have hB2 : okB LB2 := hB1.ask _ _
  conv => whnf
  refine c_Owed g a b c d LB2 1 _ hB2 (bkAt hV) _ ?_
  rw [lb_o1]
  conv => whnf
  intro g11
  conv => whnf
  refine stC 0 rfl rfl (by first | (refine ⟨rfl, ?_⟩; repeat' (first | exact trivial | refine ⟨rfl, ?_⟩)) | simp [oneCells, Value.oneCell', setN]) ?_
  conv => whnf
  intro r7
  conv => whnf
  refine ACalls.weak (weakPull [2, 2, 2, 2, 2] rfl) (c_Ask g _ _ _ _ LB2 _ [2] ⟨1, 100⟩ _ _ hB2 hV (intsRow 5 rfl (rowNew rfl (by omega)) (by intro x hx; simp at hx; omega) (by simp)) (by simp) (fI _ _ (by omega) (by omega)) _ (fun a b c d hV => ?_))
  rw [lb_3]
  rw [show (askB LB2 [2] ⟨1, 100⟩).1 = (askB LB2 [2] ⟨1, 100⟩).1 from rfl] at *
  conv => whnf
  refine ldA 9 rfl rfl ?_
  conv => whnf
  refine ldA 8 rfl rfl ?_
  conv => whnf
  refine ldA 6 rfl rfl ?_
  conv => whnf
  refine ⟨rfl, ?_⟩
  conv => whnf
  exact fin (weakK 16 rfl) hR
end Go.Proofs.Ytpblnfldhicfgaa.A
