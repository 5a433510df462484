/- What Ask keeps; dioramalaw24: same, agrees. -/
import Derived.Test.YtpblnfldhicfgaaB18
namespace Go.Proofs.Ytpblnfldhicfgaa.A
open Go Go.RowKit
set_option linter.unusedVariables false
set_option linter.unusedSimpArgs false
set_option maxRecDepth 20000

theorem okF_set {l : List Fr} {k : Nat} {a : Fr} (h : ∀ x ∈ l, okF x) (ha : okF a) : ∀ x ∈ l.set k a, okF x := fun x hx => by
  rcases List.mem_or_eq_of_mem_set hx with h' | h'
  · exact h x h'
  · subst h'; exact ha
theorem addAll_ok {lim : List Fr} {cost : Fr} : ∀ {l : List Int} {sp : List Fr} {ov : Bool} {sp' : List Fr} {ov' : Bool}, addAll lim cost l sp ov = .ok (sp', ov') → (∀ x ∈ sp, okF x) → sp'.length = sp.length ∧ ∀ x ∈ sp', okF x
  | [], sp, ov, sp', ov', h, hs => by
    rw [addAll_nil] at h
    cases h
    exact ⟨rfl, hs⟩
  | p :: r, sp, ov, sp', ov', h, hs => by
    rw [addAll_cons] at h
    split at h
    · cases h
    · have := addAll_ok h (okF_set hs (addF_okF _ _))
      rwa [List.length_set] at this
theorem oweAll_ok {B : Bk} {l : List Int} {cost : Fr} : ∀ {os : List Nat} {sp : List Fr} {ov : Bool} {sp' : List Fr} {ov' : Bool}, oweAll B l cost os sp ov = .ok (sp', ov') → (∀ x ∈ sp, okF x) → sp'.length = sp.length ∧ ∀ x ∈ sp', okF x
  | [], sp, ov, sp', ov', h, hs => by
    rw [oweAll_nil] at h
    cases h
    exact ⟨rfl, hs⟩
  | o :: r, sp, ov, sp', ov', h, hs => by
    rw [oweAll_cons] at h
    split at h
    · exact oweAll_ok h hs
    · split at h
      · cases h
      · split at h
        · cases h
        · have := oweAll_ok h (okF_set hs (addF_okF _ _))
          rwa [List.length_set] at this
theorem okB.ask {B : Bk} (h : okB B) (l : List Int) (cost : Fr) : okB (askB B l cost).1 := by
  unfold askB
  split
  · exact h
  · split
    · exact h
    · split
      · exact h
      · rename_i sp ov hs
        split
        · exact h
        · rename_i owed ov2 ho
          split
          · exact h
          · obtain ⟨e1, e2⟩ := addAll_ok hs h.sp
            obtain ⟨e3, e4⟩ := oweAll_ok ho h.owed
            exact ⟨e1.trans h.l1, h.l2, h.l3, e3.trans h.l4, h.n1, h.n2, h.lim, e2, h.own, h.most, e4⟩
theorem newB_ok {p : List Fr} {o : List Int} {q : List Fr} (h : newErr p o q = 0) : okB (newB p o q) := by
  unfold newErr at h
  split at h
  · omega
  · split at h
    · omega
    · rename_i h1 h2
      have a1 : o.length = p.length := Classical.byContradiction fun e => h2 (.inl e)
      have a2 : (o.any fun x => decide (x < 0 ∨ x ≥ q.length)) = false := by
        cases e : (o.any fun x => decide (x < 0 ∨ x ≥ q.length)) with
        | false => rfl
        | true => exact absurd (.inr (.inl e)) h2
      have a3 : (p.any fun a => !decide (okC a)) = false := by
        cases e : (p.any fun a => !decide (okC a)) with
        | false => rfl
        | true => exact absurd (.inr (.inr (.inl e))) h2
      have a4 : (q.any fun a => !decide (okC a)) = false := by
        cases e : (q.any fun a => !decide (okC a)) with
        | false => rfl
        | true => exact absurd (.inr (.inr (.inr e))) h2
      refine ⟨by simp [newB], a1, by simp [newB], by simp [newB], by simp [newB]; omega, by simp [newB]; omega, fun x hx => ?_, fun x hx => ?_, fun x hx => ?_, fun x hx => ?_, fun x hx => ?_⟩
      · have := List.any_eq_false.1 a3 x hx
        simp at this
        exact this.1
      · rw [List.eq_of_mem_replicate hx]; exact .inl ⟨rfl, rfl⟩
      · have := List.any_eq_false.1 a2 x hx
        simp only [decide_eq_true_eq] at this
        simp only [newB]
        omega
      · have := List.any_eq_false.1 a4 x hx
        simp at this
        exact this.1
      · rw [List.eq_of_mem_replicate hx]; exact .inl ⟨rfl, rfl⟩

theorem cmpF_self (a : Fr) : cmpF a a = 0 := by
  unfold cmpF
  split
  · rw [if_neg (by omega), if_neg (by omega)]
  · rfl
theorem c_same (a b : Fr) (ha : a.I) (hb : b.I) (H : Hp) (R : Ending → Hp → Prop) (hR : R (.returned (.bool (decide (cmpF a b = 0)))) H) : ACalls Try.prog 24 [a.v, b.v] H R := by
  refine acalls_code hT Try.func24 rfl rfl ?_
  conv => whnf
  intro g
  conv => whnf
  intro g'
  conv => whnf
  refine ldA 1 rfl rfl ?_
  conv => whnf
  refine ldA 0 rfl rfl ?_
  conv => whnf
  refine c_Compare a b ha hb _ _ ?_
  conv => whnf
  refine ⟨rfl, ?_⟩
  conv => whnf
  exact fin (weakK 2 rfl) hR

theorem c_agrees (g : Nat) (a b c d : Value) (g' : Nat) (a' b' c' d' e' f' : Value) (B : Bk) (H : Hp) (hB : okB B) (hb : BkAt H g a b c d B) (hr : RbAt H g' a' b' c' d' e' f' B) (R : Ending → Hp → Prop) (hR : R (.returned (.bool true)) H) :
    ACalls Try.prog 14 [ptr g, ptr g'] H R := by
  obtain ⟨pb, mb, rfl, hbc⟩ := frsAt hr.b
  obtain ⟨pf, mf, rfl, hfc⟩ := frsAt hr.f
  have l1 := hB.l1; have l4 := hB.l4; have n1 := hB.n1; have n2 := hB.n2
  refine acalls_code hT Try.func14 rfl rfl ?_
  conv => whnf
  refine awp_loopL hT 105 [0, 1, 5] (fun n vs Hx => ∃ k : Nat, vs = [ptr g, ptr g', .int .i64 ((k : Int) - 1)] ∧ n + k = B.sp.length + 2 ∧ Hx = H) (B.sp.length + 2) rfl rfl (Weak.refl _) ⟨0, rfl, rfl, rfl⟩ ?_
  rintro n u vs Hx ⟨k, rfl, hk, rfl⟩
  conv => whnf
  refine ⟨_, hr.h 1 _ rfl, ?_⟩
  conv => whnf
  refine ifC_dec (fun c1 => ?_) (fun c1 => ?_)
  · conv => whnf
    refine c_Spent g a b c d B _ _ hB hb _ ?_
    by_cases hin : (k : Int) - 1 < 0 ∨ (k : Int) - 1 ≥ B.sp.length
    · rw [show usedF B.sp ((k : Int) - 1) = (⟨0, 0⟩, 6) from if_pos hin]
      conv => whnf
      intro gx
      conv => whnf
      refine stC 0 rfl rfl (by first | (refine ⟨rfl, ?_⟩; repeat' (first | exact trivial | refine ⟨rfl, ?_⟩)) | simp [oneCells, Value.oneCell', setN]) ?_
      conv => whnf
      have hr2 := hr.mono (HLe.cons _ (frA gx ⟨0, 0⟩))
      refine ifC_dec (fun c2 => ?_) (fun c2 => ?_)
      · conv => whnf
        refine ldA 0 rfl rfl ?_
        conv => whnf
        conv => whnf
        repeat (refine ⟨_, wi (by omega), ?_⟩; conv => whnf)
        exact ⟨rfl, rfl, n - 1, _, by omega, weakK 1 rfl, k + 1, by
          rw [show ((k + 1 : Nat) : Int) - 1 = (k : Int) - 1 + 1 by omega]
          rfl, by omega, rfl⟩
      · conv => whnf
        refine ⟨_, hr2.h 1 _ rfl, ?_⟩
        conv => whnf
        refine ifC_pos (by omega) ?_
        conv => whnf
        refine ldA 0 rfl rfl ?_
        conv => whnf
        conv => whnf
        repeat (refine ⟨_, wi (by omega), ?_⟩; conv => whnf)
        exact ⟨rfl, rfl, n - 1, _, by omega, weakK 1 rfl, k + 1, by
          rw [show ((k + 1 : Nat) : Int) - 1 = (k : Int) - 1 + 1 by omega]
          rfl, by omega, rfl⟩
    · rw [show usedF B.sp ((k : Int) - 1) = (getf B.sp ((k : Int) - 1), 0) from if_neg hin]
      conv => whnf
      intro gx
      conv => whnf
      refine stC 0 rfl rfl (by first | (refine ⟨rfl, ?_⟩; repeat' (first | exact trivial | refine ⟨rfl, ?_⟩)) | simp [oneCells, Value.oneCell', setN]) ?_
      conv => whnf
      have hr2 := hr.mono (HLe.cons _ (frA gx (getf B.sp ((k : Int) - 1))))
      refine ifC_neg (by omega) ?_
      conv => whnf
      refine ⟨_, hr2.h 1 _ rfl, ?_⟩
      conv => whnf
      refine ifC_neg (by omega) ?_
      conv => whnf
      refine awp_drawQ hT hM 14 (by kernel_rfl) ?_
      conv => whnf
      refine ldA 0 rfl rfl ?_
      conv => whnf
      refine ⟨_, hr2.h 1 _ rfl, ?_⟩
      conv => whnf
      obtain ⟨gv, ov, ev, hcv⟩ := hbc ((k : Int) - 1) (by omega) (by omega)
      subst ev
      refine ⟨gv, ov, rfl, by omega, ?_⟩
      conv => whnf
      refine ⟨_, rfl, hcv.mono (HLe.cons _ _), ?_⟩
      conv => whnf
      have hok : okF (getf B.sp ((k : Int) - 1)) := hB.sp _ (getf_mem (by omega) (by omega))
      refine c_same _ _ hok.I hok.I _ _ ?_
      rw [cmpF_self]
      refine ⟨Weak.refl _, ?_⟩
      conv => whnf
      repeat (refine ⟨_, wi (by omega), ?_⟩; conv => whnf)
      exact ⟨rfl, rfl, n - 1, _, by omega, weakK 1 rfl, k + 1, by
        rw [show ((k + 1 : Nat) : Int) - 1 = (k : Int) - 1 + 1 by omega]
        rfl, by omega, rfl⟩
  · conv => whnf
    skip
    refine awp_loopL hT 105 [0, 1, 8] (fun n vs Hy => ∃ k : Nat, vs = [ptr g, ptr g', .int .i64 ((k : Int) - 1)] ∧ n + k = B.owed.length + 2 ∧ Hy = Hx) (B.owed.length + 2) rfl rfl (Weak.refl _) ⟨0, rfl, rfl, rfl⟩ ?_
    rintro n u vs Hy ⟨k, rfl, hk, rfl⟩
    conv => whnf
    refine ⟨_, hr.h 5 _ rfl, ?_⟩
    conv => whnf
    refine ifC_dec (fun c1 => ?_) (fun c1 => ?_)
    · conv => whnf
      refine c_Owed g a b c d B _ _ hB hb _ ?_
      by_cases hin : (k : Int) - 1 < 0 ∨ (k : Int) - 1 ≥ B.owed.length
      · rw [show usedF B.owed ((k : Int) - 1) = (⟨0, 0⟩, 6) from if_pos hin]
        conv => whnf
        intro gx
        conv => whnf
        refine stC 0 rfl rfl (by first | (refine ⟨rfl, ?_⟩; repeat' (first | exact trivial | refine ⟨rfl, ?_⟩)) | simp [oneCells, Value.oneCell', setN]) ?_
        conv => whnf
        have hr2 := hr.mono (HLe.cons _ (frA gx ⟨0, 0⟩))
        refine ifC_dec (fun c2 => ?_) (fun c2 => ?_)
        · conv => whnf
          refine ldA 0 rfl rfl ?_
          conv => whnf
          conv => whnf
          repeat (refine ⟨_, wi (by omega), ?_⟩; conv => whnf)
          exact ⟨rfl, rfl, n - 1, _, by omega, weakK 1 rfl, k + 1, by
            rw [show ((k + 1 : Nat) : Int) - 1 = (k : Int) - 1 + 1 by omega]
            rfl, by omega, rfl⟩
        · conv => whnf
          refine ⟨_, hr2.h 5 _ rfl, ?_⟩
          conv => whnf
          refine ifC_pos (by omega) ?_
          conv => whnf
          refine ldA 0 rfl rfl ?_
          conv => whnf
          conv => whnf
          repeat (refine ⟨_, wi (by omega), ?_⟩; conv => whnf)
          exact ⟨rfl, rfl, n - 1, _, by omega, weakK 1 rfl, k + 1, by
            rw [show ((k + 1 : Nat) : Int) - 1 = (k : Int) - 1 + 1 by omega]
            rfl, by omega, rfl⟩
      · rw [show usedF B.owed ((k : Int) - 1) = (getf B.owed ((k : Int) - 1), 0) from if_neg hin]
        conv => whnf
        intro gx
        conv => whnf
        refine stC 0 rfl rfl (by first | (refine ⟨rfl, ?_⟩; repeat' (first | exact trivial | refine ⟨rfl, ?_⟩)) | simp [oneCells, Value.oneCell', setN]) ?_
        conv => whnf
        have hr2 := hr.mono (HLe.cons _ (frA gx (getf B.owed ((k : Int) - 1))))
        refine ifC_neg (by omega) ?_
        conv => whnf
        refine ⟨_, hr2.h 5 _ rfl, ?_⟩
        conv => whnf
        refine ifC_neg (by omega) ?_
        conv => whnf
        refine awp_drawQ hT hM 14 (by kernel_rfl) ?_
        conv => whnf
        refine ldA 0 rfl rfl ?_
        conv => whnf
        refine ⟨_, hr2.h 5 _ rfl, ?_⟩
        conv => whnf
        obtain ⟨gv, ov, ev, hcv⟩ := hfc ((k : Int) - 1) (by omega) (by omega)
        subst ev
        refine ⟨gv, ov, rfl, by omega, ?_⟩
        conv => whnf
        refine ⟨_, rfl, hcv.mono (HLe.cons _ _), ?_⟩
        conv => whnf
        have hok : okF (getf B.owed ((k : Int) - 1)) := hB.owed _ (getf_mem (by omega) (by omega))
        refine c_same _ _ hok.I hok.I _ _ ?_
        rw [cmpF_self]
        refine ⟨Weak.refl _, ?_⟩
        conv => whnf
        repeat (refine ⟨_, wi (by omega), ?_⟩; conv => whnf)
        exact ⟨rfl, rfl, n - 1, _, by omega, weakK 1 rfl, k + 1, by
          rw [show ((k + 1 : Nat) : Int) - 1 = (k : Int) - 1 + 1 by omega]
          rfl, by omega, rfl⟩
    · conv => whnf
      conv => whnf
      refine ⟨rfl, ?_⟩
      conv => whnf
      exact fin (Weak.refl _) hR
end Go.Proofs.Ytpblnfldhicfgaa.A
