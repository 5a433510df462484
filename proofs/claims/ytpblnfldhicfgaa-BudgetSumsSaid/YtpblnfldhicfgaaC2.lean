/- dioramalaw24: act, model, begun, equal. -/
import Derived.Test.YtpblnfldhicfgaaC1
namespace Go.Proofs.Ytpblnfldhicfgaa.A
open Go Go.RowKit
set_option linter.unusedVariables false
set_option linter.unusedSimpArgs false
set_option maxRecDepth 20000

def actB (B : Bk) (x : Ac) : Bk × Int := if x.rem = true ∧ 0 < x.ps.length then remB B (geti x.ps 0) else askB B x.ps x.cost
theorem okB.act {B : Bk} (h : okB B) (x : Ac) : okB (actB B x).1 := by
  unfold actB; split
  · exact h.rm _
  · exact h.ask _ _
def acV (pv : Value) (x : Ac) : Value := .agg #[.bool x.rem, pv, .int .i64 x.cost.P, .int .i64 x.cost.Q]

theorem c_act (g : Nat) (a b c d : Value) (B : Bk) (pv : Value) (x : Ac) (M : Nat → Option Obj) (L : List Atom) (hB : okB B) (hV : BkV a b c d B)
    (hp : IntsAt ⟨M, bkA g a b c d B ++ L⟩ pv x.ps) (hl : x.ps.length ≤ 1000) (hc : x.cost.I) (R : Ending → Hp → Prop)
    (hR : ∀ a' b' c' d', BkV a' b' c' d' (actB B x).1 → R (.returned (.int .i64 (actB B x).2)) ⟨M, bkA g a' b' c' d' (actB B x).1 ++ L⟩) :
    ACalls Try.prog 18 [ptr g, acV pv x] ⟨M, bkA g a b c d B ++ L⟩ R := by
  obtain ⟨p, cp, rfl, hlc, hcell⟩ := hp.open
  unfold actB at hR
  refine acalls_code hT Try.func18 rfl rfl ?_
  conv => whnf
  intro g3
  conv => whnf
  refine ldS 0 rfl rfl ?_
  conv => whnf
  refine ifC_cases (fun h1 => ?_) (fun h1 => ?_)
  · conv => whnf
    refine ldS 0 rfl rfl ?_
    conv => whnf
    refine ifC_dec (fun h2 => ?_) (fun h2 => ?_)
    · rw [if_pos ⟨h1, by omega⟩] at hR
      obtain ⟨gp, o, rfl, h0⟩ := hcell 0 (by omega) (by omega)
      conv => whnf
      refine ldS 0 rfl rfl ?_
      conv => whnf
      refine ⟨gp, o, rfl, by omega, ?_⟩
      conv => whnf
      refine ⟨_, HLe.cons _ _ _ _ _ h0, ?_⟩
      conv => whnf
      refine ACalls.weak (weakK 1 rfl) (c_Remove g a b c d B _ M L hB hV _ fun hV' => ?_)
      conv => whnf
      refine ⟨rfl, ?_⟩
      conv => whnf
      exact fin (Weak.refl _) (hR a b c d hV')
    · rw [if_neg (by omega)] at hR
      conv => whnf
      refine ldS 0 rfl rfl ?_
      conv => whnf
      refine ldP 0 rfl rfl rfl ?_
      conv => whnf
      refine ACalls.weak (weakK 1 rfl) (c_Ask g a b c d B _ x.ps x.cost M L hB hV hp hl hc _ fun a' b' c' d' hV' => ?_)
      conv => whnf
      refine ⟨rfl, ?_⟩
      conv => whnf
      exact fin (Weak.refl _) (hR a' b' c' d' hV')
  · rw [if_neg (by simp [h1])] at hR
    conv => whnf
    refine ldS 0 rfl rfl ?_
    conv => whnf
    refine ldP 0 rfl rfl rfl ?_
    conv => whnf
    refine ACalls.weak (weakK 1 rfl) (c_Ask g a b c d B _ x.ps x.cost M L hB hV hp hl hc _ fun a' b' c' d' hV' => ?_)
    conv => whnf
    refine ⟨rfl, ?_⟩
    conv => whnf
    exact fin (Weak.refl _) (hR a' b' c' d' hV')
theorem c_model (g : Nat) (a b c d e f : Value) (B : Bk) (pv : Value) (x : Ac) (M : Nat → Option Obj) (L : List Atom) (hB : okB B) (hV : RbV a b c d e f B)
    (hp : IntsAt ⟨M, rbA g a b c d e f B ++ L⟩ pv x.ps) (hl : x.ps.length ≤ 1000) (hc : x.cost.I) (R : Ending → Hp → Prop)
    (hR : ∀ b' f', RbV a b' c d e f' (actB B x).1 → R (.returned (.int .i64 (actB B x).2)) ⟨M, rbA g a b' c d e f' (actB B x).1 ++ L⟩) :
    ACalls Try.prog 19 [ptr g, acV pv x] ⟨M, rbA g a b c d e f B ++ L⟩ R := by
  obtain ⟨p, cp, rfl, hlc, hcell⟩ := hp.open
  unfold actB at hR
  refine acalls_code hT Try.func19 rfl rfl ?_
  conv => whnf
  intro g3
  conv => whnf
  refine ldS 0 rfl rfl ?_
  conv => whnf
  refine ifC_cases (fun h1 => ?_) (fun h1 => ?_)
  · conv => whnf
    refine ldS 0 rfl rfl ?_
    conv => whnf
    refine ifC_dec (fun h2 => ?_) (fun h2 => ?_)
    · rw [if_pos ⟨h1, by omega⟩] at hR
      obtain ⟨gp, o, rfl, h0⟩ := hcell 0 (by omega) (by omega)
      conv => whnf
      refine ldS 0 rfl rfl ?_
      conv => whnf
      refine ⟨gp, o, rfl, by omega, ?_⟩
      conv => whnf
      refine ⟨_, HLe.cons _ _ _ _ _ h0, ?_⟩
      conv => whnf
      refine ACalls.weak (weakK 1 rfl) (c_Remove24 g a b c d e f B _ M L hB hV _ fun hV' => ?_)
      conv => whnf
      refine ⟨rfl, ?_⟩
      conv => whnf
      exact fin (Weak.refl _) (hR b f hV')
    · rw [if_neg (by omega)] at hR
      conv => whnf
      refine ldS 0 rfl rfl ?_
      conv => whnf
      refine ldP 0 rfl rfl rfl ?_
      conv => whnf
      refine ACalls.weak (weakK 1 rfl) (c_Ask24 g a b c d e f B _ x.ps x.cost M L hB hV hp hl hc _ fun b' f' hV' => ?_)
      conv => whnf
      refine ⟨rfl, ?_⟩
      conv => whnf
      exact fin (Weak.refl _) (hR b' f' hV')
  · rw [if_neg (by simp [h1])] at hR
    conv => whnf
    refine ldS 0 rfl rfl ?_
    conv => whnf
    refine ldP 0 rfl rfl rfl ?_
    conv => whnf
    refine ACalls.weak (weakK 1 rfl) (c_Ask24 g a b c d e f B _ x.ps x.cost M L hB hV hp hl hc _ fun b' f' hV' => ?_)
    conv => whnf
    refine ⟨rfl, ?_⟩
    conv => whnf
    exact fin (Weak.refl _) (hR b' f' hV')

/-! ### begun -/
theorem mkF_nn {p q : Int} (hp : 0 ≤ p) (hq : 0 ≤ q) : 0 ≤ (mkF p q).1.P := by
  unfold mkF
  split
  · exact Int.le_refl _
  · split
    · exact Int.le_refl _
    · simp only; rw [if_neg (by omega)]; exact Int.natCast_nonneg _
theorem costL_okC (l : List Int) (f b : Int) (n : Nat) : ∀ x ∈ costL l f b n, okC x := by
  intro x hx
  refine ⟨costL_ok l f b n x hx, ?_⟩
  simp only [costL, List.mem_map] at hx
  obtain ⟨i, _, rfl⟩ := hx
  have h2 := atv_0 l (f + i + 1) 3
  exact mkF_nn (atv_0 _ _ _) (by omega)
def begB (l : List Int) : Bk := newB (bgP l) (bgO l (bgN l)) (bgQ l)
theorem beg_err (l : List Int) : newErr (bgP l) (bgO l (bgN l)) (bgQ l) = 0 := by
  have bn := bgN_bd l
  have bm := bgM_bd l
  have lP : (bgP l).length = bgN l := costL_length _ _ _ _
  have lQ : (bgQ l).length = bgM l := costL_length _ _ _ _
  have lO : (bgO l (bgN l)).length = bgN l := bgO_length _ _
  unfold newErr
  rw [if_neg (by omega), if_neg]
  rintro (h | h | h | h)
  · omega
  · obtain ⟨x, hx, h⟩ := List.any_eq_true.1 h
    have := bgO_bd l _ x hx
    simp at h
    omega
  · obtain ⟨x, hx, h⟩ := List.any_eq_true.1 h
    have := costL_okC _ _ _ _ x hx
    simp [this] at h
  · obtain ⟨x, hx, h⟩ := List.any_eq_true.1 h
    have := costL_okC _ _ _ _ x hx
    simp [this] at h
theorem begB_ok (l : List Int) : okB (begB l) := newB_ok (beg_err l)
theorem c_begun (v : Value) (l : List Int) (H : Hp) (hv : IntsAt H v l) (R : Ending → Hp → Prop)
    (hR : ∀ g a b c d g' a' b' c' d' e' f', BkV a b c d (begB l) → RbV a' b' c' d' e' f' (begB l) →
      R (.returned (.tuple #[ptr g, ptr g'])) ⟨H.M, bkA g a b c d (begB l) ++ (rbA g' a' b' c' d' e' f' (begB l) ++ H.L)⟩) : ACalls Try.prog 16 [v] H R := by
  have bn := bgN_bd l
  have bm := bgM_bd l
  have lP : (bgP l).length = bgN l := costL_length _ _ _ _
  have lQ : (bgQ l).length = bgM l := costL_length _ _ _ _
  have lO : (bgO l (bgN l)).length = bgN l := bgO_length _ _
  have hO := bgO_bd l (bgN l)
  have hP : ∀ x ∈ bgP l, okF x := costL_ok _ _ _ _
  have hQ : ∀ x ∈ bgQ l, okF x := costL_ok _ _ _ _
  refine acalls_code hT Try.func16 rfl rfl ?_
  conv => whnf
  refine c_Begin v l _ hv _ ?_
  intro a b c va vb vc
  have fP : FrsAt ⟨H.M, .row c 24 2 (frs (bgQ l)) :: .row a 24 2 (frs (bgP l)) :: .row b 3 1 (ints (bgO l (bgN l))) :: H.L⟩ a (bgP l) := frsRow 1 rfl va (okF_I hP) (by omega)
  have fQ : FrsAt ⟨H.M, .row c 24 2 (frs (bgQ l)) :: .row a 24 2 (frs (bgP l)) :: .row b 3 1 (ints (bgO l (bgN l))) :: H.L⟩ c (bgQ l) := frsRow 0 rfl vc (okF_I hQ) (by omega)
  have fO : IntsAt ⟨H.M, .row c 24 2 (frs (bgQ l)) :: .row a 24 2 (frs (bgP l)) :: .row b 3 1 (ints (bgO l (bgN l))) :: H.L⟩ b (bgO l (bgN l)) := intsRow 2 rfl vb (fun x hx => by have := hO x hx; omega) (by omega)
  obtain ⟨pa, na, ca, rfl⟩ := va.slice
  obtain ⟨pb, nb, cb, rfl⟩ := vb.slice
  obtain ⟨pc, nc, cc, rfl⟩ := vc.slice
  conv => whnf
  refine c_New _ _ _ (bgP l) (bgO l (bgN l)) (bgQ l) _ fP fO fQ _ (fun h => absurd (beg_err l) h) (fun _ g a1 b1 c1 d1 hV => ?_)
  conv => whnf
  refine c_New24 _ _ _ (bgP l) (bgO l (bgN l)) (bgQ l) _ (fP.mono (hle_pre _ _)) (fO.mono (hle_pre _ _)) (fQ.mono (hle_pre _ _)) _ (fun h => absurd (beg_err l) h) (fun _ g' a2 b2 c2 d2 e2 f2 hV2 => ?_)
  conv => whnf
  refine ⟨rfl, ?_⟩
  conv => whnf
  exact fin ((weakPull [7, 7, 7, 7, 7] rfl).trans (weakSkip 12 3 rfl)) (hR g a1 b1 c1 d1 g' a2 b2 c2 d2 e2 f2 hV hV2)

/-! ### equal -/
theorem c_equal (g : Nat) (a b c d : Value) (g' : Nat) (a' b' c' d' : Value) (B B' : Bk) (H : Hp) (hB : okB B) (hB' : okB B') (hb : BkAt H g a b c d B) (hb' : BkAt H g' a' b' c' d' B')
    (e1 : B'.lim.length = B.lim.length) (e2 : B'.most.length = B.most.length) (h1 : ∀ k : Nat, k < B.lim.length → cmpF (getf B.sp k) (getf B'.sp k) = 0) (h2 : ∀ k : Nat, k < B.most.length → cmpF (getf B.owed k) (getf B'.owed k) = 0)
    (R : Ending → Hp → Prop) (hR : R (.returned (.bool true)) H) :
    ACalls Try.prog 27 [ptr g, ptr g', .int .i64 B.lim.length, .int .i64 B.most.length] H R := by
  have l1 := hB.l1; have l4 := hB.l4; have n1 := hB.n1; have n2 := hB.n2
  have l1' := hB'.l1; have l4' := hB'.l4
  refine acalls_code hT Try.func27 rfl rfl ?_
  conv => whnf
  refine awp_loopL hT 77 [0, 1, 2, 3, 9] (fun n vs Hx => ∃ k : Nat, vs = [ptr g, ptr g', .int .i64 B.lim.length, .int .i64 B.most.length, .int .i64 k] ∧ n + k = B.lim.length ∧ Hx = H) B.lim.length rfl rfl (Weak.refl _) ⟨0, rfl, rfl, rfl⟩ ?_
  rintro n u vs Hx ⟨k, rfl, hk, rfl⟩
  conv => whnf
  refine ifC_dec (fun c1 => ?_) (fun c1 => ?_)
  · conv => whnf
    refine c_Spent g a b c d B _ _ hB hb _ ?_
    rw [show usedF B.sp (k : Int) = (getf B.sp k, 0) from if_neg (by omega)]
    conv => whnf
    intro gx
    conv => whnf
    refine stC 0 rfl rfl (by first | (refine ⟨rfl, ?_⟩; repeat' (first | exact trivial | refine ⟨rfl, ?_⟩)) | simp [oneCells, Value.oneCell', setN]) ?_
    conv => whnf
    refine c_Spent g' a' b' c' d' B' _ _ hB' (hb'.mono (HLe.cons _ _)) _ ?_
    rw [show usedF B'.sp (k : Int) = (getf B'.sp k, 0) from if_neg (by omega)]
    conv => whnf
    intro gy
    conv => whnf
    refine stC 0 rfl rfl (by first | (refine ⟨rfl, ?_⟩; repeat' (first | exact trivial | refine ⟨rfl, ?_⟩)) | simp [oneCells, Value.oneCell', setN]) ?_
    conv => whnf
    refine ldA 1 rfl rfl ?_
    conv => whnf
    refine ldA 0 rfl rfl ?_
    conv => whnf
    have o1 : okF (getf B.sp (k : Int)) := hB.sp _ (getf_mem (by omega) (by omega))
    have o2 : okF (getf B'.sp (k : Int)) := hB'.sp _ (getf_mem (by omega) (by omega))
    refine c_same _ _ o1.I o2.I _ _ ?_
    rw [h1 k (by omega)]
    conv => whnf
    repeat (refine ⟨_, wi (by omega), ?_⟩; conv => whnf)
    exact ⟨rfl, rfl, n - 1, _, by omega, weakK 2 rfl, k + 1, rfl, by omega, rfl⟩
  · conv => whnf
    skip
    refine awp_loopL hT 77 [0, 1, 2, 3, 14] (fun n vs Hy => ∃ k : Nat, vs = [ptr g, ptr g', .int .i64 B.lim.length, .int .i64 B.most.length, .int .i64 k] ∧ n + k = B.most.length ∧ Hy = Hx) B.most.length rfl rfl (Weak.refl _) ⟨0, rfl, rfl, rfl⟩ ?_
    rintro n u vs Hy ⟨k, rfl, hk, rfl⟩
    conv => whnf
    refine ifC_dec (fun c1 => ?_) (fun c1 => ?_)
    · conv => whnf
      refine c_Owed g a b c d B _ _ hB hb _ ?_
      rw [show usedF B.owed (k : Int) = (getf B.owed k, 0) from if_neg (by omega)]
      conv => whnf
      intro gx
      conv => whnf
      refine stC 0 rfl rfl (by first | (refine ⟨rfl, ?_⟩; repeat' (first | exact trivial | refine ⟨rfl, ?_⟩)) | simp [oneCells, Value.oneCell', setN]) ?_
      conv => whnf
      refine c_Owed g' a' b' c' d' B' _ _ hB' (hb'.mono (HLe.cons _ _)) _ ?_
      rw [show usedF B'.owed (k : Int) = (getf B'.owed k, 0) from if_neg (by omega)]
      conv => whnf
      intro gy
      conv => whnf
      refine stC 0 rfl rfl (by first | (refine ⟨rfl, ?_⟩; repeat' (first | exact trivial | refine ⟨rfl, ?_⟩)) | simp [oneCells, Value.oneCell', setN]) ?_
      conv => whnf
      refine ldA 1 rfl rfl ?_
      conv => whnf
      refine ldA 0 rfl rfl ?_
      conv => whnf
      have o1 : okF (getf B.owed (k : Int)) := hB.owed _ (getf_mem (by omega) (by omega))
      have o2 : okF (getf B'.owed (k : Int)) := hB'.owed _ (getf_mem (by omega) (by omega))
      refine c_same _ _ o1.I o2.I _ _ ?_
      rw [h2 k (by omega)]
      conv => whnf
      repeat (refine ⟨_, wi (by omega), ?_⟩; conv => whnf)
      exact ⟨rfl, rfl, n - 1, _, by omega, weakK 2 rfl, k + 1, rfl, by omega, rfl⟩
    · conv => whnf
      conv => whnf
      refine ⟨rfl, ?_⟩
      conv => whnf
      exact fin (Weak.refl _) hR
end Go.Proofs.Ytpblnfldhicfgaa.A
