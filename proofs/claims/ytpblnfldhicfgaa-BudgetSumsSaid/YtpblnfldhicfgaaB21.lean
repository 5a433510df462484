/- dioramaref24: Costs, Begin. -/
import Derived.Test.YtpblnfldhicfgaaB20
namespace Go.Proofs.Ytpblnfldhicfgaa.A
open Go Go.RowKit
set_option linter.unusedVariables false
set_option linter.unusedSimpArgs false
set_option maxRecDepth 20000

def costL (l : List Int) (from' by' : Int) (n : Nat) : List Fr := (List.range n).map fun i : Nat => (mkF (atv l (from' + i) by') (1 + atv l (from' + i + 1) 3)).1
theorem costL_length (l : List Int) (f b : Int) (n : Nat) : (costL l f b n).length = n := by simp [costL]
theorem costL_succ (l : List Int) (f b : Int) (n : Nat) : costL l f b (n + 1) = costL l f b n ++ [(mkF (atv l (f + n) b) (1 + atv l (f + n + 1) 3)).1] := by simp [costL, List.range_succ]
theorem frs_one' (a : Fr) : frs [a] = a.cs := by simp [frs]
theorem c_Costs (v : Value) (l : List Int) (f : Int) (n : Nat) (b : Int) (H : Hp) (hv : IntsAt H v l) (hf : 0 ≤ f ∧ f ≤ 1000) (hn : n ≤ 1000) (hb : 1 ≤ b ∧ b ≤ 1000) (R : Ending → Hp → Prop)
    (hR : ∀ v', RowVal v' 2 (frs (costL l f b n)) → R (.returned v') ⟨H.M, .row v' 24 2 (frs (costL l f b n)) :: H.L⟩) : ACalls Try.prog 31 [v, .int .i64 f, .int .i64 n, .int .i64 b] H R := by
  obtain ⟨p, cp, rfl, _⟩ := hv.open
  refine acalls_code hT Try.func31 rfl rfl ?_
  conv => whnf
  refine awp_loopL hT 40 [0, 1, 2, 3, 9, 10] (fun m vs H' => ∃ (k : Nat) (s : Value), vs = [.slice p l.length cp, .int .i64 f, .int .i64 n, .int .i64 b, s, .int .i64 k] ∧ m + k = n ∧ RowVal s 2 (frs (costL l f b k)) ∧ H' = ⟨H.M, .row s 24 2 (frs (costL l f b k)) :: H.L⟩) n rfl rfl (weakNil H 24 2) ⟨0, .slice none 0 0, rfl, rfl, .inl ⟨rfl, rfl⟩, rfl⟩ ?_
  rintro m u vs H' ⟨k, s, rfl, hk, hs, rfl⟩
  conv => whnf
  refine ifC_dec (fun h1 => ?_) (fun h1 => ?_)
  · have hv' := hv.mono (HLe.cons H (.row s 24 2 (frs (costL l f b k))))
    conv => whnf
    repeat (refine ⟨_, wi (by omega), ?_⟩; conv => whnf)
    refine c_At _ l _ _ (by omega) _ hv' _ ?_
    conv => whnf
    repeat (refine ⟨_, wi (by omega), ?_⟩; conv => whnf)
    refine c_At _ l _ _ (by omega) _ hv' _ ?_
    have h2 := atv_bd l (f + k) b (by omega)
    have h3 := atv_bd l (f + k + 1) 3 (by omega)
    conv => whnf
    repeat (refine ⟨_, wi (by omega), ?_⟩; conv => whnf)
    refine c_Make04 _ _ (by omega) (by omega) _ _ ?_
    have hok := mkF_ok (atv l (f + k) b) (1 + atv l (f + k + 1) 3)
    have hsucc := costL_succ l f b k
    generalize (mkF (atv l (f + k) b) (1 + atv l (f + k + 1) 3)).1 = x at *
    conv => whnf
    intro g'
    conv => whnf
    refine stC 0 rfl rfl (by first | (refine ⟨rfl, ?_⟩; repeat' (first | exact trivial | refine ⟨rfl, ?_⟩)) | simp [oneCells, Value.oneCell', setN]) ?_
    conv => whnf
    refine ldA 0 rfl rfl ?_
    conv => whnf
    intro g2
    conv => whnf
    refine ⟨H.M, H.L, frs (costL l f b k), frs [x], readsNew rfl rfl, frs_one _, weakK 2 rfl, ?_, ?_, ?_⟩
    · rw [frs_length, frs_length, costL_length]; simp; omega
    · rw [frs_length, frs_length, costL_length]; simp [maxLen]; omega
    rw [← frs_append, ← hsucc]
    intro v' hv2
    conv => whnf
    repeat (refine ⟨_, wi (by omega), ?_⟩; conv => whnf)
    exact ⟨rfl, rfl, m - 1, _, by omega, Weak.refl _, k + 1, v', rfl, by omega, hv2, rfl⟩
  · conv => whnf
    refine ⟨rfl, ?_⟩
    conv => whnf
    have : k = n := by omega
    subst this
    exact fin (Weak.refl _) (hR s hs)
theorem costL_ok (l : List Int) (f b : Int) (n : Nat) : ∀ x ∈ costL l f b n, okF x := by
  intro x hx
  simp only [costL, List.mem_map] at hx
  obtain ⟨i, _, rfl⟩ := hx
  exact mkF_ok _ _

/-- What Begin makes of numbers. -/
def bgN (l : List Int) : Nat := (1 + atv l 0 6).toNat
def bgM (l : List Int) : Nat := (1 + atv l 1 3).toNat
def bgO (l : List Int) (n : Nat) : List Int := (List.range n).map fun i : Nat => atv l (2 + i) (bgM l)
def bgP (l : List Int) : List Fr := costL l 3 12 (bgN l)
def bgQ (l : List Int) : List Fr := costL l 5 30 (bgM l)
theorem bgN_bd (l : List Int) : 1 ≤ bgN l ∧ bgN l ≤ 6 := by have := atv_bd l 0 6 (by omega); unfold bgN; omega
theorem bgM_bd (l : List Int) : 1 ≤ bgM l ∧ bgM l ≤ 3 := by have := atv_bd l 1 3 (by omega); unfold bgM; omega
theorem bgO_length (l : List Int) (n : Nat) : (bgO l n).length = n := by simp [bgO]
theorem bgO_succ (l : List Int) (n : Nat) : bgO l (n + 1) = bgO l n ++ [atv l (2 + n) (bgM l)] := by simp [bgO, List.range_succ]
theorem bgO_bd (l : List Int) (n : Nat) : ∀ x ∈ bgO l n, 0 ≤ x ∧ x < bgM l := by
  intro x hx
  simp only [bgO, List.mem_map] at hx
  obtain ⟨i, _, rfl⟩ := hx
  have := bgM_bd l
  exact atv_bd _ _ _ (by omega)
theorem c_Begin (v : Value) (l : List Int) (H : Hp) (hv : IntsAt H v l) (R : Ending → Hp → Prop)
    (hR : ∀ a b c, RowVal a 2 (frs (bgP l)) → RowVal b 1 (ints (bgO l (bgN l))) → RowVal c 2 (frs (bgQ l)) →
      R (.returned (.tuple #[a, b, c])) ⟨H.M, .row c 24 2 (frs (bgQ l)) :: .row a 24 2 (frs (bgP l)) :: .row b 3 1 (ints (bgO l (bgN l))) :: H.L⟩) : ACalls Try.prog 9 [v] H R := by
  obtain ⟨p, cp, rfl, _⟩ := hv.open
  have bn := bgN_bd l
  have bm := bgM_bd l
  refine acalls_code hT Try.func9 rfl rfl ?_
  conv => whnf
  refine c_At _ l _ _ (by omega) _ hv _ ?_
  have h2 := atv_bd l 0 6 (by omega)
  have h3 := atv_bd l 1 3 (by omega)
  conv => whnf
  refine ⟨(bgN l : Int), by unfold bgN; rw [show ((1 + atv l 0 6).toNat : Int) = 1 + atv l 0 6 by omega]; exact wi (by omega), ?_⟩
  conv => whnf
  refine c_At _ l _ _ (by omega) _ hv _ ?_
  conv => whnf
  refine ⟨(bgM l : Int), by unfold bgM; rw [show ((1 + atv l 1 3).toNat : Int) = 1 + atv l 1 3 by omega]; exact wi (by omega), ?_⟩
  conv => whnf
  refine awp_loopL hT 35 [0, 5, 6, 7, 8] (fun m vs H' => ∃ (k : Nat) (s : Value), vs = [.slice p l.length cp, .int .i64 (bgN l), .int .i64 (bgM l), s, .int .i64 k] ∧ m + k = bgN l ∧ RowVal s 1 (ints (bgO l k)) ∧ H' = ⟨H.M, .row s 3 1 (ints (bgO l k)) :: H.L⟩) (bgN l) rfl rfl (weakNil H 3 1) ⟨0, .slice none 0 0, rfl, rfl, .inl ⟨rfl, rfl⟩, rfl⟩ ?_
  rintro m u vs H' ⟨k, s, rfl, hk, hs, rfl⟩
  have hv' := hv.mono (HLe.cons H (.row s 3 1 (ints (bgO l k))))
  conv => whnf
  refine ifC_dec (fun h1 => ?_) (fun h1 => ?_)
  · conv => whnf
    repeat (refine ⟨_, wi (by omega), ?_⟩; conv => whnf)
    refine c_At _ l _ _ (by omega) _ hv' _ ?_
    have hsucc := bgO_succ l k
    conv => whnf
    intro g2
    conv => whnf
    refine ⟨H.M, H.L, ints (bgO l k), ints [atv l (2 + k) (bgM l)], readsNew rfl rfl, ints_one _, weakK 1 rfl, ?_, ?_, ?_⟩
    · rw [ints_length, ints_length, bgO_length]; simp; omega
    · rw [ints_length, ints_length, bgO_length]; simp [maxLen]; omega
    rw [← ints_append, ← hsucc]
    intro v' hv2
    conv => whnf
    repeat (refine ⟨_, wi (by omega), ?_⟩; conv => whnf)
    exact ⟨rfl, rfl, m - 1, _, by omega, Weak.refl _, k + 1, v', rfl, by omega, hv2, rfl⟩
  · have : k = bgN l := by omega
    subst this
    conv => whnf
    refine c_Costs _ l 3 (bgN l) 12 _ hv' (by omega) (by omega) (by omega) _ ?_
    intro a ha
    conv => whnf
    refine c_Costs _ l 5 (bgM l) 30 _ (hv'.mono (HLe.cons _ _)) (by omega) (by omega) (by omega) _ ?_
    intro c hc
    conv => whnf
    refine ⟨rfl, ?_⟩
    conv => whnf
    exact fin (Weak.refl _) (hR a s c ha hs hc)
end Go.Proofs.Ytpblnfldhicfgaa.A
