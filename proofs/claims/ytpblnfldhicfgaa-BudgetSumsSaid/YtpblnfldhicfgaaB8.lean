/- slices.Clone; dioramaref01.Take; budget.accounts, used. -/
import Derived.Test.YtpblnfldhicfgaaB7
namespace Go.Proofs.Ytpblnfldhicfgaa.A
open Go Go.RowKit
set_option linter.unusedVariables false
set_option linter.unusedSimpArgs false
set_option maxRecDepth 4000

theorem reads_len {H : Hp} {v : Value} {sz : Nat} {xs : List Value} (h : Reads H v sz xs) : ∃ p n c, v = .slice p n c ∧ xs.length = n * sz ∧ (p.isNone = true → xs = []) := by
  obtain ⟨p, n, c, rfl, h1, h2, h3⟩ := h
  refine ⟨p, n, c, rfl, h2, fun hp => ?_⟩
  cases n with
  | zero => exact List.length_eq_zero_iff.1 (by simpa using h2)
  | succ n => obtain ⟨g, o, rfl, _⟩ := h3 (by omega); cases hp

theorem c_CloneI (v : Value) (xs : List Value) (H : Hp) (hv : Reads H v 1 xs) (h1 : ∀ u ∈ xs, u.oneCell' = true) (hlen : xs.length ≤ 10000) (R : Ending → Hp → Prop)
    (hR : ∀ v', RowVal v' 1 xs → R (.returned v') ⟨H.M, .row v' 3 1 xs :: H.L⟩) : ACalls Try.prog 38 [v] H R := by
  obtain ⟨p, n, c, rfl, hl, hnil⟩ := reads_len hv
  refine acalls_code hT Try.func38 rfl rfl ?_
  conv => whnf
  refine ifC_cases (fun h => ?_) (fun h => ?_)
  · conv => whnf
    refine ⟨rfl, ?_⟩
    conv => whnf
    rw [hnil h] at hR
    exact fin (weakNil H 3 1) (hR _ (.inl ⟨rfl, rfl⟩))
  · conv => whnf
    intro g
    conv => whnf
    refine ⟨H.M, H.L, [], xs, ?_, h1, Weak.refl _, ?_, ?_, ?_⟩
    · exact hv.mono (HLe.cons H _)
    · simp; omega
    · simp [maxLen]; omega
    intro v' hv'
    conv => whnf
    refine ⟨rfl, ?_⟩
    conv => whnf
    exact fin (Weak.refl _) (hR v' hv')
theorem c_CloneA (v : Value) (xs : List Value) (H : Hp) (hv : Reads H v 4 xs) (h1 : ∀ u ∈ xs, u.oneCell' = true) (hlen : xs.length ≤ 10000) (R : Ending → Hp → Prop)
    (hR : ∀ v', RowVal v' 4 xs → R (.returned v') ⟨H.M, .row v' 84 4 xs :: H.L⟩) : ACalls Try.prog 45 [v] H R := by
  obtain ⟨p, n, c, rfl, hl, hnil⟩ := reads_len hv
  refine acalls_code hT Try.func45 rfl rfl ?_
  conv => whnf
  refine ifC_cases (fun h => ?_) (fun h => ?_)
  · conv => whnf
    refine ⟨rfl, ?_⟩
    conv => whnf
    rw [hnil h] at hR
    exact fin (weakNil H 84 4) (hR _ (.inl ⟨rfl, rfl⟩))
  · conv => whnf
    intro g
    conv => whnf
    refine ⟨H.M, H.L, [], xs, ?_, h1, Weak.refl _, ?_, ?_, ?_⟩
    · exact hv.mono (HLe.cons H _)
    · simp; omega
    · simp [maxLen]; omega
    intro v' hv'
    conv => whnf
    refine ⟨rfl, ?_⟩
    conv => whnf
    exact fin (Weak.refl _) (hR v' hv')
theorem c_CloneB (v : Value) (xs : List Value) (H : Hp) (hv : Reads H v 1 xs) (h1 : ∀ u ∈ xs, u.oneCell' = true) (hlen : xs.length ≤ 10000) (R : Ending → Hp → Prop)
    (hR : ∀ v', RowVal v' 1 xs → R (.returned v') ⟨H.M, .row v' 4 1 xs :: H.L⟩) : ACalls Try.prog 46 [v] H R := by
  obtain ⟨p, n, c, rfl, hl, hnil⟩ := reads_len hv
  refine acalls_code hT Try.func46 rfl rfl ?_
  conv => whnf
  refine ifC_cases (fun h => ?_) (fun h => ?_)
  · conv => whnf
    refine ⟨rfl, ?_⟩
    conv => whnf
    rw [hnil h] at hR
    exact fin (weakNil H 4 1) (hR _ (.inl ⟨rfl, rfl⟩))
  · conv => whnf
    intro g
    conv => whnf
    refine ⟨H.M, H.L, [], xs, ?_, h1, Weak.refl _, ?_, ?_, ?_⟩
    · exact hv.mono (HLe.cons H _)
    · simp; omega
    · simp [maxLen]; omega
    intro v' hv'
    conv => whnf
    refine ⟨rfl, ?_⟩
    conv => whnf
    exact fin (Weak.refl _) (hR v' hv')

/-- Take: at most n elements. -/
theorem c_Take (v : Value) (l : List Int) (n : Nat) (H : Hp) (hv : IntsAt H v l) (hn : n ≤ 1000) (R : Ending → Hp → Prop)
    (hR : ∀ v', RowVal v' 1 (ints (l.take n)) → R (.returned v') ⟨H.M, .row v' 3 1 (ints (l.take n)) :: H.L⟩) : ACalls Try.prog 11 [v, .int .i64 n] H R := by
  obtain ⟨p, k, c, rfl, hnc, hl, hc⟩ := hv.reads
  rw [ints_length, Nat.mul_one] at hl
  subst hl
  have hb := hv.len
  refine acalls_code hT Try.func11 rfl rfl ?_
  conv => whnf
  refine ⟨min l.length n, by split <;> omega, by omega, ?_⟩
  conv => whnf
  refine ⟨H.M, H.L, [], ints (l.take n), ?_, ints_one _, weakNil H 3 1, ?_, ?_, ?_⟩
  · refine ⟨_, _, _, rfl, by omega, by simp [ints_length, List.length_take, Nat.min_comm], fun h0 => ?_⟩
    obtain ⟨g, o, rfl, hcells⟩ := hc (by omega)
    have : subAddr (some ⟨g, o, none⟩) c 0 1 = some ⟨g, o, none⟩ := by
      unfold subAddr
      split
      · rfl
      · simp [Addr.add]
    refine ⟨g, o, this, fun j u hj => hcells j u ?_⟩
    simp only [ints, List.getElem?_map, List.getElem?_take] at hj ⊢
    split at hj
    · exact hj
    · simp at hj
  · simp [ints_length, List.length_take]; omega
  · simp [ints_length, List.length_take, maxLen]; omega
  intro v' hv'
  conv => whnf
  refine ⟨rfl, ?_⟩
  conv => whnf
  exact fin (Weak.refl _) (hR v' hv')

/-! ### Accounts -/
theorem readsNew {M : Nat → Option Obj} {L : List Atom} {g n e sz : Nat} {xs : List Value} (h : xs.length = n * sz) (hn : Nat.ble n 1000 = true) : Reads ⟨M, .row (.slice (some ⟨g, 0, none⟩) n n) e sz xs :: L⟩ (.slice (some ⟨g, 0, none⟩) n n) sz xs :=
  readsRow (e := e) List.mem_cons_self (.inr ⟨g, 0, n, n, rfl, h, Nat.le_refl _, by have := Nat.le_of_ble_eq_true hn; simp [maxLen]; omega⟩)
def accs (l m : List Fr) : List Value := (l.zip m).flatMap fun p => p.1.cs ++ p.2.cs
theorem accs_length {l m : List Fr} (h : m.length = l.length) : (accs l m).length = l.length * 4 := by
  induction l generalizing m with
  | nil => simp [accs]
  | cons a l ih =>
    cases m with
    | nil => simp at h
    | cons b m =>
      have := ih (m := m) (by simpa using h)
      simp only [accs, List.zip_cons_cons, List.flatMap_cons, List.length_append, List.length_cons] at *
      rw [this]
      simp [Fr.cs]; omega
theorem c_accounts (v : Value) (l : List Fr) (H : Hp) (hv : FrsAt H v l) (R : Ending → Hp → Prop)
    (hR : ∀ v', RowVal v' 4 (accs l (List.replicate l.length ⟨0, 0⟩)) → R (.returned v') ⟨H.M, .row v' 84 4 (accs l (List.replicate l.length ⟨0, 0⟩)) :: H.L⟩) : ACalls Try.prog 37 [v] H R := by
  obtain ⟨p, c, rfl, hlc, hc⟩ := hv.open
  have hb := hv.len
  refine acalls_code hT Try.func37 rfl rfl ?_
  conv => whnf
  refine awp_loopL hT 19 [3, 6, 7, 8] (fun n vs H' => ∃ (k : Nat) (s : Value), vs = [s, .slice p l.length c, .int .i64 l.length, .int .i64 k] ∧ n + k = l.length ∧ RowVal s 4 (accs (l.take k) (List.replicate k ⟨0, 0⟩)) ∧
    H' = ⟨H.M, .row s 84 4 (accs (l.take k) (List.replicate k ⟨0, 0⟩)) :: H.L⟩) l.length rfl rfl (weakNil H 84 4) ⟨0, .slice none 0 0, rfl, rfl, .inl ⟨rfl, rfl⟩, rfl⟩ ?_
  rintro n u vs H' ⟨k, s, rfl, hk, hs, rfl⟩
  conv => whnf
  refine ifC_dec (fun h1 => ?_) (fun h1 => ?_)
  · conv => whnf
    obtain ⟨g, o, rfl, hcell⟩ := hc k (by omega) (by omega)
    refine ⟨g, o, rfl, by omega, ?_⟩
    conv => whnf
    refine ⟨_, rfl, fun j u hj => HLe.cons H _ _ _ _ (hcell j u hj), ?_⟩
    conv => whnf
    intro g'
    conv => whnf
    refine stC 0 rfl rfl (by first | (refine ⟨rfl, ?_⟩; repeat' (first | exact trivial | refine ⟨rfl, ?_⟩)) | simp [oneCells, Value.oneCell', setN]) ?_
    conv => whnf
    refine ldA 0 rfl rfl ?_
    conv => whnf
    intro g2
    conv => whnf
    have hkl : k < l.length := by omega
    have e1 : getf l k = l[k] := by simp [getf, List.getD_eq_getElem?_getD, hkl]
    have e2 : accs (l.take k) (List.replicate k ⟨0, 0⟩) ++ [.int .i64 (getf l k).P, .int .i64 (getf l k).Q, .int .i64 0, .int .i64 0] = accs (l.take (k + 1)) (List.replicate (k + 1) ⟨0, 0⟩) := by
      rw [List.take_succ_eq_append_getElem hkl, List.replicate_succ', accs, accs, List.zip_append (by simp; omega), List.flatMap_append, e1]
      rfl
    have e3 : (accs (l.take k) (List.replicate k ⟨0, 0⟩)).length ≤ 4000 := by rw [accs_length (by simp; omega)]; simp; omega
    refine ⟨H.M, H.L, _, [.int .i64 (getf l k).P, .int .i64 (getf l k).Q, .int .i64 0, .int .i64 0], readsNew rfl rfl, by simp [Value.oneCell'], weakK 2 rfl, ?_, ?_, ?_⟩
    · simp; omega
    · simp [maxLen]; omega
    rw [e2]
    intro v' hv'
    conv => whnf
    repeat (refine ⟨_, wi (by omega), ?_⟩; conv => whnf)
    exact ⟨rfl, rfl, n - 1, _, by omega, Weak.refl _, k + 1, v', rfl, by omega, hv', rfl⟩
  · conv => whnf
    refine ⟨rfl, ?_⟩
    conv => whnf
    have : k = l.length := by omega
    subst this
    rw [List.take_length] at hs ⊢
    exact fin (Weak.refl _) (hR s hs)
end Go.Proofs.Ytpblnfldhicfgaa.A
