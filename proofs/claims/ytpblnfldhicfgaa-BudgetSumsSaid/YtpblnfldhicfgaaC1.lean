/- dioramaref24: Cost, Script. -/
import Derived.Test.YtpblnfldhicfgaaB22
namespace Go.Proofs.Ytpblnfldhicfgaa.A
open Go Go.RowKit
set_option linter.unusedVariables false
set_option linter.unusedSimpArgs false
set_option maxRecDepth 20000

def costF (n : Int) : Fr := (mkF (around (n.tdiv 5) 7) (geti [1, 2, 3, 4, 6] (around n 5))).1
theorem costF_ok (n : Int) : okF (costF n) := mkF_ok _ _
theorem tdiv5 {n : Int} (hn : I64 n) : I64 (n.tdiv 5) := by
  have h := Int.tdiv_mul_add_tmod n 5
  by_cases h0 : 0 ≤ n
  · rw [Int.tdiv_eq_ediv_of_nonneg h0]; omega
  · have : n = -(-n) := by omega
    rw [this, Int.neg_tdiv, Int.tdiv_eq_ediv_of_nonneg (by omega)]; omega
theorem geti5 {k : Int} (h0 : 0 ≤ k) (h1 : k < 5) : 1 ≤ geti [1, 2, 3, 4, 6] k ∧ geti [1, 2, 3, 4, 6] k ≤ 6 := by
  have h : k = 0 ∨ k = 1 ∨ k = 2 ∨ k = 3 ∨ k = 4 := by omega
  rcases h with rfl | rfl | rfl | rfl | rfl <;> decide
theorem c_Cost (n : Int) (hn : I64 n) (H : Hp) (R : Ending → Hp → Prop) (hR : R (.returned (costF n).v) H) : ACalls Try.prog 28 [.int .i64 n] H R := by
  refine acalls_code hT Try.func28 rfl rfl ?_
  conv => whnf
  intro g
  conv => whnf
  intro g5
  conv => whnf
  refine c_Around _ _ hn (by omega) _ _ ?_
  have hx := around_bd n 5 (by omega)
  obtain ⟨k, hk⟩ : ∃ k : Nat, around n 5 = k := ⟨(around n 5).toNat, by omega⟩
  have h5 := geti5 hx.1 hx.2
  unfold costF at hR
  rw [hk] at hx h5 hR
  rw [hk]
  conv => whnf
  refine ⟨g5, 0, rfl, by omega, ?_⟩
  conv => whnf
  have hcell : ∀ H : Hp, H.L[0]? = some (.row (.slice (some ⟨g5, 0, none⟩) 5 5) 3 1 (ints [1, 2, 3, 4, 6])) → H.cell g5 (0 + (k : Int).toNat * 1) (.int .i64 (geti [1, 2, 3, 4, 6] k)) := fun H h =>
    cellRow 0 h k (by
      have h : k = 0 ∨ k = 1 ∨ k = 2 ∨ k = 3 ∨ k = 4 := by omega
      rcases h with rfl | rfl | rfl | rfl | rfl <;> rfl)
  refine ⟨_, hcell _ rfl, ?_⟩
  generalize geti [1, 2, 3, 4, 6] k = q at *
  conv => whnf
  refine ⟨by omega, _, wi (tdiv5 hn), ?_⟩
  conv => whnf
  refine c_Around _ _ (tdiv5 hn) (by omega) _ _ ?_
  have hy := around_bd (n.tdiv 5) 7 (by omega)
  conv => whnf
  refine c_Make04 _ _ (by omega) (by omega) _ _ ?_
  conv => whnf
  intro g4
  conv => whnf
  refine stC 0 rfl rfl (by first | (refine ⟨rfl, ?_⟩; repeat' (first | exact trivial | refine ⟨rfl, ?_⟩)) | simp [oneCells, Value.oneCell', setN]) ?_
  conv => whnf
  refine ldA 0 rfl rfl ?_
  conv => whnf
  refine stC 2 rfl rfl (by first | (refine ⟨rfl, ?_⟩; repeat' (first | exact trivial | refine ⟨rfl, ?_⟩)) | simp [oneCells, Value.oneCell', setN]) ?_
  conv => whnf
  refine ⟨rfl, ?_⟩
  conv => whnf
  refine ldA 2 rfl rfl ?_
  conv => whnf
  exact fin (weakK 3 rfl) hR

theorem weakApp {M : Nat → Option Obj} {S : List Atom} {a b : Atom} : Weak ⟨M, S ++ [a, b]⟩ ⟨M, b :: (S ++ [])⟩ :=
  (Weak.perm List.perm_append_comm).trans (weakK 1 (by simp))

/-! ### Scripts -/
structure Ac where
  rem : Bool
  ps : List Int
  cost : Fr
def acv (c : Value × Ac) : List Value := [.bool c.2.rem, c.1, .int .i64 c.2.cost.P, .int .i64 c.2.cost.Q]
def acs (cs : List (Value × Ac)) : List Value := cs.flatMap acv
def acR (cs : List (Value × Ac)) : List Atom := cs.map fun c => .row c.1 3 1 (ints c.2.ps)
theorem acs_length (cs : List (Value × Ac)) : (acs cs).length = cs.length * 4 := by
  induction cs with
  | nil => rfl
  | cons c cs ih => simp only [acs, List.flatMap_cons, List.length_append, List.length_cons] at *; rw [ih]; simp [acv]; omega
theorem acs_append (l m : List (Value × Ac)) : acs (l ++ m) = acs l ++ acs m := by simp [acs]
def scN (l : List Int) : Nat := min 20 ((l.length + 5) / 6)
def scK (l : List Int) (i : Nat) : Nat := (atv l (6 * i + 2) 4).toNat
def scP (l : List Int) (n : Int) (i k : Nat) : Int := (atv l (6 * i + 3) (n + 1) + k * (1 + atv l (6 * i + 4) 2)) % (n + 1)
def scPs (l : List Int) (n : Int) (i m : Nat) : List Int := (List.range m).map fun k => scP l n i k
def scAct (l : List Int) (n : Int) (i : Nat) : Ac := ⟨decide (atv l (6 * i) 8 = 0), scPs l n i (scK l i), costF (atv l (6 * i + 1) 200)⟩
def scriptN (l : List Int) (n : Int) (m : Nat) : List Ac := (List.range m).map (scAct l n)
def script (l : List Int) (n : Int) : List Ac := scriptN l n (scN l)
theorem scPs_succ (l : List Int) (n : Int) (i m : Nat) : scPs l n i (m + 1) = scPs l n i m ++ [scP l n i m] := by simp [scPs, List.range_succ]
theorem scPs_length (l : List Int) (n : Int) (i m : Nat) : (scPs l n i m).length = m := by simp [scPs]
theorem scriptN_succ (l : List Int) (n : Int) (m : Nat) : scriptN l n (m + 1) = scriptN l n m ++ [scAct l n m] := by simp [scriptN, List.range_succ]
theorem scP_bd (l : List Int) {n : Int} (hn : 0 ≤ n) (i k : Nat) : 0 ≤ scP l n i k ∧ scP l n i k < n + 1 := ⟨Int.emod_nonneg _ (by omega), Int.emod_lt_of_pos _ (by omega)⟩
theorem scK_bd (l : List Int) (i : Nat) : scK l i ≤ 3 := by have := atv_bd l (6 * i + 2) 4 (by omega); unfold scK; omega

set_option maxHeartbeats 1000000 in
theorem c_Script (v : Value) (l : List Int) (n : Int) (H : Hp) (hv : IntsAt H v l) (hn : 0 ≤ n ∧ n ≤ 1000) (R : Ending → Hp → Prop)
    (hR : ∀ v' cs, cs.map (·.2) = script l n → (∀ c ∈ cs, RowVal c.1 1 (ints c.2.ps)) → RowVal v' 4 (acs cs) → R (.returned v') ⟨H.M, .row v' 50 4 (acs cs) :: (acR cs ++ H.L)⟩) :
    ACalls Try.prog 17 [v, .int .i64 n] H R := by
  obtain ⟨p, cp, rfl, _⟩ := hv.open
  refine acalls_code hT Try.func17 rfl rfl ?_
  conv => whnf
  refine awp_loopL hT 72 [0, 1, 5, 6] (fun m vs H' => ∃ (i : Nat) (s : Value) (cs : List (Value × Ac)), vs = [.slice p l.length cp, .int .i64 n, s, .int .i64 i] ∧ m + i = scN l ∧ cs.map (·.2) = scriptN l n i ∧
    (∀ c ∈ cs, RowVal c.1 1 (ints c.2.ps)) ∧ RowVal s 4 (acs cs) ∧ H' = ⟨H.M, .row s 50 4 (acs cs) :: (acR cs ++ H.L)⟩) (scN l) rfl rfl (weakNil H 50 4) ⟨0, .slice none 0 0, [], rfl, rfl, rfl, by simp, .inl ⟨rfl, rfl⟩, rfl⟩ ?_
  rintro m u vs H' ⟨i, s, cs, rfl, hi, hcs, hrow, hs, rfl⟩
  have hlen : cs.length = i := by
    have := congrArg List.length hcs
    simpa [scriptN] using this
  have h20 : scN l ≤ 20 := by unfold scN; omega
  conv => whnf
  repeat (refine ⟨_, wi (by omega), ?_⟩; conv => whnf)
  refine ifC_dec (fun h1 => ?_) (fun h1 => ?_)
  · conv => whnf
    refine ifC_dec (fun h2 => ?_) (fun h2 => ?_)
    · have hin : i < scN l := by unfold scN; omega
      conv => whnf
      repeat (refine ⟨_, wi (by omega), ?_⟩; conv => whnf)
      have hle : HLe H ⟨H.M, .row s 50 4 (acs cs) :: (acR cs ++ H.L)⟩ := (hle_pre (acR cs) H.L).trans (HLe.cons _ _)
      have hv1 := hv.mono hle
      refine c_At _ l _ _ (by omega) _ hv1 _ ?_
      conv => whnf
      repeat (refine ⟨_, wi (by omega), ?_⟩; conv => whnf)
      refine c_At _ l _ _ (by omega) _ hv1 _ ?_
      have hb1 := atv_bd l (6 * i + 1) 200 (by omega)
      conv => whnf
      refine c_Cost _ (by omega) _ _ ?_
      conv => whnf
      intro g7
      conv => whnf
      refine stC 0 rfl rfl (by first | (refine ⟨rfl, ?_⟩; repeat' (first | exact trivial | refine ⟨rfl, ?_⟩)) | simp [oneCells, Value.oneCell', setN]) ?_
      conv => whnf
      have hv2 := hv1.mono (HLe.cons _ (.cells g7 50 [.bool (decide (atv l (6 * i) 8 = 0)), .slice none 0 0, .int .i64 (costF (atv l (6 * i + 1) 200)).P, .int .i64 (costF (atv l (6 * i + 1) 200)).Q]))
      conv => whnf
      repeat (refine ⟨_, wi (by omega), ?_⟩; conv => whnf)
      refine c_At _ l _ _ (by omega) _ hv2 _ ?_
      have hk := scK_bd l i
      have ek : atv l (6 * i + 2) 4 = scK l i := by have := atv_bd l (6 * i + 2) 4 (by omega); unfold scK; omega
      rw [ek]
      conv => whnf
      generalize hr : decide (atv l (6 * (i : Int)) 8 = 0) = r at *
      generalize hc : costF (atv l (6 * (i : Int) + 1) 200) = c at *
      refine awp_loopL hT 72 [0, 1, 5, 6, 7, 8, 9] (fun m vs H' => ∃ (k : Nat) (pv : Value), vs = [.slice p l.length cp, .int .i64 n, s, .int .i64 i, ptr g7, .int .i64 (scK l i), .int .i64 k] ∧ m + k = scK l i ∧ RowVal pv 1 (ints (scPs l n i k)) ∧
        H' = ⟨H.M, .cells g7 50 [.bool r, pv, .int .i64 c.P, .int .i64 c.Q] :: .row pv 3 1 (ints (scPs l n i k)) :: .row s 50 4 (acs cs) :: (acR cs ++ H.L)⟩) (scK l i) rfl rfl
        ((weakNil _ 3 1).trans (weakPull [1, 0] rfl)) ⟨0, .slice none 0 0, rfl, by omega, .inl ⟨rfl, rfl⟩, rfl⟩ ?_
      rintro m' u' vs' H' ⟨k, pv, rfl, hk', hpv, rfl⟩
      conv => whnf
      refine ifC_dec (fun h3 => ?_) (fun h3 => ?_)
      · conv => whnf
        have hvS : IntsAt ⟨H.M, .cells g7 50 [.bool r, pv, .int .i64 c.P, .int .i64 c.Q] :: .row s 50 4 (acs cs) :: (acR cs ++ H.L)⟩ (.slice p l.length cp) l := hv1.mono (HLe.cons _ _)
        refine awp_draw hT hM 23 (List.range 23) (by kernel_rfl) H.M (.cells g7 50 [.bool r, pv, .int .i64 c.P, .int .i64 c.Q] :: .row s 50 4 (acs cs) :: (acR cs ++ H.L)) [.row pv 3 1 (ints (scPs l n i k))]
          (Weak.perm (by exact (List.Perm.cons _ (List.perm_append_comm (l₁ := [_])))) ) ?_
        conv => whnf
        refine ldS 0 rfl rfl ?_
        conv => whnf
        repeat (refine ⟨_, wi (by omega), ?_⟩; conv => whnf)
        refine c_At _ l _ _ (by omega) _ (hvS.mono (hle_app _ _ _)) _ ?_
        refine ⟨_, _, Weak.refl _, fun _ _ h => h, ?_⟩
        conv => whnf
        repeat (refine ⟨_, wi (by omega), ?_⟩; conv => whnf)
        refine c_At _ l _ _ (by omega) _ (hvS.mono (hle_app _ _ _)) _ ?_
        have b3 := atv_bd l (6 * i + 3) (n + 1) (by omega)
        have b4 := atv_bd l (6 * i + 4) 2 (by omega)
        have hmul : 0 ≤ (k : Int) * (1 + atv l (6 * i + 4) 2) ∧ (k : Int) * (1 + atv l (6 * i + 4) 2) ≤ 6 := by
          have : atv l (6 * i + 4) 2 = 0 ∨ atv l (6 * i + 4) 2 = 1 := by omega
          rcases this with h | h <;> rw [h] <;> omega
        refine ⟨_, _, Weak.refl _, fun _ _ h => h, ?_⟩
        conv => whnf
        repeat (refine ⟨_, wi (by omega), ?_⟩; conv => whnf)
        refine ⟨by omega, _, rfl, ?_⟩
        have e : (atv l (6 * i + 3) (n + 1) + k * (1 + atv l (6 * i + 4) 2)).tmod (n + 1) = scP l n i k := by
          unfold scP; rw [Int.tmod_eq_emod_of_nonneg (by omega)]
        rw [e]
        conv => whnf
        intro gb
        conv => whnf
        have hsucc := scPs_succ l n i k
        refine ⟨H.M, _ ++ [], ints (scPs l n i k), ints [scP l n i k], ?_, ints_one _, weakApp, ?_, ?_, ?_⟩
        · exact readsRow (e := 3) (v := .slice (some ⟨gb, 0, none⟩) 1 1) (xs := ints [scP l n i k]) (by simp [ints]) (rowNew rfl (by omega))
        · rw [ints_length, ints_length, scPs_length]; simp; omega
        · rw [ints_length, ints_length, scPs_length]; simp [maxLen]; omega
        rw [← ints_append, ← hsucc]
        intro v' hv'
        refine ⟨_, _ :: _, weakMid, fun _ _ h => h, ?_⟩
        obtain ⟨a1, a2, a3, rfl⟩ := hv'.slice
        conv => whnf
        refine ⟨_, Weak.perm List.perm_append_comm, ?_⟩
        conv => whnf
        refine stC 1 rfl rfl (by first | (refine ⟨rfl, ?_⟩; repeat' (first | exact trivial | refine ⟨rfl, ?_⟩)) | simp [oneCells, Value.oneCell', setN]) ?_
        conv => whnf
        conv => whnf
        repeat (refine ⟨_, wi (by omega), ?_⟩; conv => whnf)
        exact ⟨rfl, rfl, m' - 1, _, by omega, weakPull [1, 0] rfl, k + 1, _, rfl, by omega, hv', rfl⟩
      · have hke : k = scK l i := by omega
        subst hke
        obtain ⟨a1, a2, a3, rfl⟩ := hpv.slice
        conv => whnf
        refine ldA 0 rfl rfl ?_
        conv => whnf
        intro g8
        conv => whnf
        have hact : scAct l n i = ⟨r, scPs l n i (scK l i), c⟩ := by unfold scAct; rw [hr, hc]
        refine ⟨H.M, .row (.slice a1 a2 a3) 3 1 (ints (scPs l n i (scK l i))) :: (acR cs ++ H.L), acs cs, acs [(.slice a1 a2 a3, scAct l n i)], readsRow (e := 50) (v := .slice (some ⟨g8, 0, none⟩) 1 1) (by rw [hact]; exact List.mem_cons_self) (rowNew (by rw [acs_length]; rfl) (by omega)), by rw [hact]; simp [acs, acv, Value.oneCell'],
          (weakPull [3, 2] rfl).trans (weakSkip 2 2 rfl), by rw [acs_length, acs_length]; simp; omega, by rw [acs_length, acs_length]; simp [maxLen]; omega, ?_⟩
        rw [← acs_append]
        intro v' hv'
        conv => whnf
        repeat (refine ⟨_, wi (by omega), ?_⟩; conv => whnf)
        refine ⟨rfl, rfl, m - 1, _, by omega, ?_, i + 1, v', cs ++ [(.slice a1 a2 a3, scAct l n i)], rfl, by omega, by rw [List.map_append, hcs, scriptN_succ]; rfl, ?_, hv', rfl⟩
        · refine Weak.perm (List.Perm.cons _ ?_)
          have : acR (cs ++ [(.slice a1 a2 a3, scAct l n i)]) ++ H.L = acR cs ++ (.row (.slice a1 a2 a3) 3 1 (ints (scPs l n i (scK l i))) :: H.L) := by rw [hact]; simp [acR]
          rw [this]
          exact List.perm_middle.symm
        · intro x hx
          rcases List.mem_append.1 hx with h | h
          · exact hrow x h
          · rw [List.mem_singleton.1 h, hact]; exact hpv
    · have hm : i = scN l := by
        unfold scN at *; omega
      conv => whnf
      refine ⟨rfl, ?_⟩
      conv => whnf
      subst hm
      exact fin (Weak.refl _) (hR s cs hcs hrow hs)
  · have hm : i = scN l := by
      unfold scN at *; omega
    conv => whnf
    refine ⟨rfl, ?_⟩
    conv => whnf
    subst hm
    exact fin (Weak.refl _) (hR s cs hcs hrow hs)
end Go.Proofs.Ytpblnfldhicfgaa.A
