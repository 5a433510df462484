/- dioramaref01: lists; dioramaref04: numbers. -/
import Derived.Test.YtpblnfldhicfgaaB1
namespace Go.Proofs.Ytpblnfldhicfgaa.A
open Go Go.RowKit
set_option linter.unusedVariables false
set_option linter.unusedSimpArgs false
set_option maxRecDepth 4000

theorem c_Common (a b : Nat) (ha : U64 a) (hb : U64 b) (H : Hp) (R : Ending → Hp → Prop) (hR : R (.returned (.int .u64 (Nat.gcd a b : Nat))) H) :
    ACalls Try.prog 66 [.int .u64 a, .int .u64 b] H R := by
  refine acalls_code hT Try.func66 rfl rfl ?_
  conv => whnf
  refine awp_loopL hT 14 [0, 1] (fun n vs H' => ∃ x : Nat, vs = [.int .u64 x, .int .u64 n] ∧ U64 x ∧ U64 n ∧ Nat.gcd x n = Nat.gcd a b ∧ H' = H) b rfl rfl (Weak.refl _) ⟨a, rfl, ha, hb, rfl, rfl⟩ ?_
  rintro n u vs H' ⟨x, rfl, hx, hy, hg, rfl⟩
  conv => whnf
  refine ifC_dec (fun h => ?_) (fun h => ?_)
  · conv => whnf
    refine ⟨h, _, rfl, ?_⟩
    conv => whnf
    refine ⟨rfl, rfl, x % n, _, Nat.mod_lt _ (by omega), Weak.refl _, n, ?_, hy, ?_, ?_, rfl⟩
    · rw [show (((x % n : Nat)) : Int) = (x : Int).tmod n by simp [Int.tmod_eq_emod_of_nonneg]]
      rfl
    · have := Nat.mod_le x n
      omega
    · rw [← hg, Nat.gcd_comm x n, Nat.gcd_rec n x, Nat.gcd_comm]
  · conv => whnf
    refine ⟨rfl, ?_⟩
    conv => whnf
    refine fin (Weak.refl _) ?_
    have h0 : n = 0 := by omega
    subst h0
    rw [Nat.gcd_zero_right] at hg
    rw [hg]
    exact hR

/-! ### Fractions -/
structure Fr where
  P : Int
  Q : Int
def Fr.cs (a : Fr) : List Value := [.int .i64 a.P, .int .i64 a.Q]
def Fr.v (a : Fr) : Value := .agg #[.int .i64 a.P, .int .i64 a.Q]
def mkF (p q : Int) : Fr × Int :=
  if q = 0 then (⟨0, 0⟩, 1) else
  if 2147483648 < p.natAbs / Nat.gcd p.natAbs q.natAbs ∨ 2147483648 < q.natAbs / Nat.gcd p.natAbs q.natAbs then (⟨0, 0⟩, 5) else
  (⟨if (p < 0 ∧ 0 < q) ∨ (0 < p ∧ q < 0) then -(p.natAbs / Nat.gcd p.natAbs q.natAbs : Nat) else (p.natAbs / Nat.gcd p.natAbs q.natAbs : Nat), (q.natAbs / Nat.gcd p.natAbs q.natAbs : Nat)⟩, 0)
def okF (a : Fr) : Prop := (a.P = 0 ∧ a.Q = 0) ∨ (1 ≤ a.Q ∧ a.Q ≤ 2147483648 ∧ -2147483648 ≤ a.P ∧ a.P ≤ 2147483648 ∧ Nat.gcd a.P.natAbs a.Q.natAbs = 1)
instance (a : Fr) : Decidable (okF a) := inferInstanceAs (Decidable (_ ∨ _))
def den (a : Fr) : Int := if 1 > a.Q then 1 else a.Q

theorem c_Size04 (n : Int) (hn : I64 n) (H : Hp) (R : Ending → Hp → Prop) (hR : R (.returned (.int .u64 (n.natAbs : Nat))) H) : ACalls Try.prog 67 [.int .i64 n] H R := by
  refine acalls_code hT Try.func67 rfl rfl ?_
  conv => whnf
  repeat (refine ⟨_, wi (by omega), ?_⟩; conv => whnf)
  refine ifC_dec (fun h => ?_) (fun h => ?_)
  · conv => whnf
    repeat (refine ⟨_, wi (by omega), ?_⟩; conv => whnf)
    refine ⟨_, wu (by omega), ?_⟩
    conv => whnf
    refine ⟨_, wu (by omega), ?_⟩
    conv => whnf
    refine ⟨rfl, ?_⟩
    conv => whnf
    refine fin (Weak.refl _) ?_
    rw [show (0 - (n + 1) + 1 : Int) = (n.natAbs : Nat) by omega]
    exact hR
  · conv => whnf
    repeat (refine ⟨_, wi (by omega), ?_⟩; conv => whnf)
    refine ⟨_, wu (by omega), ?_⟩
    conv => whnf
    refine ⟨rfl, ?_⟩
    conv => whnf
    refine fin (Weak.refl _) ?_
    rw [show n = (n.natAbs : Nat) by omega]
    exact hR

theorem natAbs_u {n : Int} (hn : I64 n) : U64 (n.natAbs : Nat) := by omega
theorem div_le_self' (a b : Nat) : a / b ≤ a := Nat.div_le_self a b

theorem c_Make04 (p q : Int) (hp : I64 p) (hq : I64 q) (H : Hp) (R : Ending → Hp → Prop) (hR : R (.returned (.tuple #[(mkF p q).1.v, .int .i64 (mkF p q).2])) H) :
    ACalls Try.prog 53 [.int .i64 p, .int .i64 q] H R := by
  have hm : ∀ a b, mkF p q = (a, b) → R (.returned (.tuple #[a.v, .int .i64 b])) H := fun a b e => by rw [e] at hR; exact hR
  refine acalls_code hT Try.func53 rfl rfl ?_
  conv => whnf
  intro g
  conv => whnf
  refine ifC_dec (fun h => ?_) (fun h => ?_)
  · conv => whnf
    refine stC 0 rfl rfl (by first | (refine ⟨rfl, ?_⟩; repeat' (first | exact trivial | refine ⟨rfl, ?_⟩)) | simp [oneCells, Value.oneCell', setN]) ?_
    conv => whnf
    refine ⟨rfl, ?_⟩
    conv => whnf
    refine ldA 0 rfl rfl ?_
    conv => whnf
    exact fin (weakK 1 rfl) (hm ⟨0, 0⟩ 1 (by simp [mkF, h]))
  · conv => whnf
    refine c_Size04 _ hp _ _ ?_
    conv => whnf
    refine c_Size04 _ hq _ _ ?_
    conv => whnf
    refine c_Common _ _ (natAbs_u hp) (natAbs_u hq) _ _ ?_
    conv => whnf
    refine c_Size04 _ hp _ _ ?_
    have hg : 0 < Nat.gcd p.natAbs q.natAbs := Nat.gcd_pos_of_pos_right _ (by omega)
    have h1 := div_le_self' p.natAbs (Nat.gcd p.natAbs q.natAbs)
    have h2 := div_le_self' q.natAbs (Nat.gcd p.natAbs q.natAbs)
    have e1 : ((p.natAbs : Nat) : Int).tdiv (Nat.gcd p.natAbs q.natAbs : Nat) = (p.natAbs / Nat.gcd p.natAbs q.natAbs : Nat) := by simp
    have e2 : ((q.natAbs : Nat) : Int).tdiv (Nat.gcd p.natAbs q.natAbs : Nat) = (q.natAbs / Nat.gcd p.natAbs q.natAbs : Nat) := by simp
    unfold mkF at hm
    rw [if_neg h] at hm
    generalize Nat.gcd p.natAbs q.natAbs = d at *
    generalize p.natAbs / d = a at *
    generalize q.natAbs / d = b at *
    conv => whnf
    refine ⟨by omega, a, by rw [e1]; exact wu (by omega), ?_⟩
    conv => whnf
    refine c_Size04 _ hq _ _ ?_
    conv => whnf
    refine ⟨by omega, b, by rw [e2]; exact wu (by omega), ?_⟩
    conv => whnf
    refine ifC_dec (fun h3 => ?_) (fun h3 => ?_)
    · conv => whnf
      refine stC 0 rfl rfl (by first | (refine ⟨rfl, ?_⟩; repeat' (first | exact trivial | refine ⟨rfl, ?_⟩)) | simp [oneCells, Value.oneCell', setN]) ?_
      conv => whnf
      refine ⟨rfl, ?_⟩
      conv => whnf
      refine ldA 0 rfl rfl ?_
      conv => whnf
      exact fin (weakK 1 rfl) (hm ⟨0, 0⟩ 5 (if_pos (.inl (by omega))))
    · conv => whnf
      refine ifC_dec (fun h4 => ?_) (fun h4 => ?_)
      · conv => whnf
        refine stC 0 rfl rfl (by first | (refine ⟨rfl, ?_⟩; repeat' (first | exact trivial | refine ⟨rfl, ?_⟩)) | simp [oneCells, Value.oneCell', setN]) ?_
        conv => whnf
        refine ⟨rfl, ?_⟩
        conv => whnf
        refine ldA 0 rfl rfl ?_
        conv => whnf
        exact fin (weakK 1 rfl) (hm ⟨0, 0⟩ 5 (if_pos (.inr (by omega))))
      · rw [if_neg (by omega)] at hm
        conv => whnf
        refine ifC_dec (fun h5 => ?_) (fun h5 => ?_)
        · conv => whnf
          refine ifC_dec (fun h6 => ?_) (fun h6 => ?_)
          · conv => whnf
            repeat (refine ⟨_, wi (by omega), ?_⟩; conv => whnf)
            refine stC 0 rfl rfl (by first | (refine ⟨rfl, ?_⟩; repeat' (first | exact trivial | refine ⟨rfl, ?_⟩)) | simp [oneCells, Value.oneCell', setN]) ?_
            conv => whnf
            refine ⟨rfl, ?_⟩
            conv => whnf
            refine ldA 0 rfl rfl ?_
            conv => whnf
            exact fin (weakK 1 rfl) (hm ⟨0 - a, b⟩ 0 (by rw [if_pos (by omega)]; simp))
          · conv => whnf
            refine ifC_dec (fun h7 => ?_) (fun h7 => ?_)
            · conv => whnf
              refine ifC_dec (fun h8 => ?_) (fun h8 => ?_)
              · conv => whnf
                repeat (refine ⟨_, wi (by omega), ?_⟩; conv => whnf)
                refine stC 0 rfl rfl (by first | (refine ⟨rfl, ?_⟩; repeat' (first | exact trivial | refine ⟨rfl, ?_⟩)) | simp [oneCells, Value.oneCell', setN]) ?_
                conv => whnf
                refine ⟨rfl, ?_⟩
                conv => whnf
                refine ldA 0 rfl rfl ?_
                conv => whnf
                exact fin (weakK 1 rfl) (hm ⟨0 - a, b⟩ 0 (by rw [if_pos (by omega)]; simp))
              · conv => whnf
                repeat (refine ⟨_, wi (by omega), ?_⟩; conv => whnf)
                refine stC 0 rfl rfl (by first | (refine ⟨rfl, ?_⟩; repeat' (first | exact trivial | refine ⟨rfl, ?_⟩)) | simp [oneCells, Value.oneCell', setN]) ?_
                conv => whnf
                refine ⟨rfl, ?_⟩
                conv => whnf
                refine ldA 0 rfl rfl ?_
                conv => whnf
                exact fin (weakK 1 rfl) (hm ⟨a, b⟩ 0 (by rw [if_neg (by omega)]))
            · conv => whnf
              repeat (refine ⟨_, wi (by omega), ?_⟩; conv => whnf)
              refine stC 0 rfl rfl (by first | (refine ⟨rfl, ?_⟩; repeat' (first | exact trivial | refine ⟨rfl, ?_⟩)) | simp [oneCells, Value.oneCell', setN]) ?_
              conv => whnf
              refine ⟨rfl, ?_⟩
              conv => whnf
              refine ldA 0 rfl rfl ?_
              conv => whnf
              exact fin (weakK 1 rfl) (hm ⟨a, b⟩ 0 (by rw [if_neg (by omega)]))
        · conv => whnf
          refine ifC_dec (fun h7 => ?_) (fun h7 => ?_)
          · conv => whnf
            refine ifC_dec (fun h8 => ?_) (fun h8 => ?_)
            · conv => whnf
              repeat (refine ⟨_, wi (by omega), ?_⟩; conv => whnf)
              refine stC 0 rfl rfl (by first | (refine ⟨rfl, ?_⟩; repeat' (first | exact trivial | refine ⟨rfl, ?_⟩)) | simp [oneCells, Value.oneCell', setN]) ?_
              conv => whnf
              refine ⟨rfl, ?_⟩
              conv => whnf
              refine ldA 0 rfl rfl ?_
              conv => whnf
              exact fin (weakK 1 rfl) (hm ⟨0 - a, b⟩ 0 (by rw [if_pos (by omega)]; simp))
            · conv => whnf
              repeat (refine ⟨_, wi (by omega), ?_⟩; conv => whnf)
              refine stC 0 rfl rfl (by first | (refine ⟨rfl, ?_⟩; repeat' (first | exact trivial | refine ⟨rfl, ?_⟩)) | simp [oneCells, Value.oneCell', setN]) ?_
              conv => whnf
              refine ⟨rfl, ?_⟩
              conv => whnf
              refine ldA 0 rfl rfl ?_
              conv => whnf
              exact fin (weakK 1 rfl) (hm ⟨a, b⟩ 0 (by rw [if_neg (by omega)]))
          · conv => whnf
            repeat (refine ⟨_, wi (by omega), ?_⟩; conv => whnf)
            refine stC 0 rfl rfl (by first | (refine ⟨rfl, ?_⟩; repeat' (first | exact trivial | refine ⟨rfl, ?_⟩)) | simp [oneCells, Value.oneCell', setN]) ?_
            conv => whnf
            refine ⟨rfl, ?_⟩
            conv => whnf
            refine ldA 0 rfl rfl ?_
            conv => whnf
            exact fin (weakK 1 rfl) (hm ⟨a, b⟩ 0 (by rw [if_neg (by omega)]))
end Go.Proofs.Ytpblnfldhicfgaa.A
