/- package ratio. -/
import Derived.Test.YtpblnfldhicfgaaB4
namespace Go.Proofs.Ytpblnfldhicfgaa.A
open Go Go.RowKit
set_option linter.unusedVariables false
set_option linter.unusedSimpArgs false
set_option maxRecDepth 4000

theorem c_size (n : Int) (hn : I64 n) (H : Hp) (R : Ending → Hp → Prop) (hR : R (.returned (.int .u64 (n.natAbs : Nat))) H) : ACalls Try.prog 64 [.int .i64 n] H R := by
  refine acalls_code hT Try.func64 rfl rfl ?_
  conv => whnf
  refine ifC_dec (fun h => ?_) (fun h => ?_)
  · conv => whnf
    refine ⟨_, rfl, ?_⟩
    conv => whnf
    refine ⟨(n.natAbs : Nat), ?_, ?_⟩
    · simp only [IntKind.wrap, IntKind.bits, IntKind.signed]
      simp
      omega
    conv => whnf
    refine ⟨rfl, ?_⟩
    conv => whnf
    refine fin (Weak.refl _) ?_
    exact hR
  · conv => whnf
    refine ⟨_, wu (by omega), ?_⟩
    conv => whnf
    refine ⟨rfl, ?_⟩
    conv => whnf
    refine fin (Weak.refl _) ?_
    rw [show n = (n.natAbs : Nat) by omega]
    exact hR

abbrev gcdF (g : Nat) : Value := Value.func (.func 70) #[] #[.pointer (some ⟨g, 0, none⟩)]
theorem c_gcd1 (g : Nat) (H : Hp) (hc : H.cell g 0 (gcdF g)) : ∀ (b a : Nat) (ha : U64 a) (hb : U64 b) (R : Ending → Hp → Prop) (hR : R (.returned (.int .u64 (Nat.gcd a b : Nat))) H),
    ACalls Try.prog 70 [.int .u64 a, .int .u64 b, .pointer (some ⟨g, 0, none⟩)] H R := by
  intro b
  induction b using Nat.strongRecOn with
  | _ b ih =>
    intro a ha hb R hR
    refine acalls_code hT Try.func70 rfl rfl ?_
    conv => whnf
    refine ifC_dec (fun h => ?_) (fun h => ?_)
    · conv => whnf
      refine ⟨rfl, ?_⟩
      conv => whnf
      refine fin (Weak.refl _) ?_
      have : b = 0 := by omega
      subst this
      rw [Nat.gcd_zero_right] at hR
      exact hR
    · conv => whnf
      refine awp_drawQ hT hM 6 (by kernel_rfl) ?_
      conv => whnf
      refine ⟨_, hc, ?_⟩
      conv => whnf
      refine ⟨h, ((a % b : Nat) : Int), by simp [Int.tmod_eq_emod_of_nonneg], ?_⟩
      conv => whnf
      have hm := Nat.mod_le a b
      refine ih (a % b) (Nat.mod_lt _ (by omega)) b hb (by omega) _ ?_
      refine ⟨Weak.refl _, ?_⟩
      conv => whnf
      refine ⟨rfl, ?_⟩
      conv => whnf
      refine fin (Weak.refl _) ?_
      rw [← show Nat.gcd a b = Nat.gcd b (a % b) by rw [Nat.gcd_comm a b, Nat.gcd_rec b a, Nat.gcd_comm]]
      exact hR

theorem c_gcd (a b : Nat) (ha : U64 a) (hb : U64 b) (H : Hp) (R : Ending → Hp → Prop) (hR : R (.returned (.int .u64 (Nat.gcd a b : Nat))) H) :
    ACalls Try.prog 63 [.int .u64 a, .int .u64 b] H R := by
  refine acalls_code hT Try.func63 rfl rfl ?_
  conv => whnf
  intro g
  conv => whnf
  refine stC 0 rfl rfl (by first | (refine ⟨rfl, ?_⟩; repeat' (first | exact trivial | refine ⟨rfl, ?_⟩)) | simp [oneCells, Value.oneCell', setN]) ?_
  conv => whnf
  refine ldS 0 rfl rfl ?_
  conv => whnf
  refine c_gcd1 g _ ?_ b a ha hb _ ?_
  · exact .inr ⟨_, List.mem_cons_self, rfl, rfl⟩
  conv => whnf
  refine ⟨rfl, ?_⟩
  conv => whnf
  exact fin (weakK 1 rfl) hR

theorem c_Make (p q : Int) (hp : I64 p) (hq : I64 q) (H : Hp) (R : Ending → Hp → Prop) (hR : R (.returned (.tuple #[(mkF p q).1.v, .int .i64 (mkF p q).2])) H) :
    ACalls Try.prog 51 [.int .i64 p, .int .i64 q] H R := by
  have hm : ∀ a b, mkF p q = (a, b) → R (.returned (.tuple #[a.v, .int .i64 b])) H := fun a b e => by rw [e] at hR; exact hR
  refine acalls_code hT Try.func51 rfl rfl ?_
  conv => whnf
  intro g
  conv => whnf
  refine ifC_dec (fun h => ?_) (fun h => ?_)
  · conv => whnf
    refine stC 0 rfl rfl (by first | (refine ⟨rfl, ?_⟩; repeat' (first | exact trivial | refine ⟨rfl, ?_⟩)) | simp [oneCells, Value.oneCell', setN]) ?_
    conv => whnf
    refine ⟨rfl, ?_⟩
    conv => whnf
    refine ldA 0 rfl rfl ?_
    conv => whnf
    exact fin (weakK 1 rfl) (hm ⟨0, 0⟩ 1 (by simp [mkF, h]))
  · conv => whnf
    refine c_size _ hp _ _ ?_
    conv => whnf
    refine c_size _ hq _ _ ?_
    conv => whnf
    refine c_gcd _ _ (natAbs_u hp) (natAbs_u hq) _ _ ?_
    have hg : 0 < Nat.gcd p.natAbs q.natAbs := Nat.gcd_pos_of_pos_right _ (by omega)
    have h1 := div_le_self' p.natAbs (Nat.gcd p.natAbs q.natAbs)
    have h2 := div_le_self' q.natAbs (Nat.gcd p.natAbs q.natAbs)
    have e1 : ((p.natAbs : Nat) : Int).tdiv (Nat.gcd p.natAbs q.natAbs : Nat) = (p.natAbs / Nat.gcd p.natAbs q.natAbs : Nat) := by simp
    have e2 : ((q.natAbs : Nat) : Int).tdiv (Nat.gcd p.natAbs q.natAbs : Nat) = (q.natAbs / Nat.gcd p.natAbs q.natAbs : Nat) := by simp
    have e3 : p.natAbs / Nat.gcd p.natAbs q.natAbs = 0 → p = 0 := fun e => by
      have := Nat.div_mul_cancel (Nat.gcd_dvd_left p.natAbs q.natAbs)
      rw [e] at this; omega
    unfold mkF at hm
    rw [if_neg h] at hm
    generalize Nat.gcd p.natAbs q.natAbs = d at *
    generalize p.natAbs / d = a at *
    generalize q.natAbs / d = b at *
    conv => whnf
    refine awp_drawQ hT hM 7 (by kernel_rfl) ?_
    conv => whnf
    refine ⟨by omega, a, by rw [e1]; exact wu (by omega), ?_⟩
    conv => whnf
    refine ⟨by omega, b, by rw [e2]; exact wu (by omega), ?_⟩
    conv => whnf
    refine ifC_dec (fun h3 => ?_) (fun h3 => ?_)
    · conv => whnf
      refine stC 0 rfl rfl (by first | (refine ⟨rfl, ?_⟩; repeat' (first | exact trivial | refine ⟨rfl, ?_⟩)) | simp [oneCells, Value.oneCell', setN]) ?_
      conv => whnf
      refine ⟨rfl, ?_⟩
      conv => whnf
      refine ldA 0 rfl rfl ?_
      conv => whnf
      exact fin (weakK 1 rfl) (hm ⟨0, 0⟩ 5 (if_pos (.inl (by omega))))
    · conv => whnf
      refine ifC_dec (fun h4 => ?_) (fun h4 => ?_)
      · conv => whnf
        refine stC 0 rfl rfl (by first | (refine ⟨rfl, ?_⟩; repeat' (first | exact trivial | refine ⟨rfl, ?_⟩)) | simp [oneCells, Value.oneCell', setN]) ?_
        conv => whnf
        refine ⟨rfl, ?_⟩
        conv => whnf
        refine ldA 0 rfl rfl ?_
        conv => whnf
        exact fin (weakK 1 rfl) (hm ⟨0, 0⟩ 5 (if_pos (.inr (by omega))))
      · rw [if_neg (by omega)] at hm
        conv => whnf
        repeat (refine ⟨_, wi (by omega), ?_⟩; conv => whnf)
        intro r
        conv => whnf
        refine stC 0 rfl rfl (by first | (refine ⟨rfl, ?_⟩; repeat' (first | exact trivial | refine ⟨rfl, ?_⟩)) | simp [oneCells, Value.oneCell', setN]) ?_
        conv => whnf
        refine ifC_cases (fun h5 => ?_) (fun h5 => ?_)
        · simp at h5
          conv => whnf
          refine ldS 0 rfl rfl ?_
          conv => whnf
          refine ⟨_, wi (by omega), ?_⟩
          conv => whnf
          refine stC 0 rfl rfl (by first | (refine ⟨rfl, ?_⟩; repeat' (first | exact trivial | refine ⟨rfl, ?_⟩)) | simp [oneCells, Value.oneCell', setN]) ?_
          conv => whnf
          refine ldA 0 rfl rfl ?_
          conv => whnf
          refine stC 1 rfl rfl (by first | (refine ⟨rfl, ?_⟩; repeat' (first | exact trivial | refine ⟨rfl, ?_⟩)) | simp [oneCells, Value.oneCell', setN]) ?_
          conv => whnf
          refine ⟨rfl, ?_⟩
          conv => whnf
          refine ldA 1 rfl rfl ?_
          conv => whnf
          exact fin (weakK 2 rfl) (hm ⟨0 - a, b⟩ 0 (by
            congr 2
            split <;> omega))
        · simp at h5
          conv => whnf
          refine ldA 0 rfl rfl ?_
          conv => whnf
          refine stC 1 rfl rfl (by first | (refine ⟨rfl, ?_⟩; repeat' (first | exact trivial | refine ⟨rfl, ?_⟩)) | simp [oneCells, Value.oneCell', setN]) ?_
          conv => whnf
          refine ⟨rfl, ?_⟩
          conv => whnf
          refine ldA 1 rfl rfl ?_
          conv => whnf
          exact fin (weakK 2 rfl) (hm ⟨a, b⟩ 0 (by
            congr 2
            split <;> omega))

theorem c_Valid (a : Fr) (ha : a.I) (H : Hp) (R : Ending → Hp → Prop) (hR : R (.returned (.bool (decide (okF a)))) H) : ACalls Try.prog 54 [a.v] H R := by
  have hp := ha.p; have hq := ha.q
  refine acalls_code hT Try.func54 rfl rfl ?_
  conv => whnf
  intro g
  conv => whnf
  refine ldA 0 rfl rfl ?_
  conv => whnf
  refine ifC_cases (fun h1 => ?_) (fun h1 => ?_)
  · simp at h1
    conv => whnf
    refine ⟨rfl, ?_⟩
    conv => whnf
    exact fin (weakK 1 rfl) (okV hR (by simp [okF]; omega))
  · simp at h1
    conv => whnf
    refine awp_drawQ hT hM 28 (by kernel_rfl) ?_
    conv => whnf
    refine ldS 0 rfl rfl ?_
    conv => whnf
    refine ifC_dec (fun h2 => ?_) (fun h2 => ?_)
    · conv => whnf
      refine ldS 0 rfl rfl ?_
      conv => whnf
      refine ifC_dec (fun h3 => ?_) (fun h3 => ?_)
      · conv => whnf
        refine ldS 0 rfl rfl ?_
        conv => whnf
        refine ifC_dec (fun h4 => ?_) (fun h4 => ?_)
        · conv => whnf
          refine ldS 0 rfl rfl ?_
          conv => whnf
          refine ifC_dec (fun h5 => ?_) (fun h5 => ?_)
          · conv => whnf
            refine ldS 0 rfl rfl ?_
            conv => whnf
            refine c_size _ hp _ _ ⟨Weak.refl _, ?_⟩
            conv => whnf
            refine ldS 0 rfl rfl ?_
            conv => whnf
            refine c_size _ hq _ _ ⟨Weak.refl _, ?_⟩
            conv => whnf
            refine c_gcd _ _ (natAbs_u hp) (natAbs_u hq) _ _ ⟨Weak.refl _, ?_⟩
            conv => whnf
            refine ⟨rfl, ?_⟩
            conv => whnf
            exact fin (weakK 1 rfl) (okV hR (by simp only [decide_eq_true_eq, okF, natOne]; omega))
          · conv => whnf
            refine ⟨rfl, ?_⟩
            conv => whnf
            exact fin (weakK 1 rfl) (okV hR (by simp [okF]; omega))
        · conv => whnf
          refine ⟨rfl, ?_⟩
          conv => whnf
          exact fin (weakK 1 rfl) (okV hR (by simp [okF]; omega))
      · conv => whnf
        refine ⟨rfl, ?_⟩
        conv => whnf
        exact fin (weakK 1 rfl) (okV hR (by simp [okF]; omega))
    · conv => whnf
      refine ⟨rfl, ?_⟩
      conv => whnf
      exact fin (weakK 1 rfl) (okV hR (by simp [okF]; omega))

theorem c_VT {a : Fr} (h : okF a) (H : Hp) (R : Ending → Hp → Prop) (hR : R (.returned (.bool true)) H) : ACalls Try.prog 54 [a.v] H R :=
  c_Valid a h.I H R (by rw [decide_eq_true h]; exact hR)
theorem c_VN {a : Fr} (ha : a.I) (h : ¬ okF a) (H : Hp) (R : Ending → Hp → Prop) (hR : R (.returned (.bool false)) H) : ACalls Try.prog 54 [a.v] H R :=
  c_Valid a ha H R (by rw [decide_eq_false h]; exact hR)

abbrev frA (g : Nat) (a : Fr) : Atom := .cells g 24 [.int .i64 a.P, .int .i64 a.Q]
def prF (a : Fr) : Fr := ⟨a.P, if a.Q = 0 then 1 else a.Q⟩
theorem prF_ok {a : Fr} (h : okF a) : (prF a).P = a.P ∧ (prF a).Q = den a := by
  refine ⟨rfl, ?_⟩
  simp only [prF, den]
  have := h.bd
  split <;> split <;> omega
theorem c_proper (a : Fr) (H : Hp) (R : Ending → Hp → Prop) (hR : R (.returned (prF a).v) H) : ACalls Try.prog 62 [a.v] H R := by
  refine acalls_code hT Try.func62 rfl rfl ?_
  conv => whnf
  intro g
  conv => whnf
  intro r
  conv => whnf
  refine ldS 1 rfl rfl ?_
  conv => whnf
  refine ifC_dec (fun h => ?_) (fun h => ?_)
  · conv => whnf
    refine stC 1 rfl rfl (by first | (refine ⟨rfl, ?_⟩; repeat' (first | exact trivial | refine ⟨rfl, ?_⟩)) | simp [oneCells, Value.oneCell', setN]) ?_
    conv => whnf
    refine ldA 1 rfl rfl ?_
    conv => whnf
    refine stC 0 rfl rfl (by first | (refine ⟨rfl, ?_⟩; repeat' (first | exact trivial | refine ⟨rfl, ?_⟩)) | simp [oneCells, Value.oneCell', setN]) ?_
    conv => whnf
    refine ⟨rfl, ?_⟩
    conv => whnf
    refine ldA 0 rfl rfl ?_
    conv => whnf
    simp only [prF, if_pos h] at hR
    exact fin (weakK 2 rfl) hR
  · conv => whnf
    refine ldA 1 rfl rfl ?_
    conv => whnf
    refine stC 0 rfl rfl (by first | (refine ⟨rfl, ?_⟩; repeat' (first | exact trivial | refine ⟨rfl, ?_⟩)) | simp [oneCells, Value.oneCell', setN]) ?_
    conv => whnf
    refine ⟨rfl, ?_⟩
    conv => whnf
    refine ldA 0 rfl rfl ?_
    conv => whnf
    simp only [prF, if_neg h] at hR
    exact fin (weakK 2 rfl) hR

theorem c_both (a b : Fr) (ha : a.I) (hb : b.I) (H : Hp) (R : Ending → Hp → Prop) (hR : R (.returned (.tuple #[(prF a).v, (prF b).v, .bool (decide (okF a ∧ okF b))])) H) : ACalls Try.prog 43 [a.v, b.v] H R := by
  refine acalls_code hT Try.func43 rfl rfl ?_
  conv => whnf
  intro g
  conv => whnf
  intro g'
  conv => whnf
  intro r
  conv => whnf
  intro r'
  conv => whnf
  refine awp_draw hT hM 12 (List.range 12) (by kernel_rfl) H.M (frA g' b :: frA g a :: H.L) [frA r' ⟨0, 0⟩, frA r ⟨0, 0⟩] (Weak.perm (List.perm_append_comm (l₁ := [frA r' ⟨0, 0⟩, frA r ⟨0, 0⟩]))) ?_
  conv => whnf
  refine ldA 1 rfl rfl ?_
  conv => whnf
  refine c_proper _ _ _ ?_
  refine ⟨_, _, Weak.refl _, fun _ _ h => h, ?_⟩
  conv => whnf
  refine ldA 0 rfl rfl ?_
  conv => whnf
  refine c_proper _ _ _ ?_
  refine ⟨_, _, Weak.refl _, fun _ _ h => h, ?_⟩
  conv => whnf
  refine ldA 1 rfl rfl ?_
  conv => whnf
  by_cases h1 : okF a
  · refine c_VT h1 _ _ ?_
    refine ⟨_, _, Weak.refl _, fun _ _ h => h, ?_⟩
    conv => whnf
    refine ldA 0 rfl rfl ?_
    conv => whnf
    by_cases h2 : okF b
    · refine c_VT h2 _ _ ?_
      refine ⟨_, _, Weak.refl _, fun _ _ h => h, ?_⟩
      conv => whnf
      conv => whnf
      refine stR 1 rfl rfl (by first | (refine ⟨rfl, ?_⟩; repeat' (first | exact trivial | refine ⟨rfl, ?_⟩)) | simp [oneCells, Value.oneCell', setN]) ?_
      conv => whnf
      refine ⟨_, _, Weak.refl _, fun _ _ h => h, ?_⟩
      conv => whnf
      refine stR 0 rfl rfl (by first | (refine ⟨rfl, ?_⟩; repeat' (first | exact trivial | refine ⟨rfl, ?_⟩)) | simp [oneCells, Value.oneCell', setN]) ?_
      conv => whnf
      refine ⟨_, _, Weak.refl _, fun _ _ h => h, ?_⟩
      conv => whnf
      refine ⟨⟨H.M, frA r' (prF b) :: frA r (prF a) :: frA g' b :: frA g a :: H.L⟩, Weak.perm (List.perm_append_comm (l₂ := [frA r' (prF b), frA r (prF a)])), ?_⟩
      conv => whnf
      refine ⟨rfl, ?_⟩
      conv => whnf
      refine ldA 1 rfl rfl ?_
      conv => whnf
      refine ldA 0 rfl rfl ?_
      conv => whnf
      simp [h1, h2] at hR
      exact fin (weakK 4 rfl) hR
    · refine c_VN hb h2 _ _ ?_
      refine ⟨_, _, Weak.refl _, fun _ _ h => h, ?_⟩
      conv => whnf
      conv => whnf
      refine stR 1 rfl rfl (by first | (refine ⟨rfl, ?_⟩; repeat' (first | exact trivial | refine ⟨rfl, ?_⟩)) | simp [oneCells, Value.oneCell', setN]) ?_
      conv => whnf
      refine ⟨_, _, Weak.refl _, fun _ _ h => h, ?_⟩
      conv => whnf
      refine stR 0 rfl rfl (by first | (refine ⟨rfl, ?_⟩; repeat' (first | exact trivial | refine ⟨rfl, ?_⟩)) | simp [oneCells, Value.oneCell', setN]) ?_
      conv => whnf
      refine ⟨_, _, Weak.refl _, fun _ _ h => h, ?_⟩
      conv => whnf
      refine ⟨⟨H.M, frA r' (prF b) :: frA r (prF a) :: frA g' b :: frA g a :: H.L⟩, Weak.perm (List.perm_append_comm (l₂ := [frA r' (prF b), frA r (prF a)])), ?_⟩
      conv => whnf
      refine ⟨rfl, ?_⟩
      conv => whnf
      refine ldA 1 rfl rfl ?_
      conv => whnf
      refine ldA 0 rfl rfl ?_
      conv => whnf
      simp [h1, h2] at hR
      exact fin (weakK 4 rfl) hR
  · refine c_VN ha h1 _ _ ?_
    refine ⟨_, _, Weak.refl _, fun _ _ h => h, ?_⟩
    conv => whnf
    have h2 := h1
    conv => whnf
    refine stR 1 rfl rfl (by first | (refine ⟨rfl, ?_⟩; repeat' (first | exact trivial | refine ⟨rfl, ?_⟩)) | simp [oneCells, Value.oneCell', setN]) ?_
    conv => whnf
    refine ⟨_, _, Weak.refl _, fun _ _ h => h, ?_⟩
    conv => whnf
    refine stR 0 rfl rfl (by first | (refine ⟨rfl, ?_⟩; repeat' (first | exact trivial | refine ⟨rfl, ?_⟩)) | simp [oneCells, Value.oneCell', setN]) ?_
    conv => whnf
    refine ⟨_, _, Weak.refl _, fun _ _ h => h, ?_⟩
    conv => whnf
    refine ⟨⟨H.M, frA r' (prF b) :: frA r (prF a) :: frA g' b :: frA g a :: H.L⟩, Weak.perm (List.perm_append_comm (l₂ := [frA r' (prF b), frA r (prF a)])), ?_⟩
    conv => whnf
    refine ⟨rfl, ?_⟩
    conv => whnf
    refine ldA 1 rfl rfl ?_
    conv => whnf
    refine ldA 0 rfl rfl ?_
    conv => whnf
    simp [h1, h2] at hR
    exact fin (weakK 4 rfl) hR
end Go.Proofs.Ytpblnfldhicfgaa.A
