/- dioramalaw26: base, lives. -/
import Derived.Test.YtjgljgkfflojbaaD8
namespace Go.Proofs.Ytjgljgkfflojbaa.A
open Go Go.RowKit
set_option linter.unusedVariables false
set_option linter.unusedSimpArgs false
set_option maxRecDepth 20000

theorem Bo.reads {g : Nat} {S : St} {M : Nat → Option Obj} {L0 : List Atom} {H : Hp} (h : Bo g S M L0 H) : ∃ L, Weak H ⟨M, L⟩ ∧ (∀ a ∈ L0, a ∈ L) ∧ Bo g S M L0 ⟨M, L⟩ := by
  obtain ⟨tv, r, ts, N, h1, h2, h3, h4⟩ := h
  exact ⟨_, h4, fun a ha => List.mem_append_right _ (List.mem_append_right _ ha), ⟨tv, r, ts, N, h1, h2, h3, Weak.refl _⟩⟩
def baseB (S : St) (i : Int) (want : List Int) (u : Bool) : Bool := decide (0 ≤ i ∧ i < S.ts.length ∧ (S.th i).u = u ∧ (S.th i).b = want)
theorem p_base {g : Nat} {S : St} {M : Nat → Option Obj} {L0 : List Atom} {H : Hp} {R : Ending → Hp → Prop} (hb : Bo g S M L0 H) (hok : okS S) {i : Int} {v : Value} {want : List Int} {u : Bool} (hv : IntsAt ⟨M, L0⟩ v want)
    (hR : ∀ H', Bo g S M L0 H' → R (.returned (.bool (baseB S i want u))) H') : ACalls Try.prog 21 [ptr g, .int .i64 i, v, .bool u] H R := by
  refine acalls_code hT Try.func21 rfl rfl ?_
  conv => whnf
  refine p_Depends hb hok (fun hi H' hB => ?_) (fun hi H' v' hv' hB => ?_)
  · conv => whnf
    refine ⟨rfl, ?_⟩
    conv => whnf
    have e : baseB S i want u = false := decide_eq_false (fun h => hi ⟨h.1, h.2.1⟩)
    have := hR H' hB
    rw [e] at this
    exact fin (Weak.refl _) this
  · have hbb := hok.bb hi.1 hi.2
    have hinc := (hok.th _ _ (St.th_some hi.1 hi.2)).b
    have hlen : (S.th i).b.length ≤ 65536 := inc_len hinc hbb
    obtain ⟨L, hw, hsub, hB2⟩ := hB.reads
    conv => whnf
    by_cases hu : ((S.th i).u == u) = true
    · rw [hu]
      conv => whnf
      refine ACalls.weak hw (c_SameInts v' v (S.th i).b want _ ⟨readsRow (e := 3) (hsub _ List.mem_cons_self) hv', fun x hx => by have := hbb x hx; omega, by omega⟩ (hv.mono (hle_sub fun a ha => hsub a (List.mem_cons_of_mem _ ha))) _ ?_)
      conv => whnf
      refine ⟨rfl, ?_⟩
      conv => whnf
      have hR := hR _ (Bo.take (A := [_]) hB2)
      have e : baseB S i want u = decide ((S.th i).b = want) := by
        unfold baseB
        have hu' : (S.th i).u = u := by simpa using hu
        by_cases h : (S.th i).b = want <;> simp [h, hi, hu']
      rw [e] at hR
      exact fin (Weak.refl _) hR
    · have hu2 : ((S.th i).u == u) = false := by simpa using hu
      rw [hu2]
      conv => whnf
      refine ⟨rfl, ?_⟩
      conv => whnf
      exact fin (Weak.refl _) (by rw [show baseB S i want u = false from decide_eq_false (fun h => hu (by rw [h.2.2.1]; cases u <;> rfl))] at hR; exact hR H' (Bo.take (A := [_]) hB))
end Go.Proofs.Ytjgljgkfflojbaa.A
