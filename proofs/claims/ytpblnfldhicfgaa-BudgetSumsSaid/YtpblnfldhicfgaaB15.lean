/- budget.caught, entered as a deferred call; functions that defer it. -/
import Derived.Test.YtpblnfldhicfgaaB14
import Derived.Test.YtpblnfldhicfgaaA15
import Derived.Recover
import Derived.Tactics
import Derived.Tactics2
import Derived.Laws.Pointers
namespace Go.Proofs.Ytpblnfldhicfgaa.A
open Go Go.RowKit
set_option linter.unusedVariables false
set_option linter.unusedSimpArgs false
set_option maxRecDepth 20000

theorem awp_loopD {P : Program} {T : Tab} (hT : Tab.okFrom P 0 T) {Q : Post} {fr : List Value} {H : Hp} {c : Code} (ds : List Deferred) (N : Nat) (live : List Nat) (J : Nat → List Value → Hp → Prop) (n0 : Nat) {H1 : Hp} (hN : fr.length = N) (hlive : allLt N live = true) (hw : Weak H H1)
    (h0 : J n0 (getL fr live) H1)
    (round : ∀ n u vs H, J n vs H → codeF P T c (seqQ (fun fr' ds' H' => fr'.length = N ∧ ds' = ds ∧ ∃ m H2, m < n ∧ Weak H' H2 ∧ J m (getL fr' live) H2) Q) (setL (tabV 0 N u) live vs) ds H) : AWp P (.loop c) Q fr ds H := by
  refine awp_loop (fun n fr ds' H => fr.length = N ∧ ds' = ds ∧ J n (getL fr live) H) (n0 := n0) hw ⟨hN, rfl, h0⟩ ?_
  intro n fr ds' H ⟨hN, hds, hJ⟩
  subst hds
  have hfr : setL (tabV 0 N fun i => fr.getD i undef) live (getL fr live) = fr := by
    subst hN
    have h1 := tabV_getD fr 0
    simp only [Nat.sub_zero] at h1
    rw [h1]
    exact setL_getL fr live (allLt_mem hlive)
  have := round n (fun i => fr.getD i undef) (getL fr live) H hJ
  rw [hfr] at this
  refine AWp.mono (codeF_ok hT _ _ _ _ _ this) ?_
  intro e fr' ds' H' h
  cases e with
  | normal => obtain ⟨h1, h2, m, H2, h3, h4, h5⟩ := h; exact ⟨m, H2, h3, h4, h1, h2, h5⟩
  | _ => exact h

def errV (e : Int) : Value := .iface 33 (.int .i64 e)
theorem caught_idle (p : Value) {w0 w : World} {F : List Atom} {H : Hp} (hr : RepF w0 F H w) :
    CallsD Try.prog 47 #[p] .returning w fun e u' w' => (∃ v, e = .returned v) ∧ u' = .returning ∧ RepF w0 F H w' := by
  refine callsD_of_wpS Try.func47 rfl fun c₀ cs hu => ?_
  apply wpS_seq
  apply wpS_region
  simp [wpOpsS, go_sem, recoverD, hu, Try.ntmps47, Exit.thenS]
  refine wpS_of_wp ?_
  go_wp2
  cases c₀
  simp_all [bodyPostS, results, Try.f47]
set_option maxHeartbeats 1000000 in
theorem caught_err (g : Nat) (e x : Int) (w : World) (hc : w.cell? ⟨g, 0, none⟩ = some (.int .i64 x)) (hz : w.frozen? ⟨g, 0, none⟩ = false) :
    CallsD Try.prog 47 #[.pointer (some ⟨g, 0, none⟩)] (.panicking [{ v := errV e, recovered := false }]) w fun e' u' w' => (∃ v, e' = .returned v) ∧ u' = .panicking [{ v := errV e, recovered := true }] ∧
      w' = w.setCell ⟨g, 0, none⟩ (.int .i64 e) := by
  refine callsD_of_wpS Try.func47 rfl fun c₀ cs hu => ?_
  apply wpS_seq
  apply wpS_region
  simp [wpOpsS, go_sem, recoverD, hu, Try.ntmps47, Exit.thenS, errV]
  refine wpS_of_wp ?_
  have hta : ∀ w, (Instr.typeAssert (Value.iface 33 (Value.int IntKind.i64 e)) 20 33 true).run Try.prog w = .ok (.tuple #[.int .i64 e, .bool true]) w := fun w => by
    obtain ⟨v, h1, h2⟩ := typeAssertF_ok (P := Try.prog) (T := TT) (w := w) hT (x := .iface 33 (.int .i64 e)) (xt := 20) (a := 33) (ok := true) (K' := fun v => v = .tuple #[.int .i64 e, .bool true]) (by
      conv => whnf)
    exact h2 ▸ h1
  go_wp2
  simp [bodyPostS, results, Try.f47]
end Go.Proofs.Ytpblnfldhicfgaa.A
