/- The law's call: BudgetRefused. -/
import Derived.Test.YtpblnfldhicfgaaB23
import Derived.Test.YtpblnfldhicfgaaC9
namespace Go.Proofs.Ytpblnfldhicfgaa.A
open Go Go.RowKit
theorem law_BudgetRefused {l s m : List Int} {W : World} {v1 v2 v3 : Value} {p : Int} (h1 : IntsAt ⟨fun g => W.heap[g]?, []⟩ v1 l) (h2 : IntsAt ⟨fun g => W.heap[g]?, []⟩ v2 s) (h3 : IntsAt ⟨fun g => W.heap[g]?, []⟩ v3 m) (hp : I64 p) :
    Calls Try.prog 8 #[v1, v2, v3, .int .i64 p] W fun e W' => e = .returned (.bool true) ∧ Below W.heap.size W W' :=
  calls_of_acalls (R := fun e => e = .returned (.bool true)) (c_BudgetRefused v1 v2 v3 l s m p _ h1 h2 hp _ fun _ => rfl)
end Go.Proofs.Ytpblnfldhicfgaa.A
