/- The law's call: BudgetSums. -/
import Derived.Test.YtpblnfldhicfgaaB23
import Derived.Test.YtpblnfldhicfgaaC12
namespace Go.Proofs.Ytpblnfldhicfgaa.A
open Go Go.RowKit
theorem law_BudgetSums {l s : List Int} {W : World} {v1 v2 : Value} (h1 : IntsAt ⟨fun g => W.heap[g]?, []⟩ v1 l) (h2 : IntsAt ⟨fun g => W.heap[g]?, []⟩ v2 s) :
    Calls Try.prog 6 #[v1, v2] W fun e W' => e = .returned (.bool true) ∧ Below W.heap.size W W' :=
  calls_of_acalls (R := fun e => e = .returned (.bool true)) (c_BudgetSums v1 v2 l s _ h1 h2 _ fun _ => rfl)
end Go.Proofs.Ytpblnfldhicfgaa.A
