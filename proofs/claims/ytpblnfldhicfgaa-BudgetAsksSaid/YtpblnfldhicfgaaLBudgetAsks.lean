/- The law's call: BudgetAsks. -/
import Derived.Test.YtpblnfldhicfgaaB23
import Derived.Test.YtpblnfldhicfgaaC3
namespace Go.Proofs.Ytpblnfldhicfgaa.A
open Go Go.RowKit
theorem law_BudgetAsks {l s p : List Int} {W : World} {v1 v2 v3 : Value} {x y : Int} (h1 : IntsAt ⟨fun g => W.heap[g]?, []⟩ v1 l) (h2 : IntsAt ⟨fun g => W.heap[g]?, []⟩ v2 s) (h3 : IntsAt ⟨fun g => W.heap[g]?, []⟩ v3 p) (hx : I64 x) (hy : I64 y) :
    Calls Try.prog 4 #[v1, v2, v3, .agg #[.int .i64 x, .int .i64 y]] W fun e W' => e = .returned (.bool true) ∧ Below W.heap.size W W' :=
  calls_of_acalls (R := fun e => e = .returned (.bool true)) (c_BudgetAsks v1 v2 v3 l s p ⟨x, y⟩ _ h1 h2 h3 ⟨hx, hy⟩ _ fun _ => rfl)
end Go.Proofs.Ytpblnfldhicfgaa.A
