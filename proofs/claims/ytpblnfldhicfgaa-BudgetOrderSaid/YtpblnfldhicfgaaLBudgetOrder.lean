/- The law's call: BudgetOrder. -/
import Derived.Test.YtpblnfldhicfgaaB23
import Derived.Test.YtpblnfldhicfgaaC11
namespace Go.Proofs.Ytpblnfldhicfgaa.A
open Go Go.RowKit
theorem law_BudgetOrder {l s m n : List Int} {W : World} {v1 v2 v3 v4 : Value} {c d : Int} (h1 : IntsAt ⟨fun g => W.heap[g]?, []⟩ v1 l) (h2 : IntsAt ⟨fun g => W.heap[g]?, []⟩ v2 s) (h3 : IntsAt ⟨fun g => W.heap[g]?, []⟩ v3 m) (h4 : IntsAt ⟨fun g => W.heap[g]?, []⟩ v4 n) (hc : I64 c) (hd : I64 d) :
    Calls Try.prog 7 #[v1, v2, v3, v4, .int .i64 c, .int .i64 d] W fun e W' => e = .returned (.bool true) ∧ Below W.heap.size W W' :=
  calls_of_acalls (R := fun e => e = .returned (.bool true)) (c_BudgetOrder v1 v2 v3 v4 l s m n c d _ h1 h2 h3 h4 hc hd _ fun _ => rfl)
end Go.Proofs.Ytpblnfldhicfgaa.A
