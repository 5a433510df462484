/- The law's call: ConsentLimits. -/
import Derived.Test.YtjgljgkfflojbaaKR
import Derived.Test.YtjgljgkfflojbaaD11
namespace Go.Proofs.Ytjgljgkfflojbaa.A
open Go Go.RowKit
theorem law_ConsentLimits {l : List Int} {W : World} {v : Value} {n : Int} (hn : I64 n) (h1 : IntsAt ⟨fun g => W.heap[g]?, []⟩ v l) :
    Calls Try.prog 3 #[.int .i64 n, v] W fun e W' => e = .returned (.bool true) ∧ Below W.heap.size W W' :=
  calls_of_acalls (R := fun e => e = .returned (.bool true)) (c_ConsentLimits n v l _ hn h1 _ fun _ => rfl)
end Go.Proofs.Ytjgljgkfflojbaa.A
