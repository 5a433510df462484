/- The law's call: ConsentAnew. -/
import Derived.Test.YtjgljgkfflojbaaKR
import Derived.Test.YtjgljgkfflojbaaD21
namespace Go.Proofs.Ytjgljgkfflojbaa.A
open Go Go.RowKit
theorem law_ConsentAnew {l : List Int} {W : World} {v : Value} (h0 : IntsAt ⟨fun g => W.heap[g]?, []⟩ v l) :
    Calls Try.prog 5 #[v] W fun e W' => e = .returned (.bool true) ∧ Below W.heap.size W W' :=
  calls_of_acalls (R := fun e => e = .returned (.bool true)) (c_ConsentAnew v l _ h0 _ fun _ => rfl)
end Go.Proofs.Ytjgljgkfflojbaa.A
