/- The law's call: ConsentRuns. -/
import Derived.Test.YtjgljgkfflojbaaKR
import Derived.Test.YtjgljgkfflojbaaE6
namespace Go.Proofs.Ytjgljgkfflojbaa.A
open Go Go.RowKit
theorem law_ConsentRuns {l : List Int} {a b c : Int} {W : World} {v : Value} (h0 : IntsAt ⟨fun g => W.heap[g]?, []⟩ v l) (h1 : I64 a) (h2 : I64 b) (h3 : I64 c) :
    Calls Try.prog 6 #[v, .int .i64 a, .int .i64 b, .int .i64 c] W fun e W' => e = .returned (.bool true) ∧ Below W.heap.size W W' :=
  calls_of_acalls (R := fun e => e = .returned (.bool true)) (c_ConsentRuns v l a b c _ h0 h1 h2 h3 _ fun _ => rfl)
end Go.Proofs.Ytjgljgkfflojbaa.A
