/- The law's call: ConsentTables. -/
import Derived.Test.YtjgljgkfflojbaaKR
import Derived.Test.YtjgljgkfflojbaaE7
namespace Go.Proofs.Ytjgljgkfflojbaa.A
open Go Go.RowKit
theorem law_ConsentTables {l : List Int} {a : Int} {W : World} {v : Value} (h0 : IntsAt ⟨fun g => W.heap[g]?, []⟩ v l) (h1 : I64 a) :
    Calls Try.prog 7 #[v, .int .i64 a] W fun e W' => e = .returned (.bool true) ∧ Below W.heap.size W W' :=
  calls_of_acalls (R := fun e => e = .returned (.bool true)) (c_ConsentTables v l a _ h0 h1 _ fun _ => rfl)
end Go.Proofs.Ytjgljgkfflojbaa.A
