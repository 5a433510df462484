/- The law's call: ReleaseNeighbours. -/
import Derived.Test.YtohdcmkooedkcaaKR
import Derived.Test.YtohdcmkooedkcaaT16
namespace Go.Proofs.Ytohdcmkooedkcaa.A
open Go Go.RowKit
theorem law_ReleaseNeighbours {l m : List Int} {a b c : Int} {W : World} {v w : Value} (h0 : IntsAt ⟨fun g => W.heap[g]?, []⟩ v l) (h1 : I64 a) (h2 : I64 b) (h3 : I64 c) (h4 : IntsAt ⟨fun g => W.heap[g]?, []⟩ w m) :
    Calls Try.prog 5 #[v, .int .i64 a, .int .i64 b, .int .i64 c, w] W fun e W' => e = .returned (.bool true) ∧ Below W.heap.size W W' :=
  calls_of_acalls (R := fun e => e = .returned (.bool true)) (c_ReleaseNeighbours v w l m a b c _ h0 h4 h1 h2 h3 _ fun _ => rfl)
end Go.Proofs.Ytohdcmkooedkcaa.A
