/- The law's call: ReleaseWeights. -/
import Derived.Test.YtohdcmkooedkcaaKR
import Derived.Test.YtohdcmkooedkcaaT14
namespace Go.Proofs.Ytohdcmkooedkcaa.A
open Go Go.RowKit
theorem law_ReleaseWeights {l m : List Int} {a b c d f : Int} {W : World} {v w : Value} (h0 : IntsAt ⟨fun g => W.heap[g]?, []⟩ v l) (h1 : I64 a) (h2 : I64 b) (h3 : I64 c) (h4 : I64 d) (h5 : I64 f) (h6 : IntsAt ⟨fun g => W.heap[g]?, []⟩ w m) :
    Calls Try.prog 4 #[v, .int .i64 a, .int .i64 b, .int .i64 c, .int .i64 d, .int .i64 f, w] W fun e W' => e = .returned (.bool true) ∧ Below W.heap.size W W' :=
  calls_of_acalls (R := fun e => e = .returned (.bool true)) (c_ReleaseWeights v w l m a b c d f _ h0 h6 h1 h2 h3 h4 h5 _ fun _ => rfl)
end Go.Proofs.Ytohdcmkooedkcaa.A
