/- The law's call: ReleaseTables. -/
import Derived.Test.YtohdcmkooedkcaaKR
import Derived.Test.YtohdcmkooedkcaaT13
namespace Go.Proofs.Ytohdcmkooedkcaa.A
open Go Go.RowKit
theorem law_ReleaseTables {l : List Int} {a b c d : Int} {W : World} {v : Value} (h0 : IntsAt ⟨fun g => W.heap[g]?, []⟩ v l) (h1 : I64 a) (h2 : I64 b) (h3 : I64 c) (h4 : I64 d) :
    Calls Try.prog 3 #[v, .int .i64 a, .int .i64 b, .int .i64 c, .int .i64 d] W fun e W' => e = .returned (.bool true) ∧ Below W.heap.size W W' :=
  calls_of_acalls (R := fun e => e = .returned (.bool true)) (c_ReleaseTables v l a b c d _ h0 h1 h2 h3 h4 _ fun _ => rfl)
end Go.Proofs.Ytohdcmkooedkcaa.A
