/- Chapter 15: DyeSums' walk. -/
import Derived.Test.YtmjhhaejiabkdaaLawSums
import Derived.Test.YtmjhhaejiabkdaaAlive
namespace Go.Proofs.Ytmjhhaejiabkdaa
open Go.RowKit
theorem sums_law (W : Int) {v : Value} {xs : List Int} {w : World} (hv : Ints w (fun b => b < w.heap.size) v xs) :
    Calls Try.prog 6 #[.int .i64 W, v] w fun e w' => e = .returned (.bool true) ∧ Below w.heap.size w w' := sums_walk alive_true W hv
end Go.Proofs.Ytmjhhaejiabkdaa
