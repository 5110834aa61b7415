/- Words for the proof of the law FnTurned. -/
import Derived.Test.YtmheflciiodhdaaKFnTurnedw1
import Derived.Laws.StructEq
namespace Go.Proofs.YtmheflciiodhdaaW.PrintWords
open Go.RowKit
section
variable {P : Program} {d : Nat} {xs ys : Array Value} {f : Field} {fs : List Field} {a b : Value} {r s : Bool} {w : World}
end
end Go.Proofs.YtmheflciiodhdaaW.PrintWords
