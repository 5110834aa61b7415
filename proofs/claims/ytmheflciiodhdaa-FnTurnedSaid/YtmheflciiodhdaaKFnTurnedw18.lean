/- Words for the proof of the law FnTurned. -/
import Derived.Test.YtmheflciiodhdaaKFnTurnedw17
import Derived.Test.YtmheflciiodhdaaKFnTurnedw13
namespace Go.Proofs.YtmheflciiodhdaaW.PrintWords
open Go.RowKit
end Go.Proofs.YtmheflciiodhdaaW.PrintWords
namespace Go.Proofs.YtmheflciiodhdaaW.PrintLast
section
variable {ops : Array Oper} {a : Act} {o og : Oper} {g : Nat} {t : Tmp} {u : Bool}
end
end Go.Proofs.YtmheflciiodhdaaW.PrintLast
