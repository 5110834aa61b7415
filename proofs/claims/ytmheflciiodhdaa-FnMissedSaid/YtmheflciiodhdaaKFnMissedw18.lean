/- Words for the proof of the law FnMissed. -/
import Derived.Test.YtmheflciiodhdaaKFnMissedw17
import Derived.Test.YtmheflciiodhdaaKFnMissedw13
namespace Go.Proofs.YtmheflciiodhdaaW.PrintWords
open Go.RowKit
end Go.Proofs.YtmheflciiodhdaaW.PrintWords
namespace Go.Proofs.YtmheflciiodhdaaW.PrintLast
section
variable {ops : Array Oper} {a : Act} {o og : Oper} {g : Nat} {t : Tmp} {u : Bool}
end
end Go.Proofs.YtmheflciiodhdaaW.PrintLast
