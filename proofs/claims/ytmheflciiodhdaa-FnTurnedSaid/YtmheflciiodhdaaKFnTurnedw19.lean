/- Words for the proof of the law FnTurned. -/
import Derived.Test.YtmheflciiodhdaaKFnTurnedw1
namespace Go.Proofs.YtmheflciiodhdaaW.PrintWords
open Go.RowKit
section
variable {P : Program} {ops : Array Oper} {rest : List Oper} {o : Oper} {a : Act} {Q : Exit → Act → World → Prop} {W : World}
end
end Go.Proofs.YtmheflciiodhdaaW.PrintWords
