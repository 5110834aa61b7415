/- Words for the proof of the law FnTurned. -/
import Derived.Test.YtmheflciiodhdaaKFnTurnedw3
namespace Go.Proofs.YtmheflciiodhdaaW.PrintLast
section
variable {P : Program} {ops : Array Oper} {Q : Exit → Act → World → Prop} {md : Region.Mode} {S : World → Prop} {ds : List Nat} {T : Bool × List (List Nat × List Nat)}
end
end Go.Proofs.YtmheflciiodhdaaW.PrintLast
