/- The print's words that this law needs (YtdcpccbhhoohkaaWFour). -/
import Derived.Test.YtdcpccbhhoohkaaVFnExactNewDeskTab
section
namespace Go.Proofs.YtdcpccbhhoohkaaW.PrintLast
section
variable {P : Program} {ops : Array Oper} {Q : Exit → Act → World → Prop} {md : Region.Mode} {S : World → Prop} {ds : List Nat} {T : Bool × List (List Nat × List Nat)}
end
end Go.Proofs.YtdcpccbhhoohkaaW.PrintLast
end
