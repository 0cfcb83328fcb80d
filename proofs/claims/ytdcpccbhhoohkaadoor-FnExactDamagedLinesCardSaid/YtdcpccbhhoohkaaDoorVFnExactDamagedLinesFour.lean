/- The print's words that this law needs (YtdcpccbhhoohkaaDoorWFour). -/
import Derived.Test.YtdcpccbhhoohkaaDoorVFnExactDamagedLinesTab
section
namespace Go.Proofs.YtdcpccbhhoohkaaDoorW.PrintLast
section
variable {P : Program} {ops : Array Oper} {Q : Exit → Act → World → Prop} {md : Region.Mode} {S : World → Prop} {ds : List Nat} {T : Bool × List (List Nat × List Nat)}
end
end Go.Proofs.YtdcpccbhhoohkaaDoorW.PrintLast
end
