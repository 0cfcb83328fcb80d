/- The print's words that this law needs (YtpdggpfobbkdnaaDoorWFour). -/
import Derived.Test.YtpdggpfobbkdnaaDoorVFnExactReadReportTab
section
namespace Go.Proofs.YtpdggpfobbkdnaaDoorW.PrintLast
section
variable {P : Program} {ops : Array Oper} {Q : Exit → Act → World → Prop} {md : Region.Mode} {S : World → Prop} {ds : List Nat} {T : Bool × List (List Nat × List Nat)}
end
end Go.Proofs.YtpdggpfobbkdnaaDoorW.PrintLast
end
