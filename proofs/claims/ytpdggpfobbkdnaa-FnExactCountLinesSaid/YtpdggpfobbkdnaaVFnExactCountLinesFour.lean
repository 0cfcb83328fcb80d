/- The print's words that this law needs (YtpdggpfobbkdnaaWFour). -/
import Derived.Test.YtpdggpfobbkdnaaVFnExactCountLinesTab
section
namespace Go.Proofs.YtpdggpfobbkdnaaW.PrintLast
section
variable {P : Program} {ops : Array Oper} {Q : Exit → Act → World → Prop} {md : Region.Mode} {S : World → Prop} {ds : List Nat} {T : Bool × List (List Nat × List Nat)}
end
end Go.Proofs.YtpdggpfobbkdnaaW.PrintLast
end
