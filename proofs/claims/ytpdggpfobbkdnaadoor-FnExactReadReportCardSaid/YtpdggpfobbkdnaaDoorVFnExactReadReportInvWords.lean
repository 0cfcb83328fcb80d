/- The print's words that this law needs (YtpdggpfobbkdnaaDoorWInvWords). -/
import Derived.Test.YtpdggpfobbkdnaaDoorVFnExactReadReportInv
import Derived.Test.YtpdggpfobbkdnaaDoorVFnExactReadReportFootNe
section
namespace Go.Proofs.YtpdggpfobbkdnaaDoorW.PrintWords
open Go.RowKit
end Go.Proofs.YtpdggpfobbkdnaaDoorW.PrintWords
namespace Go.Proofs.YtpdggpfobbkdnaaDoorW.PrintLast
section
variable {ops : Array Oper} {a : Act} {o og : Oper} {g : Nat} {t : Tmp} {u : Bool}
end
end Go.Proofs.YtpdggpfobbkdnaaDoorW.PrintLast
end
