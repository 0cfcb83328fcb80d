/- The print's words that this law needs (YtpdggpfobbkdnaaWInvWords). -/
import Derived.Test.YtpdggpfobbkdnaaVFnExactCountLinesInv
import Derived.Test.YtpdggpfobbkdnaaVFnExactCountLinesFootNe
section
namespace Go.Proofs.YtpdggpfobbkdnaaW.PrintWords
open Go.RowKit
end Go.Proofs.YtpdggpfobbkdnaaW.PrintWords
namespace Go.Proofs.YtpdggpfobbkdnaaW.PrintLast
section
variable {ops : Array Oper} {a : Act} {o og : Oper} {g : Nat} {t : Tmp} {u : Bool}
end
end Go.Proofs.YtpdggpfobbkdnaaW.PrintLast
end
