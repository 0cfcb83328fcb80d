/- The print's words that this law needs (YtpdggpfobbkdnaaDoorWGuard). -/
import Derived.Test.YtpdggpfobbkdnaaDoorVFnExactReadReportWords
section
namespace Go.Proofs.YtpdggpfobbkdnaaDoorW.PrintWords
open Go.RowKit
section
variable {P : Program} {ops : Array Oper} {rest : List Oper} {o : Oper} {a : Act} {Q : Exit → Act → World → Prop} {W : World}
end
end Go.Proofs.YtpdggpfobbkdnaaDoorW.PrintWords
end
