/- The print's words that this law needs (YtpdggpfobbkdnaaWGuard). -/
import Derived.Test.YtpdggpfobbkdnaaVFnExactCountLinesWords
section
namespace Go.Proofs.YtpdggpfobbkdnaaW.PrintWords
open Go.RowKit
section
variable {P : Program} {ops : Array Oper} {rest : List Oper} {o : Oper} {a : Act} {Q : Exit → Act → World → Prop} {W : World}
end
end Go.Proofs.YtpdggpfobbkdnaaW.PrintWords
end
