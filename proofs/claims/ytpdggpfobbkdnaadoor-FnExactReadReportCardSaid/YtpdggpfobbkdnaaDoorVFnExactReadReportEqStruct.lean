/- The print's words that this law needs (YtpdggpfobbkdnaaDoorWEqStruct). -/
import Derived.Test.YtpdggpfobbkdnaaDoorVFnExactReadReportWords
import Derived.Laws.StructEq
section
namespace Go.Proofs.YtpdggpfobbkdnaaDoorW.PrintWords
open Go.RowKit
section
variable {P : Program} {d : Nat} {xs ys : Array Value} {f : Field} {fs : List Field} {a b : Value} {r s : Bool} {w : World}
end
end Go.Proofs.YtpdggpfobbkdnaaDoorW.PrintWords
end
