/- The print's words that this law needs (YtpdggpfobbkdnaaDoorWTab). -/
import Derived.Test.YtpdggpfobbkdnaaDoorVFnExactReadReportLast
import Derived.Test.YtpdggpfobbkdnaaDoorVFnExactReadReportWords
section
namespace Go.Proofs.YtpdggpfobbkdnaaDoorW.PrintLast
open Go.Proofs.YtpdggpfobbkdnaaDoorW.PrintWords (Aside0)
section
variable {md : Region.Mode} {ops : Array Oper} {T : Bool × List (List Nat × List Nat)} {l l' li lj lk : Array Bool} {ds : List Nat} {i j k : Nat}
end
end Go.Proofs.YtpdggpfobbkdnaaDoorW.PrintLast
end
