/- The print's words that this law needs (YtpdggpfobbkdnaaWTab). -/
import Derived.Test.YtpdggpfobbkdnaaVFnExactCountLinesLast
import Derived.Test.YtpdggpfobbkdnaaVFnExactCountLinesWords
section
namespace Go.Proofs.YtpdggpfobbkdnaaW.PrintLast
open Go.Proofs.YtpdggpfobbkdnaaW.PrintWords (Aside0)
section
variable {md : Region.Mode} {ops : Array Oper} {T : Bool × List (List Nat × List Nat)} {l l' li lj lk : Array Bool} {ds : List Nat} {i j k : Nat}
end
end Go.Proofs.YtpdggpfobbkdnaaW.PrintLast
end
