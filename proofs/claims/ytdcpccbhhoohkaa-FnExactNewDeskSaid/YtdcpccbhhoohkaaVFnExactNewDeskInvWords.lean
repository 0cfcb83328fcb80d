/- The print's words that this law needs (YtdcpccbhhoohkaaWInvWords). -/
import Derived.Test.YtdcpccbhhoohkaaVFnExactNewDeskInv
import Derived.Test.YtdcpccbhhoohkaaVFnExactNewDeskFootNe
section
namespace Go.Proofs.YtdcpccbhhoohkaaW.PrintWords
open Go.RowKit
end Go.Proofs.YtdcpccbhhoohkaaW.PrintWords
namespace Go.Proofs.YtdcpccbhhoohkaaW.PrintLast
section
variable {ops : Array Oper} {a : Act} {o og : Oper} {g : Nat} {t : Tmp} {u : Bool}
end
end Go.Proofs.YtdcpccbhhoohkaaW.PrintLast
end
