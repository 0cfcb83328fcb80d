/- The print's words that this law needs (YtdcpccbhhoohkaaDoorWInvWords). -/
import Derived.Test.YtdcpccbhhoohkaaDoorVFnExactDamagedLinesInv
import Derived.Test.YtdcpccbhhoohkaaDoorVFnExactDamagedLinesFootNe
section
namespace Go.Proofs.YtdcpccbhhoohkaaDoorW.PrintWords
open Go.RowKit
end Go.Proofs.YtdcpccbhhoohkaaDoorW.PrintWords
namespace Go.Proofs.YtdcpccbhhoohkaaDoorW.PrintLast
section
variable {ops : Array Oper} {a : Act} {o og : Oper} {g : Nat} {t : Tmp} {u : Bool}
end
end Go.Proofs.YtdcpccbhhoohkaaDoorW.PrintLast
end
