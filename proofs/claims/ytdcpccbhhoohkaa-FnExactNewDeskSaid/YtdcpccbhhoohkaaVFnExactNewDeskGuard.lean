/- The print's words that this law needs (YtdcpccbhhoohkaaWGuard). -/
import Derived.Test.YtdcpccbhhoohkaaVFnExactNewDeskWords
section
namespace Go.Proofs.YtdcpccbhhoohkaaW.PrintWords
open Go.RowKit
section
variable {P : Program} {ops : Array Oper} {rest : List Oper} {o : Oper} {a : Act} {Q : Exit → Act → World → Prop} {W : World}
end
end Go.Proofs.YtdcpccbhhoohkaaW.PrintWords
end
