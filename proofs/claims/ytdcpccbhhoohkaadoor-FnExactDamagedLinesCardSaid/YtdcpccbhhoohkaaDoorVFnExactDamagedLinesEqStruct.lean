/- The print's words that this law needs (YtdcpccbhhoohkaaDoorWEqStruct). -/
import Derived.Test.YtdcpccbhhoohkaaDoorVFnExactDamagedLinesWords
import Derived.Laws.StructEq
section
namespace Go.Proofs.YtdcpccbhhoohkaaDoorW.PrintWords
open Go.RowKit
section
variable {P : Program} {d : Nat} {xs ys : Array Value} {f : Field} {fs : List Field} {a b : Value} {r s : Bool} {w : World}
end
end Go.Proofs.YtdcpccbhhoohkaaDoorW.PrintWords
end
