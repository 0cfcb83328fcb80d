/- The print's words that this law needs (YtdcpccbhhoohkaaWEqStruct). -/
import Derived.Test.YtdcpccbhhoohkaaVFnExactNewDeskWords
import Derived.Laws.StructEq
section
namespace Go.Proofs.YtdcpccbhhoohkaaW.PrintWords
open Go.RowKit
section
variable {P : Program} {d : Nat} {xs ys : Array Value} {f : Field} {fs : List Field} {a b : Value} {r s : Bool} {w : World}
end
end Go.Proofs.YtdcpccbhhoohkaaW.PrintWords
end
