/- Own text, by program: what arguments that are read are like. -/
import Derived.Test.YteebpnooijknoaaDoorTy
import Derived.Test.YteebpnooijknoaaDoorSxSaid
namespace Go.Proofs.YteebpnooijknoaaDoor
open Go Sx Go.ChangeShapes Go.WideShapes Go.RowKit
set_option linter.all false


end Go.Proofs.YteebpnooijknoaaDoor
