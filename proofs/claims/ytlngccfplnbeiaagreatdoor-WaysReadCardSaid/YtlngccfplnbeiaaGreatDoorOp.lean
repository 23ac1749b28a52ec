/- Own text, by program: what arguments that are read are like. -/
import Derived.Test.YtlngccfplnbeiaaGreatDoorTy
import Derived.Test.YtlngccfplnbeiaaGreatDoorSxSaid
namespace Go.Proofs.YtlngccfplnbeiaaGreatDoor
open Go Sx Go.ChangeShapes Go.WideShapes Go.RowKit
set_option linter.all false


end Go.Proofs.YtlngccfplnbeiaaGreatDoor
