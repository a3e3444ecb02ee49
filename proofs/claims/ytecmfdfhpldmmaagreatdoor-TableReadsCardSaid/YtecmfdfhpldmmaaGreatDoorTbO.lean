import Derived.Test.YtecmfdfhpldmmaaGreatDoorTbA
import Derived.Test.YtecmfdfhpldmmaaGreatDoorShTwenty
import Derived.Test.YtecmfdfhpldmmaaGreatDoorProg
/- Table: fields, values, records and tables that are handed in. No condition. -/
set_option maxRecDepth 100000
set_option linter.unusedVariables false
namespace Go.Proofs.YtecmfdfhpldmmaaGreatDoor
open Go.ChangeShapes Go.WideShapes Go.ChangeAt Go.RowKit Go.Sh
end Go.Proofs.YtecmfdfhpldmmaaGreatDoor
