import Derived.Test.YtcihcbfcgjepfaaGreatDoorBfOwA
import Derived.Test.YtcihcbfcgjepfaaGreatDoorShTwenty
import Derived.Test.YtcihcbfcgjepfaaGreatDoorProg
/- Table: fields, values, records and tables that are handed in. No condition. -/
set_option maxRecDepth 100000
set_option linter.unusedVariables false
namespace Go.Proofs.YtcihcbfcgjepfaaGreatDoor
open Go.ChangeShapes Go.WideShapes Go.ChangeAt Go.RowKit Go.Sh
end Go.Proofs.YtcihcbfcgjepfaaGreatDoor
