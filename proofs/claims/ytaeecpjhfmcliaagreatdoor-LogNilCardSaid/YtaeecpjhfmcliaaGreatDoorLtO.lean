import Derived.Test.YtaeecpjhfmcliaaGreatDoorLgOwA
import Derived.Test.YtaeecpjhfmcliaaGreatDoorShTwenty
import Derived.Test.YtaeecpjhfmcliaaGreatDoorProg
/- Table: fields, values, records and tables that are handed in. No condition. -/
set_option maxRecDepth 100000
set_option linter.unusedVariables false
namespace Go.Proofs.YtaeecpjhfmcliaaGreatDoor
open Go.ChangeShapes Go.WideShapes Go.ChangeAt Go.RowKit Go.Sh
end Go.Proofs.YtaeecpjhfmcliaaGreatDoor
