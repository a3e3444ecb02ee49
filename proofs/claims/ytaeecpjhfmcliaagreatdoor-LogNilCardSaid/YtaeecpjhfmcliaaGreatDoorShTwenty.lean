import Derived.Test.YtaeecpjhfmcliaaGreatDoorShSeventeen
/- A struct that is handed in, field by field, each of one cell. For every program. -/
set_option linter.unusedVariables false
set_option linter.unusedSimpArgs false
namespace Go.Sh
open Go.ChangeShapes Go.WideShapes Go.ChangeAt Go.RowKit
variable {P : Program}
def fieldsOf(P:Program)(t:TypeId):Option (List (TypeId × Nat)):=match P.underlying t with
 | some (.struct fs)=>some (fs.toList.map λf=>(f.type,f.offset))
 | _=>none
end Go.Sh
