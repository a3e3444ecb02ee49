import Derived.Test.YtjbfehippchniaaGreatDoorShEleven
import Derived.Laws.StructEq
/- Keys that are structs of strings and numbers. For every program. -/
set_option linter.unusedSectionVars false
set_option linter.unusedSimpArgs false
namespace Go.Sh
open Go.RowKit
variable {P : Program}
def intOf:Option TypeDesc → Option IntKind
  | some (.int q)=>some q
  | _=>none
end Go.Sh
