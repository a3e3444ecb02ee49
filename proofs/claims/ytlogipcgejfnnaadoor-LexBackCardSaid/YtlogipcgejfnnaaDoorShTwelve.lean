import Derived.Test.YtlogipcgejfnnaaDoorShEleven
import Derived.Laws.StructEq
/- Keys that are structs of strings and numbers. For every program. -/
set_option linter.unusedSectionVars false
set_option linter.unusedSimpArgs false
namespace Go.Sh
open Go.RowKit
variable {P : Program}
end Go.Sh
