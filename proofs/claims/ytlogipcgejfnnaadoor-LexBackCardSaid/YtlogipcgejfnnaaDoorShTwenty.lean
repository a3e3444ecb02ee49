import Derived.Test.YtlogipcgejfnnaaDoorShSeventeen
/- A struct that is handed in, field by field, each of one cell. For every program. -/
set_option linter.unusedVariables false
set_option linter.unusedSimpArgs false
namespace Go.Sh
open Go.ChangeShapes Go.WideShapes Go.ChangeAt Go.RowKit
variable {P : Program}
end Go.Sh
