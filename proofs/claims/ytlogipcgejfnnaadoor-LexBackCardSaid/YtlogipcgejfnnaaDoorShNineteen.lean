import Derived.Test.YtlogipcgejfnnaaDoorShEighteen
import Derived.Test.YtlogipcgejfnnaaDoorShFourteen
/- Appending to a row of one's own: a value; a list that is read. For every program. -/
set_option linter.unusedVariables false
set_option linter.unusedSimpArgs false
namespace Go.Sh
open Go.RowKit Go.ChangeShapes
variable {P : Program} {w : World} {e : TypeId} {s : SV} {vs : List Value}
end Go.Sh
