import Derived.Test.YtecmfdfhpldmmaaGreatDoorShSixteen
import Derived.Test.YtecmfdfhpldmmaaGreatDoorShThirteen
/- Comparing structs of strings, numbers and truths. For every program. -/
set_option linter.unusedSectionVars false
set_option linter.unusedSimpArgs false
namespace Go.Sh
open Go.RowKit
variable {P : Program}
end Go.Sh
