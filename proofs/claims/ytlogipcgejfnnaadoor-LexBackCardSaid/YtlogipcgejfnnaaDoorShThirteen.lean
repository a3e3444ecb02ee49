import Derived.Test.YtlogipcgejfnnaaDoorShTwelve
import Derived.Laws.AppendOwn
import Derived.Laws.MakeOwn
import Derived.Laws.Small
/- Small runs: comparing with nil, the greater and the lesser of two. For every program. -/
set_option linter.unusedSectionVars false
set_option linter.unusedSimpArgs false
namespace Go.Sh
open Go.RowKit
variable {P : Program}
end Go.Sh
