import Derived.Test.YtjbfehippchniaaGreatDoorShSeventeen
import Derived.Lib.SlicesCompact
/- Plain laws: texts in their order, sorted; runs of equal texts as one; the set of a list. No program in sight. -/
set_option linter.unusedVariables false
set_option linter.unusedSimpArgs false
namespace Go.Sh
theorem bytes_ext{a b:ByteArray}(h:a.data.toList=b.data.toList):a=b:=by
  cases a;cases b
  simp only at h
  congr 1
  exact Array.toList_inj.1 h
end Go.Sh
