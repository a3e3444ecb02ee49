import Derived.Test.YtlogipcgejfnnaaDoorLyOwA
import Derived.Test.YtlogipcgejfnnaaDoorShTwenty
import Derived.OpenShut
import Derived.Test.YtlogipcgejfnnaaDoorProg
/- Lex: tokens, and pairs of numbers, that are handed in. No condition. -/
set_option maxRecDepth 100000
set_option linter.unusedVariables false
namespace Go.Proofs.YtlogipcgejfnnaaDoor
open Go.ChangeShapes Go.WideShapes Go.ChangeAt Go.RowKit Go.Sh Go.Sh.Lx
instance : Enc (Int × Int) where
  sz := 2
  rd _ vs t := vs = [.int .i64 t.1, .int .i64 t.2]
  len h := by rw [h]; rfl
  pu _ h := h
instance : Lim (Int × Int) := ⟨fun t => Lim.ok t.1 ∧ Lim.ok t.2⟩
end Go.Proofs.YtlogipcgejfnnaaDoor
