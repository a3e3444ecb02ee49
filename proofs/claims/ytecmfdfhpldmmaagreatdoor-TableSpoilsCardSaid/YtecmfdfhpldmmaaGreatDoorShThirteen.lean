import Derived.Test.YtecmfdfhpldmmaaGreatDoorShTwelve
import Derived.Laws.AppendOwn
import Derived.Laws.MakeOwn
import Derived.Laws.Small
/- Small runs: comparing with nil, the greater and the lesser of two. For every program. -/
set_option linter.unusedSectionVars false
set_option linter.unusedSimpArgs false
namespace Go.Sh
open Go.RowKit
variable {P : Program}
theorem eqS_run {t : TypeId} {x y : Operand} {a b : Value} {w : World} {r : Bool} (hg : (eqGuard .eql t x y a b).run P w = .ok () w) (hb : (binOp .eql t a b).run P w = ((Op.equalIn 10000 t a b).run P w).andThen fun b w' => .ok (.bool b) w')
    (h : (Op.equalIn (9999 + 1) t a b).run P w = .ok r w) : (eqS .eql t x y a b).run P w = .ok (.bool r) w := by
  unfold eqS
  simp only [Sem.run_bind, hg, Result.andThen_ok, hb]
  rw [show (Op.equalIn 10000 t a b).run P w = .ok r w from h]; rfl
end Go.Sh
