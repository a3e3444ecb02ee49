import Derived.Test.YtjbfehippchniaaGreatDoorShTwelve
import Derived.Laws.AppendOwn
import Derived.Laws.MakeOwn
import Derived.Laws.Small
/- Small runs: comparing with nil, the greater and the lesser of two. For every program. -/
set_option linter.unusedSectionVars false
set_option linter.unusedSimpArgs false
namespace Go.Sh
open Go.RowKit
variable {P : Program}
theorem eqS_run {t:TypeId} {x y:Operand} {a b:Value} {w:World} {r:Bool} (hg:(eqGuard .eql t x y a b).run P w=.ok () w) (hb:(binOp .eql t a b).run P w=((Op.equalIn 10000 t a b).run P w).andThen λb w'=>.ok (.bool b) w')
    (h:(Op.equalIn (9999+1) t a b).run P w=.ok r w):(eqS .eql t x y a b).run P w=.ok (.bool r) w:=by
  unfold eqS
  simp only[Sem.run_bind,hg,Result.andThen_ok,hb]
  rw[show(Op.equalIn 10000 t a b).run P w=.ok r w from h];rfl
theorem eqS_slice_nil {t e:TypeId} (h:P.underlying t=some (.slice e)) (x y:Operand) (a:Option Addr) (n c:Nat) (w:World):(eqS .eql t x y (.slice a n c) (.slice none 0 0)).run P w=.ok (.bool a.isNone) w:=by
  refine eqS_run rfl (by simp only[binOp];simp[Op.equal,Op.maxDepth]) ?_
  cases a <;> (unfold Op.equalIn;simp[run_under h])
theorem max_run(ts:Array TypeId)(r:TypeId)(k:IntKind)(a b:Int)(w:World):(Builtin.max_ ts r #[.int k a,.int k b]).run P w=.ok (.int k (max a b)) w:=by
  rw[run_max_int2];congr 2;omega
end Go.Sh
