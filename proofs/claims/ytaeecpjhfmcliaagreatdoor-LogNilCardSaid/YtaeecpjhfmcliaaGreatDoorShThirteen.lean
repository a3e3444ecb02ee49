import Derived.Test.YtaeecpjhfmcliaaGreatDoorShTwelve
import Derived.Laws.AppendOwn
import Derived.Laws.MakeOwn
import Derived.Laws.Small
/- Small runs: comparing with nil, the greater and the lesser of two. For every program. -/
set_option linter.unusedSectionVars false
set_option linter.unusedSimpArgs false
namespace Go.Sh
open Go.RowKit
variable {P : Program}
theorem yXE {t:TypeId} {x y:Operand} {a b:Value} {w:World} {r:Bool} (hg:(eqGuard .eql t x y a b).run P w=.ok () w) (hb:(binOp .eql t a b).run P w=((Op.equalIn 10000 t a b).run P w).andThen λb w'=>.ok (.bool b) w')
  (h:(Op.equalIn (9999+1) t a b).run P w=.ok r w):(eqS .eql t x y a b).run P w=.ok (.bool r) w:=by
 unfold eqS
 simp only[Sem.run_bind,hg,Result.andThen_ok,hb]
 rw[show(Op.equalIn 10000 t a b).run P w=.ok r w from h];rfl
theorem yKC {t:TypeId} {x y:Operand} {a b:Value} {w:World} {r:Bool} (hg:(eqGuard .neq t x y a b).run P w=.ok () w) (hb:(binOp .neq t a b).run P w=((Op.equalIn 10000 t a b).run P w).andThen λb w'=>.ok (.bool (!b)) w')
  (h:(Op.equalIn (9999+1) t a b).run P w=.ok r w):(eqS .neq t x y a b).run P w=.ok (.bool (!r)) w:=by
 unfold eqS
 simp only[Sem.run_bind,hg,Result.andThen_ok,hb]
 rw[show(Op.equalIn 10000 t a b).run P w=.ok r w from h];rfl
theorem zW8 {t e:TypeId} (h:P.underlying t=some (.pointer e)) (x y:Operand) (p:Option Addr) (w:World):(eqS .eql t x y (.pointer p) (.pointer none)).run P w=.ok (.bool p.isNone) w:=by
 refine yXE rfl (by simp only[binOp];simp[Op.equal,Op.maxDepth]) ?_
 cases p <;> (unfold Op.equalIn;simp[zQg h])
theorem zYu {t e:TypeId} (h:P.underlying t=some (.slice e)) (x y:Operand) (a:Option Addr) (n c:Nat) (w:World):(eqS .eql t x y (.slice a n c) (.slice none 0 0)).run P w=.ok (.bool a.isNone) w:=by
 refine yXE rfl (by simp only[binOp];simp[Op.equal,Op.maxDepth]) ?_
 cases a <;> (unfold Op.equalIn;simp[zQg h])
theorem yKL(ts:Array TypeId)(r:TypeId)(k:IntKind)(a b:Int)(w:World):(Builtin.max_ ts r #[.int k a,.int k b]).run P w=.ok (.int k (max a b)) w:=by
 rw[run_max_int2];congr 2;omega
end Go.Sh
