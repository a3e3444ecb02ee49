import Derived.Test.YtaeecpjhfmcliaaGreatDoorShFourteen
/- Comparing structs of strings and numbers. For every program. -/
set_option linter.unusedSectionVars false
set_option linter.unusedSimpArgs false
namespace Go.Sh
open Go.RowKit
variable {P : Program}
theorem equalIn_row {t:TypeId} {ks:List (Option IntKind)} (hs:zVW P t ks=true) {xs ys:List Value} (hx:xs.map zJK=ks.map some) (hy:ys.map zJK=ks.map some) (w:World) :
  ∃b,(Op.equalIn (9999+1) t (.agg xs.toArray) (.agg ys.toArray)).run P w=.ok b w/\(b=true ↔ xs=ys):=by
 unfold zVW at hs
 split at hs
 case h_2=>cases hs
 rename_i fs hu
 simp only[Bool.and_eq_true,Bool.not_eq_true']at hs
 obtain⟨hf,hst⟩:=hs
 have hfo:P.fieldsOf t=fs:=by simp[Program.fieldsOf,hu]
 rw[run_equalIn_struct w 9999 t _ _ (by rw[hfo];exact hu) hst,hfo]
 exact zK3 (P:=P) 9998 xs.toArray ys.toArray w fs.toList 0 ks xs ys hf hx hy (λi=>by simp) (λi=>by simp)
theorem eqS_row {t:TypeId} {ks:List (Option IntKind)} (hs:zVW P t ks=true) (hm:P.eqGuardType P.depth t=false) {x y:Operand} {xs ys:List Value} (hx:xs.map zJK=ks.map some) (hy:ys.map zJK=ks.map some) {b:Bool} (hb:b=true ↔ xs=ys) (w:World) :
  (eqS .eql t x y (.agg xs.toArray) (.agg ys.toArray)).run P w=.ok (.bool b) w:=by
 obtain⟨c,hc,hci⟩:=equalIn_row hs hx hy w
 have:c=b:=by
  cases c <;> cases b <;> simp_all
 subst this
 exact yXE (run_eqGuard_agg w .eql t x y _ _ hm) (by simp only[binOp];simp[Op.equal,Op.maxDepth]) hc
end Go.Sh
