import Derived.Test.YtaeecpjhfmcliaaGreatDoorShSeven
/- Words by which a printed text takes values out of an environment, and environments written out. For every program. -/
namespace Go.Sh
variable {P : Program}
abbrev Rt:=Ending->World->Prop
abbrev Ds:=List Deferred
def zJk(fn:Func):Code:=fn.body.getD .skip
def xZ3:Code->Code
 | .block _ c=>c
 | .loop c=>c
 | .scope c=>c
 | c=>c
theorem yZ8 {n:Nat} {c:Code} {suf:List Code} {K:EP} {Q:EQ} {ρ:Env} {ds:List Deferred} {w:World} (h:Tr P n c (zJT K Q) ρ ds w)
  (hk:∀ρ' ds' w',K ρ' ds' w'->TrL P n suf Q ρ' ds' w'):TrL P n (c :: suf) Q ρ ds w:=
 yY8 h λρ' ds' w' _ _ hK=>hk ρ' ds' w' hK
theorem yWL {n id:Nat} {b c:Code} {l:List Code} {Q:EQ} {ρ:Env} {ds:List Deferred} {w:World} (hb:b=.block id c) (hl:zVp c=l) (h:TrL P n l (yQ1 id Q) ρ ds w):Tr P n b Q ρ ds w:=by
 subst hb;subst hl;exact yZJ (zYl h)
theorem yVO {n:Nat} {b c:Code} {l:List Code} {Q:EQ} {σ:Type} {enc:σ->Env->Prop} {D:Env->(σ->Prop)->Prop} {F:(σ->World->Prop)->σ->World->Prop} {ρ0:Env} {ds:List Deferred} {s0:σ} {w0:World} (hb:b=.loop c) (hl:zVp c=l)
  (h0:enc s0 ρ0) (hnd:zXc c=true) (hD:∀ρ K,D ρ K->∃s,enc s ρ/\K s)
  (hbody:∀(J:σ->World->Prop) s ρ w,enc s ρ->(∀t,zW5 c t=false->ρ t=ρ0 t)->F J s w->TrL P n l (zJT (λρ' _ w'=>D ρ' λs'=>J s' w') Q) ρ ds w)
  (h:zQW F s0 w0):Tr P n b Q ρ0 ds w0:=by
 subst hb;subst hl
 exact xZH h0 hnd hD (λJ s ρ w he ha hF=>zYl (hbody J s ρ w he ha hF)) h
theorem yJo {f:FuncId} {fn:Func} {args:Array Value} {l:List Code} {w:World} {R:Ending->World->Prop} (hf:P.funcs[f]?=some fn) (hb:fn.body=some (zJk fn)) (hn:args.size<=fn.ntmps) (hl:zVp (zJk fn)=l)
  (h:TrL P fn.ntmps l (endQ P fn.results.toList R) (zKU args.toList) [] w):Calls P f args w R:=by
 subst hl;exact yXn hf hb hn h
theorem yXi {f:FuncId} {fn:Func} {args:Array Value} {l:List Code} {w:World} {R:Ending->World->Prop} (hf:P.funcs[f]?=some fn) (hb:fn.body=some (zJk fn)) (hn:args.size<=fn.ntmps) (hnd:zXc (zJk fn)=true) (hl:zVp (zJk fn)=l)
  (h:TrL P fn.ntmps l (endQ P fn.results.toList R) (zKU args.toList) [] w) (u:FrameMode):CallsD P f args u w λe u' w'=>u'=u/\R e w':=by
 subst hl;exact yQq hf hb hn hnd h u
end Go.Sh
