import Derived.Test.YtaeecpjhfmcliaaGreatDoorShSeven
/- Words by which a printed text takes values out of an environment, and environments written out. For every program. -/
namespace Go.Sh
variable {P : Program}
abbrev Rt:=Ending->World->Prop
abbrev Ds:=List Deferred
def zK1(fn:Func):Code:=fn.body.getD .skip
def xQI:Code->Code
 | .block _ c=>c
 | .loop c=>c
 | .scope c=>c
 | c=>c
def thnC:Code->Code
 | .cond _ x _=>x
 | c=>c
def elsC:Code->Code
 | .cond _ _ y=>y
 | c=>c
theorem zYl {n:Nat} {c:Code} {suf:List Code} {K:EP} {Q:EQ} {ρ:Env} {ds:List Deferred} {w:World} (h:Tr P n c (zKh K Q) ρ ds w)
  (hk:∀ρ' ds' w',K ρ' ds' w'->TrL P n suf Q ρ' ds' w'):TrL P n (c :: suf) Q ρ ds w:=
 xJq h λρ' ds' w' _ _ hK=>hk ρ' ds' w' hK
theorem xQl {n id:Nat} {b c:Code} {l:List Code} {Q:EQ} {ρ:Env} {ds:List Deferred} {w:World} (hb:b=.block id c) (hl:zVi c=l) (h:TrL P n l (yZG id Q) ρ ds w):Tr P n b Q ρ ds w:=by
 subst hb;subst hl;exact yKm (zWw h)
theorem xZf{n:Nat}{b c:Code}{l:List Code}{Q:EQ}{ρ:Env}{ds:List Deferred}{w:World}(hb:b=.scope c)(hl:zVi c=l)(h:TrL P n l Q ρ ds w):Tr P n b Q ρ ds w:=by
 subst hb;subst hl;exact yKD (zWw h)
theorem xJx{n:Nat}{b:Code}{c:Operand}{x y:Code}{lx ly:List Code}{Q:EQ}{ρ:Env}{ds:List Deferred}{w:World}{t:Bool}{X Y:Prop}(hb:b=.cond c x y)(hx:zVi x=lx)(hy:zVi y=ly)(hc:ev ρ c=.bool t)
  (h1:X->TrL P n lx Q ρ ds w) (h2:Y->TrL P n ly Q ρ ds w) (h:Br t X Y):Tr P n b Q ρ ds w:=by
 subst hb;subst hx;subst hy
 refine yYJ ?_
 unfold Br' yZH
 rw[hc]
 cases t with
 | true=>exact zWw (h1 h)
 | false=>exact zWw (h2 h)
theorem xJ4 {n:Nat} {b c:Code} {l:List Code} {Q:EQ} {σ:Type} {enc:σ->Env->Prop} {D:Env->(σ->Prop)->Prop} {F:(σ->World->Prop)->σ->World->Prop} {ρ0:Env} {ds:List Deferred} {s0:σ} {w0:World} (hb:b=.loop c) (hl:zVi c=l)
  (h0:enc s0 ρ0) (hnd:zX4 c=true) (hD:∀ρ K,D ρ K->∃s,enc s ρ/\K s)
  (hbody:∀(J:σ->World->Prop) s ρ w,enc s ρ->(∀t,zY8 c t=false->ρ t=ρ0 t)->F J s w->TrL P n l (zKh (λρ' _ w'=>D ρ' λs'=>J s' w') Q) ρ ds w)
  (h:zQF F s0 w0):Tr P n b Q ρ0 ds w0:=by
 subst hb;subst hl
 exact xYY h0 hnd hD (λJ s ρ w he ha hF=>zWw (hbody J s ρ w he ha hF)) h
theorem yW1 {f:FuncId} {fn:Func} {args:Array Value} {l:List Code} {w:World} {R:Ending->World->Prop} (hf:P.funcs[f]?=some fn) (hb:fn.body=some (zK1 fn)) (hn:args.size<=fn.ntmps) (hl:zVi (zK1 fn)=l)
  (h:TrL P fn.ntmps l (endQ P fn.results.toList R) (zVO args.toList) [] w):Calls P f args w R:=by
 subst hl;exact yJ5 hf hb hn h
theorem yJ4 {f:FuncId} {fn:Func} {args:Array Value} {l:List Code} {w:World} {R:Ending->World->Prop} (hf:P.funcs[f]?=some fn) (hb:fn.body=some (zK1 fn)) (hn:args.size<=fn.ntmps) (hnd:zX4 (zK1 fn)=true) (hl:zVi (zK1 fn)=l)
  (h:TrL P fn.ntmps l (endQ P fn.results.toList R) (zVO args.toList) [] w) (u:FrameMode):CallsD P f args u w λe u' w'=>u'=u/\R e w':=by
 subst hl;exact yZR hf hb hn hnd h u
end Go.Sh
