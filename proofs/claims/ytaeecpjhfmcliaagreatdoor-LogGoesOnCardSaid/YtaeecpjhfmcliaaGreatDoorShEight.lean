import Derived.Test.YtaeecpjhfmcliaaGreatDoorShSeven
/- Words by which a printed text takes values out of an environment, and environments written out. For every program. -/
namespace Go.Sh
variable {P : Program}
abbrev Rt:=Ending->World->Prop
abbrev Ds:=List Deferred
def zKA(fn:Func):Code:=fn.body.getD .skip
def yYA:Code->Code
 | .block _ c=>c
 | .loop c=>c
 | .scope c=>c
 | c=>c
def thnC:Code->Code
 | .cond _ x _=>x
 | c=>c
def elsC:Code->Code
 | .cond _ _ y=>y
 | c=>c
theorem zVX {n:Nat} {c:Code} {suf:List Code} {K:EP} {Q:EQ} {ρ:Env} {ds:List Deferred} {w:World} (h:Tr P n c (zKi K Q) ρ ds w)
  (hk:∀ρ' ds' w',K ρ' ds' w'->TrL P n suf Q ρ' ds' w'):TrL P n (c :: suf) Q ρ ds w:=
 xJq h λρ' ds' w' _ _ hK=>hk ρ' ds' w' hK
theorem xZh {n id:Nat} {b c:Code} {l:List Code} {Q:EQ} {ρ:Env} {ds:List Deferred} {w:World} (hb:b=.block id c) (hl:zV1 c=l) (h:TrL P n l (yZc id Q) ρ ds w):Tr P n b Q ρ ds w:=by
 subst hb;subst hl;exact yKh (zWq h)
theorem xXG{n:Nat}{b c:Code}{l:List Code}{Q:EQ}{ρ:Env}{ds:List Deferred}{w:World}(hb:b=.scope c)(hl:zV1 c=l)(h:TrL P n l Q ρ ds w):Tr P n b Q ρ ds w:=by
 subst hb;subst hl;exact yKE (zWq h)
theorem xZW{n:Nat}{b:Code}{c:Operand}{x y:Code}{lx ly:List Code}{Q:EQ}{ρ:Env}{ds:List Deferred}{w:World}{t:Bool}{X Y:Prop}(hb:b=.cond c x y)(hx:zV1 x=lx)(hy:zV1 y=ly)(hc:ev ρ c=.bool t)
  (h1:X->TrL P n lx Q ρ ds w) (h2:Y->TrL P n ly Q ρ ds w) (h:Br t X Y):Tr P n b Q ρ ds w:=by
 subst hb;subst hx;subst hy
 refine xXk ?_
 unfold Br' yZA
 rw[hc]
 cases t with
 | true=>exact zWq (h1 h)
 | false=>exact zWq (h2 h)
theorem xZI {n:Nat} {b c:Code} {l:List Code} {Q:EQ} {σ:Type} {enc:σ->Env->Prop} {D:Env->(σ->Prop)->Prop} {F:(σ->World->Prop)->σ->World->Prop} {ρ0:Env} {ds:List Deferred} {s0:σ} {w0:World} (hb:b=.loop c) (hl:zV1 c=l)
  (h0:enc s0 ρ0) (hnd:zX5 c=true) (hD:∀ρ K,D ρ K->∃s,enc s ρ/\K s)
  (hbody:∀(J:σ->World->Prop) s ρ w,enc s ρ->(∀t,yQe c t=false->ρ t=ρ0 t)->F J s w->TrL P n l (zKi (λρ' _ w'=>D ρ' λs'=>J s' w') Q) ρ ds w)
  (h:zQE F s0 w0):Tr P n b Q ρ0 ds w0:=by
 subst hb;subst hl
 exact xYS h0 hnd hD (λJ s ρ w he ha hF=>zWq (hbody J s ρ w he ha hF)) h
theorem yWT {f:FuncId} {fn:Func} {args:Array Value} {l:List Code} {w:World} {R:Ending->World->Prop} (hf:P.funcs[f]?=some fn) (hb:fn.body=some (zKA fn)) (hn:args.size<=fn.ntmps) (hl:zV1 (zKA fn)=l)
  (h:TrL P fn.ntmps l (endQ P fn.results.toList R) (zVF args.toList) [] w):Calls P f args w R:=by
 subst hl;exact yJu hf hb hn h
theorem yJ8 {f:FuncId} {fn:Func} {args:Array Value} {l:List Code} {w:World} {R:Ending->World->Prop} (hf:P.funcs[f]?=some fn) (hb:fn.body=some (zKA fn)) (hn:args.size<=fn.ntmps) (hnd:zX5 (zKA fn)=true) (hl:zV1 (zKA fn)=l)
  (h:TrL P fn.ntmps l (endQ P fn.results.toList R) (zVF args.toList) [] w) (u:FrameMode):CallsD P f args u w λe u' w'=>u'=u/\R e w':=by
 subst hl;exact yZ4 hf hb hn hnd h u
end Go.Sh
