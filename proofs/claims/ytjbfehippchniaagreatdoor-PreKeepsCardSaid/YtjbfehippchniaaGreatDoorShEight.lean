import Derived.Test.YtjbfehippchniaaGreatDoorShSeven
/- Words by which a printed text takes values out of an environment, and environments written out. For every program. -/
namespace Go.Sh
variable {P : Program}
abbrev Rt:=Ending → World → Prop
abbrev Ds:=List Deferred
def bodyOf(fn:Func):Code:=fn.body.getD .skip
def innerC:Code → Code
  | .block _ c=>c
  | .loop c=>c
  | .scope c=>c
  | c=>c
def thnC:Code → Code
  | .cond _ x _=>x
  | c=>c
def elsC:Code → Code
  | .cond _ _ y=>y
  | c=>c
theorem TrL_head {n:Nat} {c:Code} {suf:List Code} {K:EP} {Q:EQ} {ρ:Env} {ds:List Deferred} {w:World} (h:Tr P n c (thenQ K Q) ρ ds w)
    (hk:∀ρ' ds' w',K ρ' ds' w' → TrL P n suf Q ρ' ds' w'):TrL P n (c :: suf) Q ρ ds w:=
  TrL_cons h λρ' ds' w' _ _ hK=>hk ρ' ds' w' hK
theorem Tr_block' {n id:Nat} {b c:Code} {l:List Code} {Q:EQ} {ρ:Env} {ds:List Deferred} {w:World} (hb:b=.block id c) (hl:flat c=l) (h:TrL P n l (blockQ id Q) ρ ds w):Tr P n b Q ρ ds w:=by
  subst hb;subst hl;exact Tr_block (Tr_of_L h)
theorem Tr_scope'{n:Nat}{b c:Code}{l:List Code}{Q:EQ}{ρ:Env}{ds:List Deferred}{w:World}(hb:b=.scope c)(hl:flat c=l)(h:TrL P n l Q ρ ds w):Tr P n b Q ρ ds w:=by
  subst hb;subst hl;exact Tr_scope (Tr_of_L h)
theorem Tr_cond'{n:Nat}{b:Code}{c:Operand}{x y:Code}{lx ly:List Code}{Q:EQ}{ρ:Env}{ds:List Deferred}{w:World}{t:Bool}{X Y:Prop}(hb:b=.cond c x y)(hx:flat x=lx)(hy:flat y=ly)(hc:ev ρ c=.bool t)
    (h1:X → TrL P n lx Q ρ ds w) (h2:Y → TrL P n ly Q ρ ds w) (h:Br t X Y):Tr P n b Q ρ ds w:=by
  subst hb;subst hx;subst hy
  refine Tr_cond ?_
  unfold Br' boolE
  rw[hc]
  cases t with
  | true=>exact Tr_of_L (h1 h)
  | false=>exact Tr_of_L (h2 h)
theorem Tr_loop' {n:Nat} {b c:Code} {l:List Code} {Q:EQ} {σ:Type} {enc:σ → Env → Prop} {D:Env → (σ → Prop) → Prop} {F:(σ → World → Prop) → σ → World → Prop} {ρ0:Env} {ds:List Deferred} {s0:σ} {w0:World} (hb:b=.loop c) (hl:flat c=l)
    (h0:enc s0 ρ0) (hnd:noDefC c=true) (hD:∀ρ K,D ρ K → ∃s,enc s ρ ∧ K s)
    (hbody:∀(J:σ → World → Prop) s ρ w,enc s ρ → (∀t,asgC c t=false → ρ t=ρ0 t) → F J s w → TrL P n l (thenQ (λρ' _ w'=>D ρ' λs'=>J s' w') Q) ρ ds w)
    (h:loopT F s0 w0):Tr P n b Q ρ0 ds w0:=by
  subst hb;subst hl
  exact Tr_loop h0 hnd hD (λJ s ρ w he ha hF=>Tr_of_L (hbody J s ρ w he ha hF)) h
theorem calls_of_L {f:FuncId} {fn:Func} {args:Array Value} {l:List Code} {w:World} {R:Ending → World → Prop} (hf:P.funcs[f]?=some fn) (hb:fn.body=some (bodyOf fn)) (hn:args.size ≤ fn.ntmps) (hl:flat (bodyOf fn)=l)
    (h:TrL P fn.ntmps l (endQ P fn.results.toList R) (argEnv args.toList) [] w):Calls P f args w R:=by
  subst hl;exact calls_of_Tr hf hb hn h
end Go.Sh
