import Derived.Test.YtaeecpjhfmcliaaGreatDoorShSixteen
import Derived.Test.YtaeecpjhfmcliaaGreatDoorShThirteen
/- Comparing structs of strings, numbers and truths. For every program. -/
set_option linter.unusedSectionVars false
set_option linter.unusedSimpArgs false
namespace Go.Sh
open Go.RowKit
variable {P : Program}
inductive SK where
 | str
 | int (q:IntKind)
 | bool
def yZg:Value->Option SK
 | .string _=>some .str
 | .int k _=>some (.int k)
 | .bool _=>some .bool
 | _=>none
def isBl:Option TypeDesc->Bool
 | some .bool=>true
 | _=>false
theorem yWz{d:Option TypeDesc}(h:isBl d=true):d=some .bool:=by unfold isBl at h;split at h <;> simp_all
def skB(P:Program)(t:TypeId):SK->Bool
 | .str=>yYP (P.underlying t)
 | .int q=>yYS (P.underlying t) == some q
 | .bool=>isBl (P.underlying t)
def zWw(P:Program):List Field->Nat->List SK->Bool
 | [],_,[]=>true
 | f :: fs, j, k :: ks => !(f.name == "_") && Nat.beq f.offset j && !yZP P f.type && skB P f.type k && zWw P fs (j + 1) ks
 | _,_,_=>false
theorem yZM(d:Nat)(w:World){t:TypeId}{k:SK}{x y:Value}(h4:skB P t k=true)(hxk:yZg x=some k)(hyk:yZg y=some k) :
  ∃r,(Op.equalIn (d+1) t x y).run P w=.ok r w/\(r=true ↔ x=y)/\(P.underlying t).isSome=true:=by
 cases k with
 | str=>
  have hu:=zVA h4
  cases x <;> simp[yZg]at hxk
  cases y <;> simp[yZg]at hyk
  refine⟨_,by simp[Op.equalIn,zQg hu];rfl,?_,by rw[hu];rfl⟩
  rw[zXS];simp
 | int q=>
  have hu:=zVE (by simpa[skB] using h4)
  cases x <;> simp[yZg]at hxk
  cases y <;> simp[yZg]at hyk
  subst hxk;subst hyk
  exact⟨_,by simp[Op.equalIn,zQg hu];rfl,by simp,by rw[hu];rfl⟩
 | bool=>
  have hu:=yWz h4
  cases x <;> simp[yZg]at hxk
  cases y <;> simp[yZg]at hyk
  exact⟨_,by simp[Op.equalIn,zQg hu];rfl,by simp,by rw[hu];rfl⟩
theorem zKd(d:Nat)(xs ys:Array Value)(w:World):∀(fs:List Field) (j:Nat) (ks:List SK) (xl yl:List Value),zWw P fs j ks=true->xl.map yZg=ks.map some->yl.map yZg=ks.map some->
  (∀i,xs[j+i]?=xl[i]?)->(∀i,ys[j+i]?=yl[i]?)->∃b,(Op.eqFields (d+1) xs ys fs).run P w=.ok b w/\(b=true ↔ xl=yl)
 | [],j,[],xl,yl,_,hx,hy,_,_=>by
  simp at hx hy;subst hx;subst hy
  exact⟨true,rfl,by simp⟩
 | f :: fs,j,k :: ks,xl,yl,h,hx,hy,hxs,hys=>by
  simp only[zWw,Bool.and_eq_true,Bool.not_eq_true']at h
  obtain⟨⟨⟨⟨h1,h2⟩,h3⟩,h4⟩,h5⟩:=h
  have h2:=Nat.eq_of_beq_eq_true h2
  cases xl with
  | nil=>simp at hx
  | cons x xl=>cases yl with
   | nil=>simp at hy
   | cons y yl=>
    simp only[List.map_cons,List.cons.injEq]at hx hy
    have mA:=hxs 0;have pX:=hys 0
    simp only[Nat.add_zero,List.getElem?_cons_zero]at mA pX
    obtain⟨b,hb,hbi⟩:=zKd d xs ys w fs (j+1) ks xl yl h5 hx.2 hy.2 (λi=>by have:=hxs (i+1);rw[List.getElem?_cons_succ]at this;rw[←this];congr 1;omega) (λi=>by have:=hys (i+1);rw[List.getElem?_cons_succ]at this;rw[←this];congr 1;omega)
    have hn : ¬ f.name = "_" := by simpa using h1
    obtain⟨r,hr,hri,hus⟩:=yZM (P:=P) d w h4 hx.1 hy.1
    rw[←h2]at mA pX
    simp only[Op.eqFields,hn,ne_eq,not_false_eq_true,if_true,Sem.run_bind,zZv h3 hus mA,zZv h3 hus pX,Result.andThen_ok,hr]
    cases r with
    | true=>exact⟨b,by simpa using hb,by rw[hbi];have:=hri.1 rfl;subst this;simp⟩
    | false=>exact⟨false,by simp,by simp;exact λe=>absurd (hri.2 e) (by simp)⟩
def zWZ(P:Program)(t:TypeId)(ks:List SK):Bool:=match P.underlying t with
 | some (.struct fs)=>zWw P fs.toList 0 ks && !P.stoodInHeld t
 | _=>false
theorem yQ3{t:TypeId}{ks:List SK}(hs:zWZ P t ks=true){xs ys:List Value}(hx:xs.map yZg=ks.map some)(hy:ys.map yZg=ks.map some)(w:World) :
  ∃b,(Op.equalIn (9999+1) t (.agg xs.toArray) (.agg ys.toArray)).run P w=.ok b w/\(b=true ↔ xs=ys):=by
 unfold zWZ at hs
 split at hs
 case h_2=>cases hs
 rename_i fs hu
 simp only[Bool.and_eq_true,Bool.not_eq_true']at hs
 obtain⟨hf,hst⟩:=hs
 have hfo:P.fieldsOf t=fs:=by simp[Program.fieldsOf,hu]
 rw[run_equalIn_struct w 9999 t _ _ (by rw[hfo];exact hu) hst,hfo]
 exact zKd (P:=P) 9998 xs.toArray ys.toArray w fs.toList 0 ks xs ys hf hx hy (λi=>by simp) (λi=>by simp)
theorem yXU{t:TypeId}{ks:List SK}(hs:zWZ P t ks=true)(hm:P.eqGuardType P.depth t=false){x y:Operand}{xs ys:List Value}(hx:xs.map yZg=ks.map some)(hy:ys.map yZg=ks.map some){b:Bool}(hb:b=true ↔ xs=ys)(w:World) :
  (eqS .neq t x y (.agg xs.toArray) (.agg ys.toArray)).run P w=.ok (.bool (!b)) w:=by
 obtain⟨c,hc,hci⟩:=yQ3 hs hx hy w
 have:c=b:=by
  cases c <;> cases b <;> simp_all
 subst this
 exact yKC (run_eqGuard_agg w .neq t x y _ _ hm) (by simp only[binOp];simp[Op.equal,Op.maxDepth]) hc
theorem yYA{t:TypeId}(h:P.underlying t=some .bool)(x y:Operand)(a b:Bool)(w:World):(eqS .neq t x y (.bool a) (.bool b)).run P w=.ok (.bool (!(a == b))) w:=by
 refine yKC rfl (by simp only[binOp];simp[Op.equal,Op.maxDepth]) ?_
 unfold Op.equalIn;simp[zQg h]
end Go.Sh
