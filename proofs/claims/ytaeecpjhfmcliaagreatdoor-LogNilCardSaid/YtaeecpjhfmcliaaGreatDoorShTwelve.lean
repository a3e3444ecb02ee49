import Derived.Test.YtaeecpjhfmcliaaGreatDoorShEleven
import Derived.Laws.StructEq
/- Keys that are structs of strings and numbers. For every program. -/
set_option linter.unusedSectionVars false
set_option linter.unusedSimpArgs false
namespace Go.Sh
open Go.RowKit
variable {P : Program}
def zJK:Value->Option (Option IntKind)
 | .string _=>some none
 | .int k _=>some (some k)
 | _=>none
def yYP:Option TypeDesc->Bool
 | some .string=>true
 | _=>false
def yYS:Option TypeDesc->Option IntKind
 | some (.int q)=>some q
 | _=>none
def scalB(P:Program)(t:TypeId):Option IntKind->Bool
 | none=>yYP (P.underlying t)
 | some q=>yYS (P.underlying t) == some q
def zYH(P:Program):List Field->Nat->List (Option IntKind)->Bool
 | [],_,[]=>true
 | f :: fs, j, k :: ks => !(f.name == "_") && Nat.beq f.offset j && !yZP P f.type && scalB P f.type k && zYH P fs (j + 1) ks
 | _,_,_=>false
theorem zVA{d:Option TypeDesc}(h:yYP d=true):d=some .string:=by unfold yYP at h;split at h <;> simp_all
theorem zVE{d:Option TypeDesc}{q:IntKind}(h:yYS d=some q):d=some (.int q):=by unfold yYS at h;split at h <;> simp_all
theorem zZv {t:TypeId} {cs:Array Value} {o:Nat} {v:Value} {w:World} (ha:yZP P t=false) (hu:(P.underlying t).isSome=true) (hv:cs[o]?=some v):(part t cs o).run P w=.ok v w:=by
 obtain⟨d,hd⟩:=Option.isSome_iff_exists.1 hu
 have h1:(isAgg t).run P w=.ok false w:=by
  rw[←ha]
  simp only[isAgg,Sem.run_bind,zQg hd,Result.andThen_ok,yZP,hd]
  cases d <;> rfl
 simp[part,h1,hv]
theorem zK3(d:Nat)(xs ys:Array Value)(w:World):∀(fs:List Field) (j:Nat) (ks:List (Option IntKind)) (xl yl:List Value),zYH P fs j ks=true->xl.map zJK=ks.map some->yl.map zJK=ks.map some->
  (∀i,xs[j+i]?=xl[i]?)->(∀i,ys[j+i]?=yl[i]?)->∃b,(Op.eqFields (d+1) xs ys fs).run P w=.ok b w/\(b=true ↔ xl=yl)
 | [],j,[],xl,yl,_,hx,hy,_,_=>by
  simp at hx hy;subst hx;subst hy
  exact⟨true,rfl,by simp⟩
 | f :: fs,j,k :: ks,xl,yl,h,hx,hy,hxs,hys=>by
  simp only[zYH,Bool.and_eq_true,Bool.not_eq_true']at h
  obtain⟨⟨⟨⟨h1,h2⟩,h3⟩,h4⟩,h5⟩:=h
  have h2:=Nat.eq_of_beq_eq_true h2
  cases xl with
  | nil=>simp at hx
  | cons x xl=>cases yl with
   | nil=>simp at hy
   | cons y yl=>
    simp only[List.map_cons,List.cons.injEq]at hx hy
    have mA:=hxs 0;have pX:=hys 0
    simp only[Nat.add_zero,List.getElem?_cons_zero]at mA pX
    obtain⟨b,hb,hbi⟩:=zK3 d xs ys w fs (j+1) ks xl yl h5 hx.2 hy.2 (λi=>by have:=hxs (i+1);rw[List.getElem?_cons_succ]at this;rw[←this];congr 1;omega) (λi=>by have:=hys (i+1);rw[List.getElem?_cons_succ]at this;rw[←this];congr 1;omega)
    have hn : ¬ f.name = "_" := by simpa using h1
    have key:∃r,(Op.equalIn (d+1) f.type x y).run P w=.ok r w/\(r=true ↔ x=y)/\(P.underlying f.type).isSome=true:=by
     cases k with
     | none=>
      have hu:=zVA h4
      have hxk:=hx.1;have hyk:=hy.1
      cases x <;> simp[zJK]at hxk
      cases y <;> simp[zJK]at hyk
      refine⟨_,by simp[Op.equalIn,zQg hu];rfl,?_,by rw[hu];rfl⟩
      rw[zXS];simp
     | some q=>
      have hu:=zVE (by simpa[scalB] using h4)
      have hxk:=hx.1;have hyk:=hy.1
      cases x <;> simp[zJK]at hxk
      cases y <;> simp[zJK]at hyk
      subst hxk;subst hyk
      exact⟨_,by simp[Op.equalIn,zQg hu];rfl,by simp,by rw[hu];rfl⟩
    obtain⟨r,hr,hri,hus⟩:=key
    simp only[Op.eqFields,hn,ne_eq,not_false_eq_true,if_true,Sem.run_bind,h2,zZv h3 hus mA,zZv h3 hus pX,Result.andThen_ok,hr]
    cases r with
    | true=>exact⟨b,by simpa using hb,by rw[hbi];have:=hri.1 rfl;subst this;simp⟩
    | false=>exact⟨false,by simp,by simp;exact λe=>absurd (hri.2 e) (by simp)⟩
def zVW (P:Program) (t:TypeId) (ks:List (Option IntKind)):Bool:=match P.underlying t with
 | some (.struct fs)=>zYH P fs.toList 0 ks && !P.stoodInHeld t
 | _=>false
end Go.Sh
