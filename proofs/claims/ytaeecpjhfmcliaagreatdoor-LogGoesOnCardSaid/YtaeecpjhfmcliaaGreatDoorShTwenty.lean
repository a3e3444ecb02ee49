import Derived.Test.YtaeecpjhfmcliaaGreatDoorShSeventeen
/- A struct that is handed in, field by field, each of one cell. For every program. -/
set_option linter.unusedVariables false
set_option linter.unusedSimpArgs false
namespace Go.Sh
open Go.ChangeShapes Go.WideShapes Go.ChangeAt Go.RowKit
variable {P : Program}
def fieldsOf(P:Program)(t:TypeId):Option (List (TypeId × Nat)):=match P.underlying t with
 | some (.struct fs)=>some (fs.toList.map λf=>(f.type,f.offset))
 | _=>none
theorem zZX {H:Type} {enc:TypeId × Value->H} {w:World} {base:Nat} {sp:Nat->Bool} {held:Bool} {t:TypeId} {ts:List (TypeId × Nat)} (hf:fieldsOf P t=some ts) (hoff:ts.map Prod.snd=List.range ts.length) (hone:∀p ∈ ts,P.cellsOf p.1=1) (hc:P.cellsOf t=ts.length)
  {fuel:Nat} {cs:List Value} {x:DataW H × List MemPlace} (h:DataW.trod enc P w base sp held fuel t cs=some x) :
  cs.length=ts.length/\∀(i:Nat) (ti:TypeId × Nat),ts[i]?=some ti->∃n v d,cs[i]?=some v/\DataW.trod enc P w base sp held n ti.1 [v]=some d/\∀m ∈ d.1.weights P ti.1,m ∈ x.1.weights P t:=by
 unfold fieldsOf at hf
 split at hf
 case h_2=>cases hf
 rename_i fs hu
 have hf:fs.toList.map (λf=>(f.type,f.offset))=ts:=Option.some.inj hf
 obtain⟨xs,n,_,rfl,hlen,hxl,hxs⟩:=DataW.trod_struct hu h
 refine⟨by rw[hlen,hc],λi ti hti=>?_⟩
 have hfl:fs.size=ts.length:=by rw[←hf];simp
 have hi:i<ts.length:=(List.getElem?_eq_some_iff.1 hti).1
 obtain⟨f,hfi⟩:∃f,fs[i]?=some f:=⟨_,Array.getElem?_eq_getElem (by omega)⟩
 have e1:ti=(f.type,f.offset):=by
  rw[←hf,List.getElem?_map]at hti
  rw[Array.getElem?_toList,hfi]at hti
  exact(Option.some.inj hti).symm
 have e2:f.offset=i:=by
  have h1:(ts.map Prod.snd)[i]?=some f.offset:=by rw[List.getElem?_map,hti,e1];rfl
  rw[hoff,List.getElem?_range hi]at h1
  exact(Option.some.inj h1).symm
 have hk:=hxs i f hfi
 have ho:P.cellsOf f.type=1:=by have:=hone ti (List.mem_of_getElem? hti);rw[e1]at this;exact this
 have hci:i<cs.length:=by rw[hlen,hc];exact hi
 rw[ho,e2,List.drop_eq_getElem_cons hci]at hk
 simp only[List.take_succ_cons,List.take_zero]at hk
 have hxi:i<xs.length:=by omega
 refine⟨n,cs[i],xs[i],List.getElem?_eq_getElem hci,?_,λm hm=>?_⟩
 ·rw[e1,hk,List.getElem?_eq_getElem hxi]
 ·simp only[DataW.weights,hu]
  refine DataW.weights_mem_each (j:=i) (t:=f.type) (d:=(xs[i]).1) ?_ ?_ m ?_
  ·rw[List.getElem?_map,Array.getElem?_toList,hfi];rfl
  ·rw[List.getElem?_map,List.getElem?_eq_getElem hxi];rfl
  ·rw[e1]at hm;exact hm
theorem zXi {α:Type} [Enc α] [Lim α] {H:Type} {enc:TypeId × Value->H} {w:World} {base:Nat} {sp:Nat->Bool} {held:Bool} {t:TypeId} (ho:zKx P t α) {n:Nat} {v:Value} {d:DataW H × List MemPlace} (h:DataW.trod enc P w base sp held n t [v]=some d)
  (hr:∀m ∈ d.1.weights P t,m<=reachBytes):∃a:α,Enc.rd w [v] a/\Lim.ok a:=ho H enc w base sp held n [v] d h hr
end Go.Sh
