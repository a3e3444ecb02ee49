import Derived.Test.YtaeecpjhfmcliaaGreatDoorShFifteen
import Derived.SizedLaws
/- What a call is handed, read as data: for each type that reads so, its cells read as the list, the number, the text that they are. For every program. -/
set_option linter.unusedSectionVars false
set_option linter.unusedSimpArgs false
namespace Go.Sh
open Go.ChangeShapes Go.WideShapes Go.ChangeAt Go.RowKit
variable {P : Program}
class Lim (α:Type) where
 ok:α->Prop
instance:Lim Int:=⟨λn=>-9223372036854775808<=n/\n<=9223372036854775807⟩
instance:Lim ByteArray:=⟨λs=>s.size<=140737488355328⟩
instance:Lim UInt8:=⟨λ_=>True⟩
instance:Lim Bool:=⟨λ_=>True⟩
instance {α:Type}[Lim α]:Lim (List α):=⟨λl=>∀x ∈ l,Lim.ok x⟩
def zKx(P:Program)(t:TypeId)(α:Type)[Enc α][Lim α]:Prop:=∀(H:Type) (enc:TypeId × Value->H) (w:World) (base:Nat) (sp:Nat->Bool) (held:Bool) (fuel:Nat) (cs:List Value) (x:DataW H × List MemPlace),
 DataW.trod enc P w base sp held fuel t cs=some x->(∀n ∈ x.1.weights P t,n<=reachBytes)->∃a:α,Enc.rd w cs a/\Lim.ok a
theorem yKI:reachBytes<=140737488355328:=by decide
theorem zXF {t:TypeId} (ht:P.underlying t=some (.int .i64)):zKx P t Int:=λH enc w base sp held fuel cs x h _=>by
 obtain⟨n,rfl,rfl,hw⟩:=DataW.trod_int ht h
 have hw:-9223372036854775808<=n/\n<=9223372036854775807:=by
  simp only[Lit.wf,Bool.and_eq_true,decide_eq_true_eq]at hw
  have e1:IntKind.i64.min=-9223372036854775808:=by decide
  have e2:IntKind.i64.max=9223372036854775807:=by decide
  rw[e1,e2]at hw
  exact hw
 exact⟨n,⟨rfl,hw⟩,hw⟩
theorem zWB{t:TypeId}(ht:P.underlying t=some .string):zKx P t ByteArray:=λH enc w base sp held fuel cs x h hr=>by
 obtain⟨s,rfl,rfl,hw⟩:=DataW.trod_string ht h
 refine⟨s,rfl,?_⟩
 have:=hr s.data.toList.length (by simp[DataW.weights])
 have h2:=yKI
 have h3:s.data.toList.length=s.size:=by first|(simp;done)|(simp;rfl)
 show s.size<=_
 omega
theorem zKY{H:Type}{P:Program}{e:TypeId}:∀{ds:List (DataW H)} {d:DataW H},d ∈ ds->∀n ∈ d.weights P e,n ∈ DataW.weightsAll P e ds
 | d0 :: ds,d,hd,n,hn=>by
  simp only[DataW.weightsAll,List.mem_append]
  rcases List.mem_cons.1 hd with rfl|h
  ·exact .inl hn
  ·exact .inr (zKY h n hn)
theorem zZ1 {t e:TypeId} {α:Type} [Enc α] [Lim α] (ht:P.underlying t=some (.slice e)) (hc:P.cellsOf e=Enc.sz α) (hb:0<P.bytesOf e) (he:zKx P e α):zKx P t (List α):=λH enc w base sp held fuel cs x h hr=>by
 rcases DataW.trod_slice ht h with⟨rfl,rfl⟩|⟨a,len,cap,elems,rest,n,_,rfl,rfl,tP,hl,hm,hlen,hel,hsp,hns⟩
 ·exact⟨[],⟨⟨none,0,0⟩,rfl,zX3.nil w none 0⟩,λx hx=>by simp at hx⟩
 ·have hw:(elems.length+rest.length) * P.bytesOf e<=reachBytes:=by
   exact hr _ (by simp[DataW.weights,ht])
  have hlen':len<=140737488355328:=by
   have h2:=yKI
   have:elems.length+rest.length<=(elems.length+rest.length) * P.bytesOf e:=Nat.le_mul_of_pos_right _ hb
   omega
  have each:∀i,i<len->∃x:α,(∃vs,Enc.rd w vs x/\zJv w (a.add (i * Enc.sz α)) vs)/\Lim.ok x:=λi hi=>by
   have hi':i<elems.length:=by omega
   have key:=hel i hi
   rw[List.getElem?_eq_getElem hi']at key
   obtain⟨cs',h1,h2⟩:=Option.bind_eq_some_iff.1 key
   have hin:∀m ∈ (elems[i]).1.weights P e,m<=reachBytes:=λm hm=>hr m (by
    simp only[DataW.weights,ht,List.mem_cons,List.mem_append]
    exact .inr (.inl (zKY (List.mem_map_of_mem (List.getElem_mem hi')) m hm)))
   obtain⟨x,hx,hlx⟩:=he H enc w base sp held n cs' _ h2 hin
   obtain⟨_,qJ,hcell⟩:=World.cells?_some h1
   refine⟨x,⟨cs',hx,λj v hv=>?_⟩,hlx⟩
   have hj:j<cs'.length:=(List.getElem?_eq_some_iff.1 hv).1
   rw[←hc,hcell j (by omega),hv]
  by_cases h0:len=0
  ·subst h0
   exact⟨[],⟨⟨some a,0,cap⟩,rfl,zX3.nil w (some a) cap⟩,λx hx=>by simp at hx⟩
  obtain⟨x0,_⟩:=each 0 (by omega)
  obtain⟨f,hf⟩:∃f:Nat->α,∀i,i<len->(∃vs,Enc.rd w vs (f i)/\zJv w (a.add (i * Enc.sz α)) vs)/\Lim.ok (f i):=
   ⟨λi=>if h:i<len then(each i h).choose else x0,λi hi=>by
    simp only[hi,dif_pos];exact(each i hi).choose_spec⟩
  refine⟨(List.range len).map f,⟨⟨some a,len,cap⟩,rfl,⟨by simp,hl,hlen',λi x hx=>?_⟩⟩,λx hx=>?_⟩
  ·simp only[List.getElem?_map]at hx
   obtain⟨k,hk,rfl⟩:=Option.map_eq_some_iff.1 hx
   have hi:i<len:=by have:=(List.getElem?_eq_some_iff.1 hk).1;simpa using this
   have:k=i:=by rw[List.getElem?_range hi]at hk;exact(Option.some.inj hk).symm
   subst this
   obtain⟨⟨vs,h1,h2⟩,_⟩:=hf k hi
   exact⟨a,rfl,vs,h1,h2⟩
  ·simp only[List.mem_map,List.mem_range]at hx
   obtain⟨i,hi,rfl⟩:=hx
   exact(hf i hi).2
theorem xZ4{t:TypeId}{w:World}{r:Reach}{b:Nat}{v:Value}(ha:yJc P t=false)(h:Value.okWide P w r b t v):v.cells.toList=[v]:=by
 have hc:Cell.okWide P w r b t v:=by
  unfold Value.okWide at h
  unfold yJc at ha
  split at h
  ·rename_i hu;rw[hu]at ha;simp at ha
  ·rename_i hu;rw[hu]at ha;simp at ha
  ·exact h
 cases v <;> first|rfl|skip
 all_goals
  exfalso
  unfold Cell.okWide at hc
  split at hc <;> first|(rename_i h2;simp at h2;done)|skip
  unfold Cell.ok at hc
  split at hc <;> first|exact hc.elim|simp_all
theorem xJB {H:Type} {enc:TypeId × Value->H} {α:Type} [Enc α] [Lim α] {t:TypeId} {ts:List TypeId} {w:World} {r:Reach} {b0 base:Nat} {sp:Nat->Bool} {held:Bool} {v:Value} {d:DataW H} {ps:List MemPlace} {ds:List (DataW H)} {j:Nat} (ho:zKx P t α) (ha:yJc P t=false)
  (hv:Value.okWide P w r b0 t v) (hd:DataW.Trod enc P w base sp held t v d ps) (hz:(DataW.weightsEach P ts ds).all (·<=reachBytes)=true) (h1:ts[j]?=some t) (h2:ds[j]?=some d):∃a:α,Enc.rd w [v] a/\Lim.ok a:=by
 obtain⟨fuel,hf⟩:=hd
 rw[xZ4 ha hv]at hf
 exact ho H enc w base sp held fuel [v] (d,ps) hf λn hn=>by
  have:=List.all_eq_true.1 hz _ (DataW.weights_mem_each h1 h2 n hn)
  simpa using this
end Go.Sh
