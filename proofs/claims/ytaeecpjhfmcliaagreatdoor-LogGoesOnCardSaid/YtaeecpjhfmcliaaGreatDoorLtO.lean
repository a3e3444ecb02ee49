import Derived.Test.YtaeecpjhfmcliaaGreatDoorLgOwA
import Derived.Test.YtaeecpjhfmcliaaGreatDoorShTwenty
import Derived.Test.YtaeecpjhfmcliaaGreatDoorProg
/- Table: fields, values, records and tables that are handed in. No condition. -/
set_option maxRecDepth 100000
set_option linter.unusedVariables false
namespace Go.Proofs.YtaeecpjhfmcliaaGreatDoor
open Go.ChangeShapes Go.WideShapes Go.ChangeAt Go.RowKit Go.Sh
theorem yQT{P:Program}{t:TypeId}(ht:P.underlying t=some .bool):zKx P t Bool:=λH enc w base sp held fuel cs x h _=>by
 obtain⟨b,rfl,rfl⟩:=DataW.trod_bool ht h
 exact⟨b,rfl,trivial⟩
theorem xZg:zKx Tryz.prog 129 Fld:=λH enc w base sp held fuel cs x h hr=>by
 obtain⟨hl,hF⟩:=zZX (P:=Tryz.prog) (t:=129) (ts:=[(9,0),(3,1),(3,2),(4,3)]) (by kernel_rfl) (by rfl) (λp hp=>by
  simp only[List.mem_cons,List.not_mem_nil,or_false]at hp
  rcases hp with rfl|rfl|rfl|rfl <;> kernel_rfl) (by kernel_rfl) h
 obtain⟨n0,v0,d0,c0,t0,w0⟩:=hF 0 _ rfl
 obtain⟨n1,v1,d1,c1,t1,w1⟩:=hF 1 _ rfl
 obtain⟨n2,v2,d2,c2,t2,w2⟩:=hF 2 _ rfl
 obtain⟨n3,v3,d3,c3,t3,w3⟩:=hF 3 _ rfl
 obtain⟨x0,r0,l0⟩:=zXi (zWB (by kernel_rfl)) t0 λm hm=>hr m (w0 m hm)
 obtain⟨x1,r1,l1⟩:=zXi (zXF (by kernel_rfl)) t1 λm hm=>hr m (w1 m hm)
 obtain⟨x2,r2,l2⟩:=zXi (zXF (by kernel_rfl)) t2 λm hm=>hr m (w2 m hm)
 obtain⟨x3,r3,l3⟩:=zXi (yQT (by kernel_rfl)) t3 λm hm=>hr m (w3 m hm)
 have r0:[v0]=[.string x0]:=r0
 have r3:[v3]=[.bool x3]:=r3
 obtain⟨r1,b1⟩:=r1
 obtain⟨r2,b2⟩:=r2
 simp only[List.cons.injEq,and_true]at r0 r1 r2 r3
 subst r0 r1 r2 r3
 refine⟨⟨x0,x1,x2,x3⟩,⟨?_,b1,b2⟩,l0⟩
 have hl:cs.length=4:=hl
 apply List.ext_getElem?
 intro i
 match i with
 | 0=>exact c0
 | 1=>exact c1
 | 2=>exact c2
 | 3=>exact c3
 | k+4=>rw[List.getElem?_eq_none (by omega)];rfl
theorem yZv:zKx Tryz.prog 73 Val:=λH enc w base sp held fuel cs x h hr=>by
 obtain⟨hl,hF⟩:=zZX (P:=Tryz.prog) (t:=73) (ts:=[(3,0),(3,1),(9,2)]) (by kernel_rfl) (by rfl) (λp hp=>by
  simp only[List.mem_cons,List.not_mem_nil,or_false]at hp
  rcases hp with rfl|rfl|rfl <;> kernel_rfl) (by kernel_rfl) h
 obtain⟨n0,v0,d0,c0,t0,w0⟩:=hF 0 _ rfl
 obtain⟨n1,v1,d1,c1,t1,w1⟩:=hF 1 _ rfl
 obtain⟨n2,v2,d2,c2,t2,w2⟩:=hF 2 _ rfl
 obtain⟨x0,r0,l0⟩:=zXi (zXF (by kernel_rfl)) t0 λm hm=>hr m (w0 m hm)
 obtain⟨x1,r1,l1⟩:=zXi (zXF (by kernel_rfl)) t1 λm hm=>hr m (w1 m hm)
 obtain⟨x2,r2,l2⟩:=zXi (zWB (by kernel_rfl)) t2 λm hm=>hr m (w2 m hm)
 have r2:[v2]=[.string x2]:=r2
 obtain⟨r0,b0⟩:=r0
 obtain⟨r1,b1⟩:=r1
 simp only[List.cons.injEq,and_true]at r0 r1 r2
 subst r0 r1 r2
 refine⟨⟨x0,x1,x2⟩,⟨?_,b0,b1⟩,l2⟩
 have hl:cs.length=3:=hl
 apply List.ext_getElem?
 intro i
 match i with
 | 0=>exact c0
 | 1=>exact c1
 | 2=>exact c2
 | k+3=>rw[List.getElem?_eq_none (by omega)];rfl
theorem yZr:zKx Tryz.prog 67 Rec:=λH enc w base sp held fuel cs x h hr=>by
 obtain⟨hl,hF⟩:=zZX (P:=Tryz.prog) (t:=67) (ts:=[(4,0),(38,1)]) (by kernel_rfl) (by rfl) (λp hp=>by
  simp only[List.mem_cons,List.not_mem_nil,or_false]at hp
  rcases hp with rfl|rfl <;> kernel_rfl) (by kernel_rfl) h
 obtain⟨n0,v0,d0,c0,t0,w0⟩:=hF 0 _ rfl
 obtain⟨n1,v1,d1,c1,t1,w1⟩:=hF 1 _ rfl
 obtain⟨x0,r0,l0⟩:=zXi (yQT (by kernel_rfl)) t0 λm hm=>hr m (w0 m hm)
 obtain⟨x1,r1,l1⟩:=zXi (zZ1 (t:=38) (e:=73) (by kernel_rfl) (by kernel_rfl) (of_decide_eq_true (by kernel_rfl)) yZv) t1 λm hm=>hr m (w1 m hm)
 have r0:[v0]=[.bool x0]:=r0
 obtain⟨s1,e1,r1⟩:=r1
 simp only[List.cons.injEq,and_true]at r0 e1
 subst r0 e1
 refine⟨⟨x0,x1⟩,⟨s1,?_,r1⟩,l1⟩
 have hl:cs.length=2:=hl
 apply List.ext_getElem?
 intro i
 match i with
 | 0=>exact c0
 | 1=>exact c1
 | k+2=>rw[List.getElem?_eq_none (by omega)];rfl
theorem yVT:zKx Tryz.prog 32 (List Fld):=zZ1 (t:=32) (e:=129) (by kernel_rfl) (by kernel_rfl) (of_decide_eq_true (by kernel_rfl)) xZg
theorem yYK:zKx Tryz.prog 35 Tbl:=λH enc w base sp held fuel cs x h hr=>by
 obtain⟨hl,hF⟩:=zZX (P:=Tryz.prog) (t:=35) (ts:=[(3,0),(32,1),(33,2)]) (by kernel_rfl) (by rfl) (λp hp=>by
  simp only[List.mem_cons,List.not_mem_nil,or_false]at hp
  rcases hp with rfl|rfl|rfl <;> kernel_rfl) (by kernel_rfl) h
 obtain⟨n0,v0,d0,c0,t0,w0⟩:=hF 0 _ rfl
 obtain⟨n1,v1,d1,c1,t1,w1⟩:=hF 1 _ rfl
 obtain⟨n2,v2,d2,c2,t2,w2⟩:=hF 2 _ rfl
 obtain⟨x0,r0,l0⟩:=zXi (zXF (by kernel_rfl)) t0 λm hm=>hr m (w0 m hm)
 obtain⟨x1,r1,l1⟩:=zXi yVT t1 λm hm=>hr m (w1 m hm)
 obtain⟨x2,r2,l2⟩:=zXi (zZ1 (t:=33) (e:=67) (by kernel_rfl) (by kernel_rfl) (of_decide_eq_true (by kernel_rfl)) yZr) t2 λm hm=>hr m (w2 m hm)
 obtain⟨r0,b0⟩:=r0
 obtain⟨s1,e1,r1⟩:=r1
 obtain⟨s2,e2,r2⟩:=r2
 simp only[List.cons.injEq,and_true]at r0 e1 e2
 subst r0 e1 e2
 refine⟨⟨x0,x1,x2⟩,⟨s1,s2,?_,⟨b0,r1,r2⟩⟩,⟨l1,l2⟩⟩
 have hl:cs.length=3:=hl
 apply List.ext_getElem?
 intro i
 match i with
 | 0=>exact c0
 | 1=>exact c1
 | 2=>exact c2
 | k+3=>rw[List.getElem?_eq_none (by omega)];rfl
theorem yK6 {P:Program} {H:Type} {enc:TypeId × Value->H} {α:Type} [Enc α] [Lim α] {t:TypeId} {ts:List TypeId} {w:World} {r:Reach} {b0 base:Nat} {sp:Nat->Bool} {held:Bool} {v:Value} {d:DataW H} {ps:List MemPlace} {ds:List (DataW H)} {j:Nat} (ho:zKx P t α) (ha:yJc P t=true)
  (hv:Value.okWide P w r b0 t v) (hd:DataW.Trod enc P w base sp held t v d ps) (hz:(DataW.weightsEach P ts ds).all (·<=reachBytes)=true) (h1:ts[j]?=some t) (h2:ds[j]?=some d):∃cs:List Value,v=.agg cs.toArray/\∃a:α,Enc.rd w cs a/\Lim.ok a:=by
 obtain⟨fuel,hf⟩:=hd
 obtain⟨cs,rfl⟩:∃cs,v=.agg cs:=by
  unfold Value.okWide at hv
  unfold yJc at ha
  split at hv
  ·obtain⟨cs,h,_⟩:=hv;exact⟨cs,h⟩
  ·obtain⟨cs,h,_⟩:=hv;exact⟨cs,h⟩
  ·rename_i h3 h4
   split at ha
   ·rename_i h5;exact absurd h5 (h3 _)
   ·rename_i h5;exact absurd h5 (h4 _ _)
   ·cases ha
 refine⟨cs.toList,rfl,ho H enc w base sp held fuel cs.toList (d,ps) hf λn hn=>?_⟩
 have:=List.all_eq_true.1 hz _ (DataW.weights_mem_each h1 h2 n hn)
 simpa using this
end Go.Proofs.YtaeecpjhfmcliaaGreatDoor
