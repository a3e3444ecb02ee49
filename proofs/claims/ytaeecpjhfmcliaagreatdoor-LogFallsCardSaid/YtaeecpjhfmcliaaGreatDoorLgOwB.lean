import Derived.Test.YtaeecpjhfmcliaaGreatDoorLgOwA
import Derived.Test.YtaeecpjhfmcliaaGreatDoorLgPrA
import Derived.Test.YtaeecpjhfmcliaaGreatDoorShSixteen
import Derived.Lib.BufferWrite
import Derived.Lib.AppendStr
/- Table: what a value becomes in a field, the reference. No condition. -/
set_option maxRecDepth 100000
set_option linter.unusedVariables false
set_option linter.unusedSimpArgs false
namespace Go.Proofs.YtaeecpjhfmcliaaGreatDoor
open Go.Sh Go.RowKit Tryz
theorem yZp(l:List UInt8)(s:ByteArray):bs l=s ↔ l=s.data.toList:=by
 constructor
 ·intro h;rw[←h]
 ·intro h;rw[h]
theorem xZ6(n:Int)(w:World):Calls prog 133 #[.int .i64 n] w λe w'=>e=.returned (.bool (zVG n))/\Pu w w':=by
 refine yVF _ w _ (Br.of (λd=>?_) (λd=>?_))
 ·exact⟨by rw[zVG,decide_eq_true (show 0<=n from zQk d)];rfl,Pu.refl w⟩
 ·exact⟨by rw[zVG,decide_eq_false (show ¬0<=n from zQd d)];rfl,Pu.refl w⟩
theorem xXy(f:Fld)(p:Int)(v:Val)(w:World):Calls prog 93 #[yQb f,.int .i64 p,zJA v] w λe w'=>e=.returned (.bool (zQO f p v))/\Pu w w':=by
 refine yYz _ _ _ _ _ _ _ _ w _ ?_
 refine alB λw1 aq ay=>alB λw2 ar aN=>?_
 have aF:=aq.trans ar
 have b1:∀{wz},Pu w2 wz->wz.heap[w.heap.size]?=some (.cells #[.string f.name,.int .i64 f.kind,.int .i64 f.width,.bool f.null] 129):=λh=>h.blk (ar.blk ay)
 have b2:∀{wz},Pu w2 wz->wz.heap[w1.heap.size]?=some (.cells #[.int .i64 v.kind,.int .i64 v.n,.string v.s] 73):=λh=>h.blk aN
 have q0:=b2 (Pu.refl w2)
 refine⟨_,cl q0 0,_,cl q0 1,_,cl q0 2,(yJM v w2).mono ?_⟩
 rintro e w3 ⟨rfl,ax⟩
 have aV:=aF.trans ax
 have out:∀{wz:World} {b:Bool},Pu w wz->zQO f p v=b->(Ending.returned (Value.bool b)=Ending.returned (Value.bool (zQO f p v))/\Pu w wz):=λh1 h2=>⟨by rw[h2],h1⟩
 refine⟨_,rfl,Br.of (λd=>out aV (by unfold zQO;rw[if_pos (zQ1 d)])) (λd=>?_)⟩
 have hv:=zQs d
 have mT:¬zXi v ≠ 0:=by omega
 obtain⟨hvs,hvn,hv4⟩:=zKK hv
 refine⟨_,cl0 (b2 ax),Br.of (λd0=>⟨_,cl (b1 ax) 3,out aV (by unfold zQO;rw[if_neg mT,if_pos (zQE d0)])⟩) (λd0=>⟨_,cl (b1 ax) 1,Br.of (λd1=>?_) (λd1=>?_)⟩)⟩
 ·refine⟨_,cl0 (b2 ax),Br.of (λd2=>⟨_,cl (b2 ax) 1,(xZ6 v.n w3).mono ?_⟩) (λd2=>out aV ?_)⟩
  ·rintro e w4 ⟨rfl,aK⟩
   exact⟨_,rfl,out (aV.trans aK) (by unfold zQO;rw[if_neg mT,if_neg (zQm d0),if_pos (zQE d1),decide_eq_true (zQE d2)];rfl)⟩
  ·unfold zQO;rw[if_neg mT,if_neg (zQm d0),if_pos (zQE d1),decide_eq_false (zQm d2)];rfl
 have e0:zQO f p v=if v.kind ≠ f.kind then false else if f.kind=2 then decide (((zJh v.n).length:Int)<=f.width)else if f.kind=4 then decide ((v.s.size:Int)<=f.width) && decide (zZw v.s.data.toList=v.s.data.toList) && zXO v.s.data.toList p else true:=by
  unfold zQO;rw[if_neg mT,if_neg (zQm d0),if_neg (zQm d1)]
 refine⟨_,cl0 (b2 ax),_,cl (b1 ax) 1,Br.of (λd2=>out aV (by rw[e0,if_pos (zQ1 d2)])) (λd2=>⟨_,cl (b1 ax) 1,Br.of (λd3=>?_) (λd3=>⟨_,cl (b1 ax) 1,Br.of (λd4=>?_) (λd4=>out aV ?_)⟩)⟩)⟩
 ·have d2:=zQs d2
  have d3:=zQE d3
  have hn:zZL v.n:=by rw[d2,d3]at hvn;simp[okN]at hvn;exact⟨by omega,by omega⟩
  refine zQc λw4 aK _=>⟨λu=>Pu w4 u,Pu.refl _,v.n,λu hu=>cl (b2 ((ax.trans aK).trans hu)) 1,f.width,λu hu=>cl (b1 ((ax.trans aK).trans hu)) 2,(xQh hn w4).mono ?_⟩
  rintro e w5 ⟨rfl,aU⟩
  refine⟨_,rfl,aU,out ((aV.trans aK).trans aU) ?_⟩
  rw[e0,if_neg (by rw[d2];simp),if_pos d3,zQ8]
 ·have d2:=zQs d2
  have d3:=zQm d3
  have d4:=zQE d4
  have e1:zQO f p v=(decide ((v.s.size:Int)<=f.width) && decide (zZw v.s.data.toList=v.s.data.toList) && zXO v.s.data.toList p):=by
   rw[e0,if_neg (by rw[d2];simp),if_neg d3,if_pos d4]
  refine zQc λw4 aK _=>⟨λu=>Pu w4 u,Pu.refl _,v.s,λu hu=>cl (b2 ((ax.trans aK).trans hu)) 2,f.width,λu hu=>cl (b1 ((ax.trans aK).trans hu)) 2,Br.of (λd5=>?_) (λd5=>out (aV.trans aK) ?_)⟩
  ·refine⟨v.s,λu hu=>cl (b2 ((ax.trans aK).trans hu)) 2,v.s,λu hu=>cl (b2 ((ax.trans aK).trans hu)) 2,(xXS v.s (by omega) w4).mono ?_⟩
   rintro e w5 ⟨rfl,aU⟩
   refine⟨_,rfl,aU,?_⟩
   rw[zX7]
   have hbe:(bs (zZw v.s.data.toList)=v.s) ↔ zZw v.s.data.toList=v.s.data.toList:=yZp _ _
   refine Br.of (λd6=>⟨v.s,λu hu=>cl (b2 ((ax.trans aK).trans hu)) 2,(yQ6 v.s (by omega) p w5).mono ?_⟩) (λd6=>out ((aV.trans aK).trans aU) ?_)
   ·rintro e w6 ⟨rfl,bC⟩
    refine⟨_,rfl,out (((aV.trans aK).trans aU).trans bC) ?_⟩
    rw[e1,decide_eq_true (zQk d5),decide_eq_true (hbe.1 (zQk d6))];rfl
   ·rw[e1,decide_eq_false (λh=>zQd d6 (hbe.2 h))];simp
  ·rw[e1,decide_eq_false (zQd d5)];rfl
 ·rw[e0,if_neg (by rw[zQs d2];simp),if_neg (zQm d3),if_neg (zQm d4)]
theorem yYW(f:Fld)(p:Int)(v:Val)(hfB:zQn f=true)(hvs:v.s.size<=140737488355328)(w:World):Calls prog 139 #[yQb f,.int .i64 p,zJA v] w λe w'=>
  e=.returned (.tuple #[zJA (zQQ f p v).1,.int .i64 (zQQ f p v).2])/\Pu w w':=by
 refine yWF _ _ _ _ _ _ _ _ w _ ?_
 refine alB λw1 aq ay=>alB λw2 ar aN=>alB λw3 ax br=>?_
 have z1:w1.heap.size<=w2.heap.size:=ar.size
 have z0:w.heap.size<=w1.heap.size:=aq.size
 have aV:Pu w w3:=(aq.trans ar).trans ax
 have out:∀{wz:World} (v':Val) (k:Int) {c:Array Value},Pu w wz->wz.heap[w2.heap.size]?=some (.cells c 73)->c.size=3->zQQ f p v=(v',k)->
   stA prog 73 (⟨w2.heap.size,0,none⟩:Addr) #[.int .i64 v'.kind,.int .i64 v'.n,.string v'.s] wz λw'=>∃n0:Int,w'.cell? ((⟨w2.heap.size,0,none⟩:Addr).add 0)=some (.int .i64 n0)/\∃n1:Int,w'.cell? ((⟨w2.heap.size,0,none⟩:Addr).add 1)=some (.int .i64 n1)/\
    ∃s2:ByteArray,w'.cell? ((⟨w2.heap.size,0,none⟩:Addr).add 2)=some (.string s2)/\(Ending.returned (.tuple #[.agg #[.int .i64 n0,.int .i64 n1,.string s2],.int .i64 k])=.returned (.tuple #[zJA (zQQ f p v).1,.int .i64 (zQQ f p v).2])/\Pu w w'):=λ{wz} v' k {c} h1 h2 h3 h4=>
  retV (R:=λe w'=>e=.returned (.tuple #[zJA (zQQ f p v).1,.int .i64 (zQQ f p v).2])/\Pu w w') v' k h2 h3 λw' hf=>⟨by rw[h4],h1.andNew hf λi hi=>by have hi:i=w2.heap.size:=hi;omega⟩
 have b1:∀{wz},Pu w3 wz->wz.heap[w.heap.size]?=some (.cells #[.string f.name,.int .i64 f.kind,.int .i64 f.width,.bool f.null] 129):=λh=>h.blk (ax.blk (ar.blk ay))
 have b2:∀{wz},Pu w3 wz->wz.heap[w1.heap.size]?=some (.cells #[.int .i64 v.kind,.int .i64 v.n,.string v.s] 73):=λh=>h.blk (ax.blk aN)
 have b3:∀{wz},Pu w3 wz->wz.heap[w2.heap.size]?=some (.cells #[.int .i64 0,.int .i64 0,.string ⟨#[]⟩] 73):=λh=>h.blk br
 have q1:=b1 (Pu.refl w3)
 have q2:=b2 (Pu.refl w3)
 have q3:=b3 (Pu.refl w3)
 refine⟨_,cl0 q2,Br.of (λd0=>⟨_,cl q1 3,Br.of (λd1=>out noV 7 aV q3 rfl ?_) (λd1=>⟨_,cl q2 0,_,cl q2 1,_,cl q2 2,out v 0 aV q3 rfl ?_⟩)⟩) (λd0=>⟨_,cl q1 1,?_⟩)⟩
 ·unfold zQQ;rw[if_pos (zQE d0),show f.null=false by simpa using d1];rfl
 ·unfold zQQ;rw[if_pos (zQE d0),show f.null=true by simpa using d1];rfl
 have d0:=zQm d0
 -- behind the question for the kind
 have rest:v.kind=(zXp f).kind->∀(m:Int),f.kind=m->
   Br (m == 4) (∃qR:ByteArray,w3.cell? ((⟨w1.heap.size,0,none⟩:Addr).add 2)=some (.string qR)/\∃tD:ByteArray,w3.cell? ((⟨w1.heap.size,0,none⟩:Addr).add 2)=some (.string tD)/\∃i6:Int,w3.cell? ((⟨w.heap.size,0,none⟩:Addr).add 2)=some (.int .i64 i6)/\
    ∃iv:Int,∃aO:World,(Builtin.min_ #[3,3] 3 #[.int .i64 ((tD.size:Nat):Int),.int .i64 i6]).run prog w3=.ok (.int .i64 iv) aO/\0<=iv/\iv.toNat<=qR.size/\0<=iv.toNat/\
    Calls prog 135 #[.string (qR.extract 0 iv.toNat)] aO λe aR=>∃qS:ByteArray,e=.returned (.string qS)/\Calls prog 136 #[.string qS,.int .i64 p] aR λe aM=>∃qM:Bool,e=.returned (.bool qM)/\
    Br (!qM) (stA prog 73 (⟨w2.heap.size,0,none⟩:Addr) #[.int .i64 0,.int .i64 0,.string (⟨#[]⟩:ByteArray)] aM λaH=>∃ag:Int,aH.cell? ((⟨w2.heap.size,0,none⟩:Addr).add 0)=some (.int .i64 ag)/\∃aj:Int,aH.cell? ((⟨w2.heap.size,0,none⟩:Addr).add 1)=some (.int .i64 aj)/\∃ak:ByteArray,aH.cell? ((⟨w2.heap.size,0,none⟩:Addr).add 2)=some (.string ak)/\
      (Ending.returned (.tuple #[.agg #[.int .i64 ag,.int .i64 aj,.string ak],.int .i64 10])=.returned (.tuple #[zJA (zQQ f p v).1,.int .i64 (zQQ f p v).2])/\Pu w aH)) (
     Calls prog 177 #[.string qS] aM λe bt=>∃gg:Int,∃gh:Int,∃gi:ByteArray,e=.returned (.agg #[.int .i64 gg,.int .i64 gh,.string gi])/\
     stA prog 73 (⟨w2.heap.size,0,none⟩:Addr) #[.int .i64 gg,.int .i64 gh,.string gi] bt λbB=>∃ag:Int,bB.cell? ((⟨w2.heap.size,0,none⟩:Addr).add 0)=some (.int .i64 ag)/\∃aj:Int,bB.cell? ((⟨w2.heap.size,0,none⟩:Addr).add 1)=some (.int .i64 aj)/\∃ak:ByteArray,bB.cell? ((⟨w2.heap.size,0,none⟩:Addr).add 2)=some (.string ak)/\
      (Ending.returned (.tuple #[.agg #[.int .i64 ag,.int .i64 aj,.string ak],.int .i64 0])=.returned (.tuple #[zJA (zQQ f p v).1,.int .i64 (zQQ f p v).2])/\Pu w bB))) (
    ∃jw:ByteArray,w3.cell? ((⟨w.heap.size,0,none⟩:Addr).add 0)=some (.string jw)/\∃cG:Int,w3.cell? ((⟨w.heap.size,0,none⟩:Addr).add 1)=some (.int .i64 cG)/\∃jx:Int,w3.cell? ((⟨w.heap.size,0,none⟩:Addr).add 2)=some (.int .i64 jx)/\∃jy:Bool,w3.cell? ((⟨w.heap.size,0,none⟩:Addr).add 3)=some (.bool jy)/\
    ∃gx:Int,w3.cell? ((⟨w1.heap.size,0,none⟩:Addr).add 0)=some (.int .i64 gx)/\∃jz:Int,w3.cell? ((⟨w1.heap.size,0,none⟩:Addr).add 1)=some (.int .i64 jz)/\∃jA:ByteArray,w3.cell? ((⟨w1.heap.size,0,none⟩:Addr).add 2)=some (.string jA)/\
    Calls prog 93 #[.agg #[.string jw,.int .i64 cG,.int .i64 jx,.bool jy],.int .i64 p,.agg #[.int .i64 gx,.int .i64 jz,.string jA]] w3 λe bI=>∃tE:Bool,e=.returned (.bool tE)/\
    Br (!tE) (stA prog 73 (⟨w2.heap.size,0,none⟩:Addr) #[.int .i64 0,.int .i64 0,.string (⟨#[]⟩:ByteArray)] bI λaH=>∃ag:Int,aH.cell? ((⟨w2.heap.size,0,none⟩:Addr).add 0)=some (.int .i64 ag)/\∃aj:Int,aH.cell? ((⟨w2.heap.size,0,none⟩:Addr).add 1)=some (.int .i64 aj)/\∃ak:ByteArray,aH.cell? ((⟨w2.heap.size,0,none⟩:Addr).add 2)=some (.string ak)/\
      (Ending.returned (.tuple #[.agg #[.int .i64 ag,.int .i64 aj,.string ak],.int .i64 10])=.returned (.tuple #[zJA (zQQ f p v).1,.int .i64 (zQQ f p v).2])/\Pu w aH)) (
     ∃eQ:Int,bI.cell? ((⟨w1.heap.size,0,none⟩:Addr).add 0)=some (.int .i64 eQ)/\∃eR:Int,bI.cell? ((⟨w1.heap.size,0,none⟩:Addr).add 1)=some (.int .i64 eR)/\∃jB:ByteArray,bI.cell? ((⟨w1.heap.size,0,none⟩:Addr).add 2)=some (.string jB)/\
     stA prog 73 (⟨w2.heap.size,0,none⟩:Addr) #[.int .i64 eQ,.int .i64 eR,.string jB] bI λbB=>∃ag:Int,bB.cell? ((⟨w2.heap.size,0,none⟩:Addr).add 0)=some (.int .i64 ag)/\∃aj:Int,bB.cell? ((⟨w2.heap.size,0,none⟩:Addr).add 1)=some (.int .i64 aj)/\∃ak:ByteArray,bB.cell? ((⟨w2.heap.size,0,none⟩:Addr).add 2)=some (.string ak)/\
      (Ending.returned (.tuple #[.agg #[.int .i64 ag,.int .i64 aj,.string ak],.int .i64 0])=.returned (.tuple #[zJA (zQQ f p v).1,.int .i64 (zQQ f p v).2])/\Pu w bB))):=by
  rintro hk m rfl
  have hF:zQQ f p v=if f.kind=4 then(if zXO (zZw (v.s.data.toList.take f.width.toNat)) p then(⟨4,0,bs (zZw (v.s.data.toList.take f.width.toNat))⟩,0)else(noV,10))else if zQO f p v then(v,0)else(noV,10):=by
   unfold zQQ;rw[if_neg d0,if_neg (by rw[hk];simp)]
  refine Br.of (λd2=>?_) (λd2=>?_)
  ·have d2:=zQE d2
   obtain⟨wl,wh⟩:=zVO hfB d2
   rw[if_pos d2]at hF
   refine⟨_,cl q2 2,_,cl q2 2,_,cl q1 2,_,w3,zYW _ _ _ _ _ _,by omega,by omega,by omega,(xXS _ (by have:=zQ7 v.s 0 (min (v.s.size:Int) f.width).toNat;have:=zQ3 (v.s.extract 0 (min (v.s.size:Int) f.width).toNat);simp at *;omega) w3).mono ?_⟩
   rintro e w9 ⟨rfl,cI⟩
   have et:(v.s.extract 0 (min (v.s.size:Int) f.width).toNat).data.toList=v.s.data.toList.take f.width.toNat:=by
    rw[zQ7,List.drop_zero];exact yKo _ _ _ (by simp) (by omega)
   rw[et]
   have hbl:(bs (zZw (v.s.data.toList.take f.width.toNat))).size<=140737488355328:=by
    rw[zQ8];have:=yXr (v.s.data.toList.take f.width.toNat);have:=List.length_take_le' f.width.toNat v.s.data.toList;rw[zQ3]at this;omega
   generalize hg:zZw (v.s.data.toList.take f.width.toNat)=B at *
   refine⟨_,rfl,(yQ6 _ hbl p w9).mono ?_⟩
   rintro e aO ⟨rfl,dP⟩
   rw[zQN]
   have jU:=cI.trans dP
   refine⟨_,rfl,Br.of (λd3=>out noV 10 (aV.trans jU) (b3 jU) rfl ?_) (λd3=>(xYX (bs B) aO).mono ?_)⟩
   ·rw[hF,show zXO B p=false by simpa using d3];rfl
   ·rintro e aR ⟨rfl,fg⟩
    refine⟨_,_,_,rfl,out ⟨4,0,bs B⟩ 0 (aV.trans (jU.trans fg)) (b3 (jU.trans fg)) rfl ?_⟩
    rw[hF,show zXO B p=true by simpa using d3];rfl
  ·have d2:=zQm d2
   rw[if_neg d2]at hF
   refine⟨_,cl q1 0,_,cl q1 1,_,cl q1 2,_,cl q1 3,_,cl q2 0,_,cl q2 1,_,cl q2 2,(xXy f p v w3).mono ?_⟩
   rintro e w9 ⟨rfl,cI⟩
   refine⟨_,rfl,Br.of (λd3=>out noV 10 (aV.trans cI) (b3 cI) rfl ?_) (λd3=>⟨_,cl (b2 cI) 0,_,cl (b2 cI) 1,_,cl (b2 cI) 2,out v 0 (aV.trans cI) (b3 cI) rfl ?_⟩)⟩
   ·rw[hF,show zQO f p v=false by simpa using d3];rfl
   ·rw[hF,show zQO f p v=true by simpa using d3];rfl
 have six:v.kind ≠ (zXp f).kind->zQQ f p v=(noV,6):=λh=>by unfold zQQ;rw[if_neg d0,if_pos h]
 refine Br.of (λd1=>⟨_,cl0 q2,Br.of (λd2=>out noV 6 aV q3 rfl (six ?_)) (λd2=>⟨_,cl q1 1,rest ?_ _ rfl⟩)⟩) (λd1=>⟨_,cl0 q2,Br.of (λd2=>out noV 6 aV q3 rfl (six ?_)) (λd2=>⟨_,cl q1 1,rest ?_ _ rfl⟩)⟩)
 ·unfold zXp;rw[if_pos (zQE d1)];exact zQ1 d2
 ·unfold zXp;rw[if_pos (zQE d1)];exact zQs d2
 ·unfold zXp;rw[if_neg (zQm d1)];exact zQ1 d2
 ·unfold zXp;rw[if_neg (zQm d1)];exact zQs d2
theorem xKT(f:Fld)(p:Int)(v:Val)(w:World):Calls prog 104 #[yQb f,.int .i64 p,zJA v] w λe w'=>
  e=.returned (.tuple #[zJA (zZO f p v).1,.int .i64 (zZO f p v).2])/\Pu w w':=by
 refine yVA _ _ _ _ _ _ _ _ w _ ?_
 refine alB λw1 aq ay=>alB λw2 ar aN=>alB λw3 ax br=>?_
 have z1:w1.heap.size<=w2.heap.size:=ar.size
 have z0:w.heap.size<=w1.heap.size:=aq.size
 have aV:Pu w w3:=(aq.trans ar).trans ax
 have out:∀{wz:World} (v':Val) (k:Int) {c:Array Value},Pu w wz->wz.heap[w2.heap.size]?=some (.cells c 73)->c.size=3->zZO f p v=(v',k)->
   stA prog 73 (⟨w2.heap.size,0,none⟩:Addr) #[.int .i64 v'.kind,.int .i64 v'.n,.string v'.s] wz λw'=>∃n0:Int,w'.cell? ((⟨w2.heap.size,0,none⟩:Addr).add 0)=some (.int .i64 n0)/\∃n1:Int,w'.cell? ((⟨w2.heap.size,0,none⟩:Addr).add 1)=some (.int .i64 n1)/\
    ∃s2:ByteArray,w'.cell? ((⟨w2.heap.size,0,none⟩:Addr).add 2)=some (.string s2)/\(Ending.returned (.tuple #[.agg #[.int .i64 n0,.int .i64 n1,.string s2],.int .i64 k])=.returned (.tuple #[zJA (zZO f p v).1,.int .i64 (zZO f p v).2])/\Pu w w'):=λ{wz} v' k {c} h1 h2 h3 h4=>
  retV (R:=λe w'=>e=.returned (.tuple #[zJA (zZO f p v).1,.int .i64 (zZO f p v).2])/\Pu w w') v' k h2 h3 λw' hf=>⟨by rw[h4],h1.andNew hf λi hi=>by have hi:i=w2.heap.size:=hi;omega⟩
 have b1:∀{wz},Pu w3 wz->wz.heap[w.heap.size]?=some (.cells #[.string f.name,.int .i64 f.kind,.int .i64 f.width,.bool f.null] 129):=λh=>h.blk (ax.blk (ar.blk ay))
 have b2:∀{wz},Pu w3 wz->wz.heap[w1.heap.size]?=some (.cells #[.int .i64 v.kind,.int .i64 v.n,.string v.s] 73):=λh=>h.blk (ax.blk aN)
 have b3:∀{wz},Pu w3 wz->wz.heap[w2.heap.size]?=some (.cells #[.int .i64 0,.int .i64 0,.string ⟨#[]⟩] 73):=λh=>h.blk br
 have q0:=b1 (Pu.refl w3)
 refine⟨_,cl q0 0,_,cl q0 1,_,cl q0 2,_,cl q0 3,(yQy f w3).mono ?_⟩
 rintro e w4 ⟨rfl,aK⟩
 refine⟨_,rfl,Br.of (λd=>out noV 1 (aV.trans aK) (b3 aK) rfl (zJ1 (by simp at d;simp[d]))) (λd=>(yXO p w4).mono ?_)⟩
 have hfB:zQn f=true:=by simpa using d
 rintro e w5 ⟨rfl,aU⟩
 have ci:=aK.trans aU
 refine⟨_,rfl,Br.of (λd=>out noV 1 (aV.trans ci) (b3 ci) rfl (zJ1 (by simp at d;simp[d]))) (λd=>?_)⟩
 have hpB:zQW p=true:=by simpa using d
 have hB:(zQn f && zQW p)=true:=by rw[hfB,hpB];rfl
 refine⟨_,cl (b2 ci) 0,_,cl (b2 ci) 1,_,cl (b2 ci) 2,(yJM v w5).mono ?_⟩
 rintro e w6 ⟨rfl,bC⟩
 have cx:=ci.trans bC
 refine⟨_,rfl,Br.of (λd=>out noV (zXi v) (aV.trans cx) (b3 cx) rfl (zKt hB (zQ1 d))) (λd=>?_)⟩
 have hv:=zQs d
 refine⟨_,cl (b1 cx) 0,_,cl (b1 cx) 1,_,cl (b1 cx) 2,_,cl (b1 cx) 3,_,cl (b2 cx) 0,_,cl (b2 cx) 1,_,cl (b2 cx) 2,(yYW f p v hfB (by have:=(zKK hv).1;omega) w6).mono ?_⟩
 rintro e w7 ⟨rfl,cH⟩
 exact⟨_,_,_,_,rfl,out _ _ (aV.trans (cx.trans cH)) (b3 (cx.trans cH)) rfl (zJN hB hv)⟩
end Go.Proofs.YtaeecpjhfmcliaaGreatDoor
/- Table: rows of fields: which are right, and how wide they are. No condition. -/
namespace Go.Proofs.YtaeecpjhfmcliaaGreatDoor
open Go.Sh Go.RowKit Tryz
theorem zKB{α:Type}[DecidableEq α]{l:List α}{x:α}:(l ++ [x]).Nodup ↔ l.Nodup/\x ∉ l:=by
 rw[List.nodup_append]
 constructor
 ·rintro⟨h1,_,h3⟩;exact⟨h1,λhx=>h3 x hx x (by simp) rfl⟩
 ·rintro⟨h1,h2⟩;exact⟨h1,by simp,λa ha b hb e=>by simp at hb;subst hb;subst e;exact h2 ha⟩
theorem zVJ(l:List Fld):(zXo l:Int)<=l.length+1:=by
 unfold zXo
 have:=List.length_filter_le (·.null) l
 omega
theorem yVc {l:List Fld} {k:Nat} {f:Fld} (h:l[k]?=some f):((l.take (k+1)).filter (·.null)).length=((l.take k).filter (·.null)).length+(if f.null then 1 else 0):=by
 rw[zQB h,List.filter_append,List.length_append]
 cases hx:f.null <;> simp[hx]
theorem zWm {l:List Fld} {k:Nat} {f:Fld} (h:l[k]?=some f):((l.take (k+1)).filter (·.null)).length=if f.null then((l.take k).filter (·.null)).length+1 else((l.take k).filter (·.null)).length:=by
 rw[yVc h];cases f.null <;> rfl
theorem zWo{w:World}{s:SV}{l:List Fld}(h:zX6 w s l):Calls prog 203 #[.slice s.a s.len s.cap] w λe w'=>e=.returned (.int .i64 (zXo l:Nat))/\Pu w w':=by
 refine yVl _ w _ ?_
 have hlen:=h.len
 have hlim:=h.lim
 refine zQw l.length (λk t w'=>t.2=(k:Int)/\t.1=(((l.take k).filter (·.null)).length:Nat)/\Pu w w') ⟨rfl,rfl,Pu.refl _⟩ ?_
 rintro k J ⟨t1,t2⟩ w2 hk ⟨rL,o3,hp⟩ hJ
 obtain rfl:t2=(k:Int):=rL
 obtain rfl:t1=(((l.take k).filter (·.null)).length:Nat):=o3
 have hle:=List.length_filter_le (·.null) (l.take k)
 have wM:=List.length_take_le k l
 dsimp only
 refine Br.of (λd=>?_) (λd=>?_)
 ·have aI:k<l.length:=by have:=zQk d;omega
  obtain⟨f,hf⟩:=zQM aI
  obtain⟨a,ha,hi,_,_,_,c0,c1,c2,c3⟩:=zJd (h.pu hp) hf
  refine⟨a,ha,by omega,by omega,_,c0,_,c1,_,c2,_,c3,yQk rfl s23.symm rfl λw4 aK xF dx=>⟨_,cl dx 3,?_⟩⟩
  have e:=zWm hf
  rw[zQa (n:=(k:Int)+1) (by omega) (by omega)]
  refine Br.of (λd1=>hJ _ _ aI ⟨by dsimp only;omega,?_,hp.trans aK⟩) (λd1=>hJ _ _ aI ⟨by dsimp only;omega,?_,hp.trans aK⟩)
  ·rw[if_pos d1]at e;dsimp only;rw[e,zQa (by omega) (by omega)];omega
  ·rw[if_neg (by rw[d1];simp)]at e;dsimp only;rw[e]
 ·have aI:k=l.length:=by have:=zQd d;omega
  subst aI
  rw[List.take_length]at *
  refine⟨rfl,by omega,?_,hp⟩
  rw[zQa (n:=((l.filter (·.null)).length:Int)+7) (by omega) (by omega),Int.tdiv_eq_ediv_of_nonneg (by omega),zQa (by omega) (by omega)]
  unfold zXo;congr 2
theorem xJz{w:World}{s:SV}{l:List Fld}(h:zX6 w s l):Calls prog 131 #[.slice s.a s.len s.cap] w λe w'=>e=.returned (.int .i64 (zXo l:Nat))/\Pu w w':=by
 refine yVf _ w _ ?_
 have hlen:=h.len
 have hlim:=h.lim
 refine zQw l.length (λk t w'=>t.2=(k:Int)/\t.1=(((l.take k).filter (·.null)).length:Nat)/\Pu w w') ⟨rfl,rfl,Pu.refl _⟩ ?_
 rintro k J ⟨t1,t2⟩ w2 hk ⟨rL,o3,hp⟩ hJ
 obtain rfl:t2=(k:Int):=rL
 obtain rfl:t1=(((l.take k).filter (·.null)).length:Nat):=o3
 have hle:=List.length_filter_le (·.null) (l.take k)
 have wM:=List.length_take_le k l
 dsimp only
 refine Br.of (λd=>?_) (λd=>?_)
 ·have aI:k<l.length:=by have:=zQk d;omega
  obtain⟨f,hf⟩:=zQM aI
  obtain⟨a,ha,hi,_,_,_,c0,c1,c2,c3⟩:=zJd (h.pu hp) hf
  refine⟨a,ha,by omega,by omega,_,c3,?_⟩
  have e:=zWm hf
  rw[zQa (n:=(k:Int)+1) (by omega) (by omega)]
  refine Br.of (λd1=>hJ _ _ aI ⟨by dsimp only;omega,?_,hp⟩) (λd1=>hJ _ _ aI ⟨by dsimp only;omega,?_,hp⟩)
  ·rw[if_pos d1]at e;dsimp only;rw[e,zQa (by omega) (by omega)];omega
  ·rw[if_neg (by rw[d1];simp)]at e;dsimp only;rw[e]
 ·have aI:k=l.length:=by have:=zQd d;omega
  subst aI
  rw[List.take_length]at *
  refine⟨rfl,by omega,?_,hp⟩
  rw[zQa (n:=((l.filter (·.null)).length:Int)+7) (by omega) (by omega),Int.tdiv_eq_ediv_of_nonneg (by omega),zQa (by omega) (by omega)]
  unfold zXo;congr 2
def WOk(l:List Fld):Prop:=∀f ∈ l,0<=f.width/\f.width<=254
theorem zXq{f:Fld}(h:zQn f=true):1<=f.width/\f.width<=254:=by
 unfold zQn zW9 at h
 simp only[Bool.and_eq_true]at h
 have h:=h.2
 split at h
 ·simp at h;omega
 ·split at h
  ·simp at h;omega
  ·split at h
   ·simp at h;omega
   ·split at h
    ·simp at h;omega
    ·split at h
     ·simp at h;omega
     ·simp at h
theorem WOk.of{l:List Fld}(h:l.all zQn=true):WOk l:=λf hf=>by have:=zXq (List.all_eq_true.1 h f hf);omega
theorem zWN {l:List Fld} {k:Nat} {f:Fld} (h:l[k]?=some f):((l.take (k+1)).map (·.width)).sum=((l.take k).map (·.width)).sum+f.width:=by
 rw[zQB h,List.map_append,List.sum_append];simp
theorem zJk{l:List Fld}(h:WOk l):0<=(l.map (·.width)).sum/\(l.map (·.width)).sum<=254 * l.length:=by
 induction l with
 | nil=>simp
 | cons f l ih=>
  have h1:=h f (by simp)
  have h2:=ih λg hg=>h g (by simp[hg])
  simp only[List.map_cons,List.sum_cons,List.length_cons];omega
theorem WOk.take{l:List Fld}(h:WOk l)(k:Nat):WOk (l.take k):=λf hf=>h f (List.mem_of_mem_take hf)
theorem zVS{w:World}{s:SV}{l:List Fld}(h:zX6 w s l)(hw:WOk l):Calls prog 161 #[.slice s.a s.len s.cap] w λe w'=>e=.returned (.int .i64 (zXK l))/\Pu w w':=by
 refine yVp _ w _ ((zWo h).mono ?_)
 rintro e w1 ⟨rfl,aq⟩
 have hlen:=h.len
 have hlim:=h.lim
 have hn:=zVJ l
 refine⟨_,rfl,?_⟩
 rw[zQa (by omega) (by omega)]
 refine zQw l.length (λk t w'=>t.2=(k:Int)/\t.1=1+((zXo l:Nat):Int)+((l.take k).map (·.width)).sum/\Pu w w') ⟨rfl,by simp,aq⟩ ?_
 rintro k J ⟨t1,t2⟩ w2 hk ⟨rL,o3,hp⟩ hJ
 obtain rfl:t2=(k:Int):=rL
 obtain rfl:t1=1+((zXo l:Nat):Int)+((l.take k).map (·.width)).sum:=o3
 have hs:=zJk (hw.take k)
 have wM:=List.length_take_le k l
 dsimp only
 refine Br.of (λd=>?_) (λd=>?_)
 ·have aI:k<l.length:=by have:=zQk d;omega
  obtain⟨f,hf⟩:=zQM aI
  have hwf:=hw f (List.mem_of_getElem? hf)
  obtain⟨a,ha,hi,_,_,_,c0,c1,c2,c3⟩:=zJd (h.pu hp) hf
  refine⟨a,ha,by omega,by omega,_,c0,_,c1,_,c2,_,c3,yQk rfl s23.symm rfl λw4 aK xF dx=>⟨_,cl dx 2,?_⟩⟩
  rw[zQa (n:=(k:Int)+1) (by omega) (by omega),zQa (by omega) (by omega)]
  refine hJ _ _ aI ⟨by dsimp only;omega,?_,hp.trans aK⟩
  dsimp only;rw[zWN hf];omega
 ·have aI:k=l.length:=by have:=zQd d;omega
  subst aI
  rw[List.take_length]
  exact⟨rfl,hp⟩
theorem xYL{w:World}{s:SV}{l:List Fld}(h:zX6 w s l)(hw:WOk l):Calls prog 92 #[.slice s.a s.len s.cap] w λe w'=>e=.returned (.int .i64 (zXK l))/\Pu w w':=by
 refine yY0 _ w _ ((xJz h).mono ?_)
 rintro e w1 ⟨rfl,aq⟩
 have hlen:=h.len
 have hlim:=h.lim
 have hn:=zVJ l
 refine⟨_,rfl,?_⟩
 rw[zQa (by omega) (by omega)]
 refine zQw l.length (λk t w'=>t.2=(k:Int)/\t.1=1+((zXo l:Nat):Int)+((l.take k).map (·.width)).sum/\Pu w w') ⟨rfl,by simp,aq⟩ ?_
 rintro k J ⟨t1,t2⟩ w2 hk ⟨rL,o3,hp⟩ hJ
 obtain rfl:t2=(k:Int):=rL
 obtain rfl:t1=1+((zXo l:Nat):Int)+((l.take k).map (·.width)).sum:=o3
 have hs:=zJk (hw.take k)
 have wM:=List.length_take_le k l
 dsimp only
 refine Br.of (λd=>?_) (λd=>?_)
 ·have aI:k<l.length:=by have:=zQk d;omega
  obtain⟨f,hf⟩:=zQM aI
  have hwf:=hw f (List.mem_of_getElem? hf)
  obtain⟨a,ha,hi,_,_,_,c0,c1,c2,c3⟩:=zJd (h.pu hp) hf
  refine⟨a,ha,by omega,by omega,_,c2,?_⟩
  rw[zQa (n:=(k:Int)+1) (by omega) (by omega),zQa (by omega) (by omega)]
  refine hJ _ _ aI ⟨by dsimp only;omega,?_,hp⟩
  dsimp only;rw[zWN hf];omega
 ·have aI:k=l.length:=by have:=zQd d;omega
  subst aI
  rw[List.take_length]
  exact⟨rfl,hp⟩
def yK3(l:List Fld)(g:Nat)(cap:Array Value)(p:Fld->Bool)(w0:World):Prop:=zQ5 prog g=true/\∀f ∈ l,∀w,Pu w0 w->Calls prog g (#[yQb f] ++ cap) w λe w'=>e=.returned (.bool (p f))/\Pu w w'
theorem zV0 {p:Fld->Bool} {l:List Fld} {k:Nat} (h:∀f ∈ l.take k,p f=false) {f:Fld} (hf:l[k]?=some f) (hp:p f=true):l.findIdx? p=some k:=by
 have hk:k<l.length:=(List.getElem?_eq_some_iff.1 hf).1
 rw[List.findIdx?_eq_some_iff_getElem]
 refine⟨hk,?_,λj hj=>?_⟩
 ·rw[List.getElem?_eq_getElem hk]at hf;rw[Option.some.inj hf];exact hp
 ·have:=h l[j] (by rw[List.mem_take_iff_getElem];exact⟨j,by omega,rfl⟩)
  simpa using this
theorem zYm{w:World}{s:SV}{l:List Fld}(h:zX6 w s l){g:Nat}{cap:Array Value}{p:Fld->Bool}(hg:yK3 l g cap p w):Calls prog 113 #[.slice s.a s.len s.cap,.func (.func g) #[] cap] w
  λe w'=>e=.returned (.int .i64 (match l.findIdx? p with|some k=>(k:Int)|none=>-1))/\Pu w w':=by
 refine yKZ _ _ w _ ?_
 have hlen:=h.len
 have hlim:=h.lim
 refine zQw l.length (λk t w'=>t=(k:Int)/\(∀f ∈ l.take k,p f=false)/\Pu w w') ⟨rfl,by simp,Pu.refl _⟩ ?_
 rintro k J t w2 hk ⟨ht,hno,hp⟩ hJ
 obtain rfl:t=(k:Int):=ht
 refine Br.of (λd=>?_) (λd=>?_)
 ·have aI:k<l.length:=by have:=zQk d;omega
  obtain⟨f,hf⟩:=zQM aI
  obtain⟨a,ha,hi,_,_,_,c0,c1,c2,c3⟩:=zJd (h.pu hp) hf
  refine⟨a,ha,by omega,by omega,_,c0,_,c1,_,c2,_,c3,hg.1,?_⟩
  have e1:((#[]:Array Value).toList ++ (([yQb f]:List Value) ++ cap.toList)).toArray=#[yQb f] ++ cap:=by
   apply Array.ext';simp
  rw[e1]
  refine(hg.2 f (List.mem_of_getElem? hf) w2 hp).mono ?_
  rintro e w3 ⟨rfl,ax⟩
  refine⟨_,rfl,Br.of (λd1=>⟨by rw[zV0 hno hf d1],hp.trans ax⟩) (λd1=>?_)⟩
  rw[zQa (by omega) (by omega)]
  refine hJ _ _ aI ⟨by omega,λf' hf'=>?_,hp.trans ax⟩
  rw[zQB hf,List.mem_append,List.mem_singleton]at hf'
  rcases hf' with hf'|rfl
  ·exact hno f' hf'
  ·exact d1
 ·have aI:k=l.length:=by have:=zQd d;omega
  subst aI
  rw[List.take_length]at hno
  have:l.findIdx? p=none:=by rw[List.findIdx?_eq_none_iff];exact λx hx=>by rw[hno x hx]
  exact⟨by rw[this],hp⟩
theorem yQi{w:World}{s:SV}{l:List Fld}(h:zX6 w s l){g:Nat}{cap:Array Value}{p:Fld->Bool}(hg:yK3 l g cap p w):Calls prog 178 #[.slice s.a s.len s.cap,.func (.func g) #[] cap] w
  λe w'=>e=.returned (.bool (l.any p))/\Pu w w':=by
 refine yKR _ _ w _ ((zYm h hg).mono ?_)
 rintro e w2 ⟨rfl,hp⟩
 refine⟨_,rfl,?_,hp⟩
 cases hx:l.findIdx? p with
 | none=>
  rw[List.findIdx?_eq_none_iff]at hx
  have:l.any p=false:=by rw[List.any_eq_false];exact λx hx'=>by rw[hx x hx'];simp
  rw[this];rfl
 | some k=>
  rw[List.findIdx?_eq_some_iff_getElem]at hx
  obtain⟨h1,h2,_⟩:=hx
  have:l.any p=true:=List.any_eq_true.2 ⟨_,List.getElem_mem h1,h2⟩
  rw[this]
  dsimp only
  rw[decide_eq_true (by omega)]
theorem yWU(f:Fld)(hs:f.name.size<=140737488355328)(w:World):Calls prog 179 #[yQb f] w λe w'=>e=.returned (.bool (!zQn f))/\Pu w w':=by
 refine yV0 _ _ _ _ w _ (alB λw1 aq ay=>⟨_,cl ay 0,_,cl ay 1,_,cl ay 2,_,cl ay 3,(yZ4 f hs w1).mono ?_⟩)
 rintro e w2 ⟨rfl,ar⟩
 exact⟨_,rfl,rfl,aq.trans ar⟩
theorem u88:prog.underlying 206=some (.map 9 4):=by kernel_rfl
abbrev strK(s:ByteArray):Value:=.string s
abbrev xYK(b:Bool):Value:=.bool b
theorem keysS:yKm prog 9 strK:=xZw (by kernel_rfl)
theorem z4(w:World):(zeroValue 4).run prog w=.ok (.bool false) w:=Tryz.zeroValue4 w
def yX1(l:List Fld):List (ByteArray × Bool):=l.map λf=>(f.name,true)
theorem yXy(l:List Fld):(yX1 l).map Prod.fst=l.map (·.name):=by simp[yX1]
noncomputable instance memDec (x : ByteArray) (l : List ByteArray) : Decidable (x ∈ l) := Classical.propDecidable _
theorem yY5(l:List Fld)(x:ByteArray):(AL.get (yX1 l) x).elim (.bool false) xYK=.bool (decide (x ∈ l.map (·.name))):=by
 by_cases h:x ∈ l.map (·.name)
 ·rw[decide_eq_true h]
  cases hg:AL.get (yX1 l) x with
  | none=>rw[AL.get_none,yXy]at hg;exact absurd h hg
  | some v=>
   have:=AL.get_mem hg
   simp only[yX1,List.mem_map]at this
   obtain⟨f,_,he⟩:=this
   cases he;rfl
 ·rw[decide_eq_false h,(AL.get_none).2 (by rw[yXy];exact h)];rfl
theorem zVD:zQT []=1:=by unfold zQT;rw[if_pos (.inl rfl)]
theorem yQA{l:List Fld}(h:l.all zQn=false):zQT l=1:=by unfold zQT;rw[if_pos (.inr h)]
theorem yQ9 {l:List Fld} (h0:l ≠ []) (h:l.all zQn=true) (h2:¬(l.map (·.name)).Nodup):zQT l=5:=by unfold zQT;rw[if_neg (by simp[h0,h]),if_pos h2]
theorem yQJ {l:List Fld} (h0:l ≠ []) (h:l.all zQn=true) (h2:(l.map (·.name)).Nodup):zQT l=if 16<l.length∨2000<zXK l then 3 else 0:=by unfold zQT;rw[if_neg (by simp[h0,h]),if_neg (by simp[h2])]
theorem zJ2 {l:List Fld} {k:Nat} {f:Fld} (h:l[k]?=some f):(l.take (k+1)).map (·.name)=(l.take k).map (·.name) ++ [f.name]:=by
 rw[zQB h,List.map_append];rfl
theorem zWD {l:List Fld} {k:Nat} (h:¬((l.take k).map (·.name)).Nodup):¬(l.map (·.name)).Nodup:=λhn=>h (by
 rw[List.map_take];exact hn.sublist (List.take_sublist _ _))
theorem zZJ{w:World}{s:SV}{l:List Fld}(h:zX6 w s l)(hl:Lim.ok l):Calls prog 141 #[.slice s.a s.len s.cap] w λe w'=>e=.returned (.int .i64 (zQT l))/\Pu w w':=by
 refine yVQ _ w _ ?_
 have hlen:=h.len
 have hlim:=h.lim
 have nm:∀f ∈ l,f.name.size<=140737488355328:=λf hf=>hl f hf
 refine Br.of (λd=>?_) (λd=>?_)
 ·have:l=[]:=List.length_eq_zero_iff.1 (by have:=zQE d;omega)
  subst this;exact⟨by rw[zVD],Pu.refl _⟩
 have h0:l ≠ []:=λe=>by subst e;exact zQm d (by rw[hlen];rfl)
 have tells:yK3 l 179 #[] (λf=>!zQn f) w:=⟨by kernel_rfl,λf hf w2 _=>yWU f (nm f hf) w2⟩
 refine(yQi h tells).mono ?_
 rintro e w1 ⟨rfl,aq⟩
 have hany:l.any (λf=>!zQn f)=!l.all zQn:=by rw[List.all_eq_not_any_not];simp
 refine⟨_,rfl,?_⟩
 rw[hany]
 refine Br.of (λd1=>⟨by rw[yQA (by simpa using d1)],aq⟩) (λd1=>?_)
 have hall:l.all zQn=true:=by simpa using d1
 refine zYy λw2 mV=>?_
 have ar:Pu w1 w2:=by rw[mV];exact Pu.alloc w1 _
 have xG:zXF w2 strK xYK w1.heap.size ([]:List (ByteArray × Bool)):=by rw[mV];exact zXF.new w1 _ _
 have z1:=aq.size
 refine zQw l.length (λk t w'=>t=(k:Int)/\zXF w' strK xYK w1.heap.size (yX1 (l.take k))/\((l.take k).map (·.name)).Nodup/\Pu w w') ⟨rfl,xG,by simp,aq.trans ar⟩ ?_
 rintro k J t w3 hk ⟨ht,hm,hnd,hp⟩ hJ
 obtain rfl:t=(k:Int):=ht
 refine Br.of (λd2=>?_) (λd2=>?_)
 ·have aI:k<l.length:=by have:=zQk d2;omega
  obtain⟨f,hf⟩:=zQM aI
  obtain⟨a,ha,hi,_,_,_,c0,c1,c2,c3⟩:=zJd (h.pu hp) hf
  refine⟨a,ha,by omega,by omega,_,c0,_,c1,_,c2,_,c3,yQk rfl s23.symm rfl λw4 aK xF dx=>⟨_,cl0 dx,decide (f.name ∈ (l.take k).map (·.name)),w4,?_,?_⟩⟩
  ·have:=(hm.pu aK).look keysS u88 (z4 w4) f.name false
   rw[yY5]at this;exact this
  refine Br.of (λd3=>⟨?_,hp.trans aK⟩) (λd3=>⟨_,cl0 dx,?_⟩)
  ·rw[yQ9 h0 hall (zWD (k:=k+1) (by rw[zJ2 hf,zKB];exact λh=>h.2 (zQk d3)))]
  ·obtain⟨w5,e5,h5,f5,_⟩:=(hm.pu aK).upd keysS u88 f.name true
   refine⟨w5,e5,?_⟩
   rw[zQa (by omega) (by omega)]
   have hput:AL.put (yX1 (l.take k)) f.name true=yX1 (l.take (k+1)):=by
    rw[AL.put_new ((AL.get_none).2 (by rw[yXy];exact zQd d3))]
    simp only[yX1]
    rw[zQB hf,List.map_append];rfl
   rw[hput]at h5
   refine hJ _ _ aI ⟨by omega,h5,by rw[zJ2 hf,zKB];exact⟨hnd,zQd d3⟩,(hp.trans aK).andNew f5 λi hi=>by have hi:i=w1.heap.size:=hi;omega⟩
 ·have aI:k=l.length:=by have:=zQd d2;omega
  subst aI
  rw[List.take_length]at hnd
  have he:=yQJ h0 hall hnd
  refine Br.of (λd3=>⟨by rw[he,if_pos (.inl (by have:=zQk d3;omega))],hp⟩) (λd3=>(zVS (h.pu hp) (WOk.of hall)).mono ?_)
  rintro e w4 ⟨rfl,aK⟩
  refine⟨_,rfl,Br.of (λd4=>⟨by rw[he,if_pos (.inr (zQk d4))],hp.trans aK⟩) (λd4=>⟨by rw[he,if_neg (by have:=zQd d4;have:=zQd d3;omega)],hp.trans aK⟩)⟩
theorem yQe{w:World}{s:SV}{l:List Fld}(h:zX6 w s l):Calls prog 53 #[.slice s.a s.len s.cap] w λe w'=>e=.returned (.int .i64 (zQT l))/\Pu w w':=by
 refine xXf _ w _ ?_
 have hlen:=h.len
 have hlim:=h.lim
 refine Br.of (λd=>?_) (λd=>?_)
 ·have:l=[]:=List.length_eq_zero_iff.1 (by have:=zQE d;omega)
  subst this;exact⟨by rw[zVD],Pu.refl _⟩
 have h0:l ≠ []:=λe=>by subst e;exact zQm d (by rw[hlen];rfl)
 refine zQw l.length (λk t w'=>t=(k:Int)/\(l.take k).all zQn=true/\Pu w w') ⟨rfl,rfl,Pu.refl _⟩ ?_
 rintro k J t w2 hk ⟨ht,hal,hp⟩ hJ
 obtain rfl:t=(k:Int):=ht
 refine Br.of (λd1=>?_) (λd1=>?_)
 ·have aI:k<l.length:=by have:=zQk d1;omega
  obtain⟨f,hf⟩:=zQM aI
  obtain⟨a,ha,hi,_,_,_,c0,c1,c2,c3⟩:=zJd (h.pu hp) hf
  refine⟨a,ha,by omega,by omega,_,c0,_,c1,_,c2,_,c3,(yQy f w2).mono ?_⟩
  rintro e w3 ⟨rfl,ax⟩
  refine⟨_,rfl,Br.of (λd2=>⟨?_,hp.trans ax⟩) (λd2=>?_)⟩
  ·rw[yQA (by rw[List.all_eq_false];exact⟨f,List.mem_of_getElem? hf,by simpa using d2⟩)]
  ·rw[zQa (by omega) (by omega)]
   exact hJ _ _ aI ⟨by omega,by rw[zJQ _ hf,hal,show zQn f=true by simpa using d2];rfl,hp.trans ax⟩
 have aI:k=l.length:=by have:=zQd d1;omega
 subst aI
 rw[List.take_length]at hal
 clear hJ J d1
 refine zQw l.length (λk t w'=>t=(k:Int)/\((l.take k).map (·.name)).Nodup/\Pu w w') ⟨rfl,by simp,hp⟩ ?_
 rintro k J t w3 hk ⟨ht,hnd,hp⟩ hJ
 obtain rfl:t=(k:Int):=ht
 refine Br.of (λd1=>?_) (λd1=>?_)
 ·have aI:k<l.length:=by have:=zQk d1;omega
  obtain⟨f,hf⟩:=zQM aI
  refine zQw k (λj t w'=>t=(j:Int)/\f.name ∉ (l.take j).map (·.name)/\Pu w w') ⟨rfl,by simp,hp⟩ ?_
  rintro j J2 t w4 hj ⟨ht,hno,aK⟩ wN
  obtain rfl:t=(j:Int):=ht
  refine Br.of (λd2=>?_) (λd2=>?_)
  ·have j8:j<k:=by have:=zQk d2;omega
   obtain⟨g,hg⟩:=zQM (show j<l.length by omega)
   refine zQc λw5 aU _=>?_
   obtain⟨a,ha,hi,_,_,c,c0,c1,c2,c3⟩:=zJd (h.pu (aK.trans aU)) hf
   obtain⟨a',ha',hi',_,_,c',c0',o4,c2',c3'⟩:=zJd (h.pu (aK.trans aU)) hg
   refine⟨a,ha,by omega,by omega,_,c,a',ha',by omega,by omega,_,c',?_⟩
   rw[zX7]
   refine Br.of (λd3=>⟨?_,aK.trans aU⟩) (λd3=>?_)
   ·rw[yQ9 h0 hal (zWD (k:=k+1) (by
     rw[zJ2 hf,zKB]
     refine λh=>h.2 ?_
     rw[zQk d3]
     exact List.mem_map.2 ⟨g,by rw[List.mem_take_iff_getElem];exact⟨j,by omega,by rw[List.getElem?_eq_getElem (by omega)]at hg;exact Option.some.inj hg⟩,rfl⟩))]
   ·rw[zQa (by omega) (by omega)]
    refine wN _ _ j8 ⟨by omega,?_,aK.trans aU⟩
    rw[zJ2 hg,List.mem_append,List.mem_singleton]
    exact λh=>h.elim hno (zQd d3)
  ·have j8:j=k:=by have:=zQd d2;omega
   subst j8
   show J (IntKind.i64.wrap ((j:Int)+1)) w4
   rw[zQa (by omega) (by omega)]
   exact hJ _ _ aI ⟨by omega,by rw[zJ2 hf,zKB];exact⟨hnd,hno⟩,aK⟩
 ·have aI:k=l.length:=by have:=zQd d1;omega
  subst aI
  rw[List.take_length]at hnd
  have he:=yQJ h0 hal hnd
  refine Br.of (λd3=>⟨by rw[he,if_pos (.inl (by have:=zQk d3;omega))],hp⟩) (λd3=>(xYL (h.pu hp) (WOk.of hal)).mono ?_)
  rintro e w4 ⟨rfl,aK⟩
  refine⟨_,rfl,Br.of (λd4=>⟨by rw[he,if_pos (.inr (zQk d4))],hp.trans aK⟩) (λd4=>⟨by rw[he,if_neg (by have:=zQd d4;have:=zQd d3;omega)],hp.trans aK⟩)⟩
end Go.Proofs.YtaeecpjhfmcliaaGreatDoor
/- Table: which tables are right. No condition. -/
namespace Go.Proofs.YtaeecpjhfmcliaaGreatDoor
open Go.Sh Go.RowKit Tryz
theorem xZP:yXx prog 73 [some .i64,some .i64,none]=true:=by kernel_rfl
theorem xXE:prog.eqGuardType prog.depth 73=false:=by kernel_rfl
theorem yKn{a b:Val}(h:zVA a=zVA b):a=b:=by
 obtain⟨a1,a2,a3⟩:=a;obtain⟨b1,b2,b3⟩:=b
 simp[zVA]at h;simp[h]
theorem eqVal(x y:Operand)(a b:Val)(w:World):(eqS .eql 73 x y (zJA a) (zJA b)).run prog w=.ok (.bool (decide (a=b))) w:=by
 refine eqS_row (ks:=[some .i64,some .i64,none]) (xs:=zVA a) (ys:=zVA b) xZP xXE rfl rfl ?_ w
 rw[decide_eq_true_iff]
 exact⟨λh=>by rw[h],yKn⟩
theorem xZ3 {l:List UInt8} {w:Nat} (h:zZw (l.take w)=l):l.length<=w/\zZw l=l:=by
 have h1:=yXr (l.take w)
 rw[h]at h1
 have h2:=List.length_take_le w l
 have h3:l.length<=w:=by omega
 rw[List.take_of_length_le h3]at h
 exact⟨h3,h⟩
theorem fitted_holds{f:Fld}{p:Int}{v:Val}(hf:zQn f=true)(hv:zXi v=0)(hk:v.kind ≠ 0):(decide ((zQQ f p v).2=0) && decide ((zQQ f p v).1=v))=zQO f p v:=by
 have mT:¬zXi v ≠ 0:=by omega
 obtain⟨hvs,hvn,hv4⟩:=zKK hv
 unfold zQQ
 rw[if_neg hk]
 by_cases h1:v.kind ≠ (zXp f).kind
 ·rw[if_pos h1]
  have:zQO f p v=false:=by
   unfold zQO;rw[if_neg mT,if_neg hk]
   by_cases h5:f.kind=5
   ·have:v.kind ≠ 2:=by unfold zXp at h1;rw[if_pos h5]at h1;exact h1
    rw[if_pos h5,decide_eq_false this];rfl
   ·have:v.kind ≠ f.kind:=by unfold zXp at h1;rw[if_neg h5]at h1;exact h1
    rw[if_neg h5,if_pos this]
  rw[this];simp
 rw[if_neg h1]
 by_cases h4:f.kind=4
 ·rw[if_pos h4]
  have hkv:v.kind=4:=by
   have:v.kind=(zXp f).kind:=by simpa using h1
   rw[this];unfold zXp;rw[if_neg (by omega)];exact h4
  have pX:v.n=0:=by rw[hkv]at hvn;simpa[okN] using hvn
  have hfit:zQO f p v=(decide ((v.s.size:Int)<=f.width) && decide (zZw v.s.data.toList=v.s.data.toList) && zXO v.s.data.toList p):=by
   unfold zQO;rw[if_neg mT,if_neg hk,if_neg (by omega),if_neg (by rw[hkv,h4];simp),if_neg (by omega),if_pos h4]
  obtain⟨wl,wh⟩:=zVO hf h4
  have key:(zZw (v.s.data.toList.take f.width.toNat)=v.s.data.toList) ↔ ((v.s.size:Int)<=f.width/\zZw v.s.data.toList=v.s.data.toList):=by
   constructor
   ·intro h;have h2:=xZ3 h;rw[zQ3]at h2;exact⟨by omega,h2.2⟩
   ·rintro⟨h2,h3⟩;rw[List.take_of_length_le (by rw[zQ3];omega)];exact h3
  have eqv:(⟨4,0,bs (zZw (v.s.data.toList.take f.width.toNat))⟩:Val)=v ↔ zZw (v.s.data.toList.take f.width.toNat)=v.s.data.toList:=by
   rw[←yZp]
   obtain⟨k,n,s⟩:=v
   simp only at hkv pX
   subst hkv pX
   simp
  have rM:(decide ((v.s.size:Int)<=f.width) && decide (zZw v.s.data.toList=v.s.data.toList))=decide (zZw (v.s.data.toList.take f.width.toNat)=v.s.data.toList):=by rw[←Bool.decide_and];exact zZC key.symm
  rw[hfit,rM]
  by_cases hb:zZw (v.s.data.toList.take f.width.toNat)=v.s.data.toList
  ·rw[decide_eq_true hb,hb]
   cases ht:zXO v.s.data.toList p
   ·simp
   ·rw[if_pos rfl]
    have h9:=eqv.2 hb
    rw[hb]at h9
    simp[h9]
  ·rw[decide_eq_false hb]
   cases ht:zXO (zZw (v.s.data.toList.take f.width.toNat)) p
   ·simp
   ·rw[if_pos rfl]
    have h9:¬(⟨4,0,bs (zZw (v.s.data.toList.take f.width.toNat))⟩:Val)=v:=λh=>hb (eqv.1 h)
    simp[h9]
 ·rw[if_neg h4]
  cases hfit:zQO f p v
  ·simp
  ·simp
theorem xYv(f:Fld)(p:Int)(v:Val)(hs:f.name.size<=140737488355328)(hf:zQn f=true)(hpg:zQW p=true)(w:World):Calls prog 142 #[yQb f,.int .i64 p,zJA v] w λe w'=>e=.returned (.bool (zQO f p v))/\Pu w w':=by
 refine yWd _ _ _ _ _ _ _ _ w _ ?_
 refine alB λw1 aq ay=>alB λw2 ar aN=>?_
 have aF:=aq.trans ar
 have b1:∀{wz},Pu w2 wz->wz.heap[w.heap.size]?=some (.cells #[.string f.name,.int .i64 f.kind,.int .i64 f.width,.bool f.null] 129):=λh=>h.blk (ar.blk ay)
 have b2:∀{wz},Pu w2 wz->wz.heap[w1.heap.size]?=some (.cells #[.int .i64 v.kind,.int .i64 v.n,.string v.s] 73):=λh=>h.blk aN
 have q1:=b1 (Pu.refl w2)
 have q2:=b2 (Pu.refl w2)
 have out:∀{wz:World} {b:Bool},Pu w wz->zQO f p v=b->(Ending.returned (Value.bool b)=Ending.returned (Value.bool (zQO f p v))/\Pu w wz):=λh1 h2=>⟨by rw[h2],h1⟩
 have bad:zXi v ≠ 0->zQO f p v=false:=λh=>by unfold zQO;rw[if_pos h]
 refine⟨_,cl0 q2,Br.of (λd=>⟨_,cl q1 3,?_⟩) (λd=>⟨_,cl q2 0,_,cl q2 1,_,cl q2 2,(xXU v w2).mono ?_⟩)⟩
 ·have d:=zQE d
  have key:(f.null && decide (v=noV))=zQO f p v:=by
   by_cases h:zXi v ≠ 0
   ·rw[bad h]
    have:¬v=noV:=λe=>h (by rw[e];rfl)
    rw[decide_eq_false this];simp
   ·have h:zXi v=0:=by simpa using h
    obtain⟨_,h2,h3⟩:=zKK h
    have hn:v.n=0:=by rw[d]at h2;simpa[okN] using h2
    have hz:v.s.size=0:=h3.resolve_left (by omega)
    have:v=noV:=by
     obtain⟨k,n,s⟩:=v
     simp only at d hn hz
     subst d hn
     have:s=⟨#[]⟩:=zQU (by
      have:s.data.toList.length=0:=by rw[zQ3];exact hz
      rw[List.length_eq_zero_iff]at this;rw[this])
     subst this;rfl
    rw[decide_eq_true this]
    unfold zQO;rw[if_neg (by omega),if_pos d];simp
  refine Br.of (λd1=>⟨_,cl q2 0,_,cl q2 1,_,cl q2 2,_,w2,eqVal _ _ v noV w2,out aF ?_⟩) (λd1=>out aF ?_)
  ·rw[←key,d1];rfl
  ·rw[←key,d1];rfl
 rintro e w3 ⟨rfl,ax⟩
 have aV:=aF.trans ax
 refine⟨_,rfl,Br.of (λd1=>out aV (bad (zQ1 d1))) (λd1=>⟨_,cl (b1 ax) 0,_,cl (b1 ax) 1,_,cl (b1 ax) 2,_,cl (b1 ax) 3,_,cl (b2 ax) 0,_,cl (b2 ax) 1,_,cl (b2 ax) 2,(fit_c f p v hs w3).mono ?_⟩)⟩
 have hv:=zQs d1
 have hF:=zJN (f:=f) (p:=p) (v:=v) (by rw[hf,hpg];rfl) hv
 have key:=fitted_holds (f:=f) (p:=p) hf hv (zQm d)
 rintro e w4 ⟨rfl,aK⟩
 rw[hF]
 refine⟨_,_,_,_,rfl,yQk rfl s25.symm rfl λw5 aU oo bu=>?_⟩
 have ci:=(ax.trans aK).trans aU
 have dC:=aF.trans ci
 refine Br.of (λd2=>⟨_,cl bu 0,_,cl bu 1,_,cl bu 2,_,cl (b2 ci) 0,_,cl (b2 ci) 1,_,cl (b2 ci) 2,_,w5,eqVal _ _ (zQQ f p v).1 v w5,out dC ?_⟩) (λd2=>out dC ?_)
 ·rw[←key,decide_eq_true (zQE d2)];rfl
 ·rw[←key,decide_eq_false (zQm d2)];rfl
theorem yYO {l:List Fld} {vs:List Val} {i:Nat} {f:Fld} {v:Val} (h:l[i]?=some f) (h2:vs[i]?=some v):(l.zip vs)[i]?=some (f,v):=by
 rw[List.getElem?_zip_eq_some];exact⟨h,h2⟩
def zKs(l:List Fld)(p:Int)(vs:List Val):Bool:=(l.zip vs).all (λx=>zQO x.1 p x.2)
theorem zVc{l:List Fld}{p:Int}{r:Rec}(h:r.v.length ≠ l.length):zQ0 l p r=10:=by unfold zQ0;rw[if_pos h]
theorem zJ5{l:List Fld}{p:Int}{r:Rec}(h:r.v.length=l.length):zQ0 l p r=if zKs l p r.v then 0 else 1:=by unfold zQ0;rw[if_neg (by simp[h])];rfl
theorem zWf{w:World}{s t:SV}{l:List Fld}{r:Rec}(p:Int)(h:zX6 w s l)(hr:zX6 w t r.v):Calls prog 54 #[.slice s.a s.len s.cap,.int .i64 p,.agg #[.bool r.gone,.slice t.a t.len t.cap]] w λe w'=>e=.returned (.int .i64 (zQ0 l p r))/\Pu w w':=by
 refine yYN _ _ _ _ w _ ?_
 refine alB λw1 aq ay=>⟨t,cl ay 1,?_⟩
 have h1:=h.len
 have h2:=hr.len
 have h3:=h.lim
 refine Br.of (λd=>⟨by rw[zVc (by have:=zQ1 d;omega)],aq⟩) (λd=>?_)
 have hl:r.v.length=l.length:=by have:=zQs d;omega
 refine zQw l.length (λk u w'=>u=(k:Int)/\((l.zip r.v).take k).all (λx=>zQO x.1 p x.2)=true/\Pu w1 w') ⟨rfl,rfl,Pu.refl _⟩ ?_
 rintro k J u w2 hk ⟨hu,hal,ar⟩ hJ
 obtain rfl:u=(k:Int):=hu
 refine Br.of (λd1=>?_) (λd1=>?_)
 ·have aI:k<l.length:=by have:=zQk d1;omega
  obtain⟨f,hf⟩:=zQM aI
  obtain⟨v,hv⟩:=zQM (show k<r.v.length by omega)
  refine zQc λw3 ax _=>?_
  have bn:=ar.trans ax
  obtain⟨a,ha,hi,_,_,c,c0,c1,c2,c3⟩:=zJd ((h.pu aq).pu bn) hf
  obtain⟨b,hb,hbi,_,_,e0,e1,e2⟩:=yVs ((hr.pu aq).pu bn) hv
  refine⟨a,ha,by omega,by omega,_,c0,_,c1,_,c2,_,c3,t,cl (bn.blk ay) 1,b,hb,by omega,by omega,_,e0,_,e1,_,e2,(xXy f p v w3).mono ?_⟩
  rintro e w4 ⟨rfl,aK⟩
  have hz:=yYO hf hv
  refine⟨_,rfl,Br.of (λd2=>⟨?_,aq.trans (bn.trans aK)⟩) (λd2=>?_)⟩
  ·have:zKs l p r.v=false:=by unfold zKs;rw[List.all_eq_false];exact⟨_,List.mem_of_getElem? hz,by simpa using d2⟩
   rw[zJ5 hl,this];rfl
  ·rw[zQa (by omega) (by omega)]
   exact hJ _ _ aI ⟨by omega,by rw[zJQ _ hz,hal,show zQO f p v=true by simpa using d2];rfl,bn.trans aK⟩
 ·have aI:k=l.length:=by have:=zQd d1;omega
  have:zKs l p r.v=true:=by unfold zKs;rw[←hal,List.take_of_length_le (by rw[List.length_zip];omega)]
  exact⟨by rw[zJ5 hl,this];rfl,aq.trans ar⟩
theorem zJE{l:List Fld}{p:Int}:∀{rs:List Rec} {k:Nat} {r:Rec},(∀x ∈ rs.take k,zQ0 l p x=0)->rs[k]?=some r->zQ0 l p r ≠ 0->zXu l p rs=zQ0 l p r
 | [],k,r,_,h,_=>by simp at h
 | x :: rs,0,r,_,h,h2=>by simp at h;subst h;unfold zXu;rw[if_pos h2]
 | x :: rs,k+1,r,h0,h,h2=>by
  unfold zXu
  rw[if_neg (by rw[h0 x (by simp)];simp)]
  exact zJE (k:=k) (λy hy=>h0 y (by simp[hy])) (by simpa using h) h2
theorem zJJ{l:List Fld}{p:Int}:∀{rs:List Rec},(∀x ∈ rs,zQ0 l p x=0)->zXu l p rs=0
 | [],_=>rfl
 | x :: rs,h=>by unfold zXu;rw[if_neg (by rw[h x (by simp)];simp)];exact zJJ λy hy=>h y (by simp[hy])
theorem zYH{t:Tbl}(h:zQW t.page=false):zQh t=1:=by unfold zQh;rw[h];rfl
theorem zWz{t:Tbl}(h:zQW t.page=true)(h2:zQT t.fields ≠ 0):zQh t=zQT t.fields:=by unfold zQh;rw[h,if_pos rfl,if_pos h2]
theorem zYK{t:Tbl}(h:zQW t.page=true)(h2:zQT t.fields=0)(h3:300<t.recs.length):zQh t=3:=by unfold zQh;rw[h,if_pos rfl,if_neg (by omega),if_pos h3]
theorem zYP{t:Tbl}(h:zQW t.page=true)(h2:zQT t.fields=0)(h3:¬300<t.recs.length):zQh t=zXu t.fields t.page t.recs:=by unfold zQh;rw[h,if_pos rfl,if_neg (by omega),if_neg h3]
theorem zXl{l:List Fld}(h:zQT l=0):l ≠ []/\l.all zQn=true/\(l.map (·.name)).Nodup/\l.length<=16/\zXK l<=2000:=by
 unfold zQT at h
 split at h
 ·omega
 ·rename_i h1
  split at h
  ·omega
  ·rename_i h2
   split at h
   ·omega
   ·rename_i h3
    simp only[not_or]at h1 h3
    exact⟨h1.1,by simpa using h1.2,by simpa using h2,by omega,by omega⟩
abbrev zWR(t:Tbl)(f r:SV):Value:=.agg #[.int .i64 t.page,.slice f.a f.len f.cap,.slice r.a r.len r.cap]
theorem yJ6{w:World}{t:Tbl}{f r:SV}(h:zXz w t f r):Calls prog 13 #[zWR t f r] w λe w'=>e=.returned (.int .i64 (zQh t))/\Pu w w':=by
 refine yYR _ _ _ w _ ?_
 refine alB λw1 aq ay=>⟨_,cl0 ay,(yXO t.page w1).mono ?_⟩
 rintro e w2 ⟨rfl,ar⟩
 have h1:=h.recs.len
 have h3:=h.recs.lim
 refine⟨_,rfl,Br.of (λd=>⟨by rw[zYH (by simpa using d)],aq.trans ar⟩) (λd=>⟨_,cl (ar.blk ay) 1,(yQe (h.fields.pu (aq.trans ar))).mono ?_⟩)⟩
 have hpg:zQW t.page=true:=by simpa using d
 rintro e w3 ⟨rfl,ax⟩
 have bn:=ar.trans ax
 refine⟨_,rfl,Br.of (λd1=>⟨by rw[zWz hpg (zQ1 d1)],aq.trans bn⟩) (λd1=>⟨_,cl (bn.blk ay) 2,Br.of (λd2=>⟨by rw[zYK hpg (zQs d1) (by have:=zQk d2;omega)],aq.trans bn⟩) (λd2=>?_)⟩)⟩
 have hvf:=zQs d1
 have e0:=zYP hpg hvf (by have:=zQd d2;omega)
 refine zQw t.recs.length (λk u w'=>u=(k:Int)/\(∀x ∈ t.recs.take k,zQ0 t.fields t.page x=0)/\Pu w1 w') ⟨rfl,by simp,bn⟩ ?_
 rintro k J u w4 hk ⟨hu,hal,aK⟩ hJ
 obtain rfl:u=(k:Int):=hu
 refine⟨_,cl (aK.blk ay) 2,Br.of (λd3=>zQc λw5 aU _=>?_) (λd3=>?_)⟩
 ·have aI:k<t.recs.length:=by have:=zQk d3;omega
  obtain⟨x,hx⟩:=zQM aI
  have fh:=aK.trans aU
  obtain⟨a,q,ha,hi,hq,c0,c1⟩:=zWi ((h.recs.pu aq).pu fh) hx
  refine⟨_,cl (fh.blk ay) 1,_,cl0 (fh.blk ay),_,cl (fh.blk ay) 2,a,ha,by omega,by omega,_,c0,_,c1,(zWf t.page ((h.fields.pu aq).pu fh) hq).mono ?_⟩
  rintro e w6 ⟨rfl,bC⟩
  refine⟨_,rfl,Br.of (λd4=>⟨by rw[e0,zJE hal hx (zQ1 d4)],aq.trans (fh.trans bC)⟩) (λd4=>?_)⟩
  rw[zQa (by omega) (by omega)]
  refine hJ _ _ aI ⟨by omega,λy hy=>?_,fh.trans bC⟩
  rw[zQB hx,List.mem_append,List.mem_singleton]at hy
  rcases hy with hy|rfl
  ·exact hal y hy
  ·exact zQs d4
 ·have aI:k=t.recs.length:=by have:=zQd d3;omega
  subst aI
  rw[List.take_length]at hal
  exact⟨by rw[e0,zJJ hal],aq.trans aK⟩
theorem zZy{w:World}{t:Tbl}{f r:SV}(h:zXz w t f r)(hl:Lim.ok t.fields):Calls prog 106 #[zWR t f r] w λe w'=>e=.returned (.int .i64 (zQh t))/\Pu w w':=by
 refine yKT _ _ _ w _ ?_
 refine alB λw1 aq ay=>⟨_,cl0 ay,(yKs t.page w1).mono ?_⟩
 rintro e w2 ⟨rfl,ar⟩
 have h1:=h.recs.len
 have h3:=h.recs.lim
 have h1f:=h.fields.len
 have h3f:=h.fields.lim
 refine⟨_,rfl,Br.of (λd=>⟨by rw[zYH (by simpa using d)],aq.trans ar⟩) (λd=>⟨_,cl (ar.blk ay) 1,(zZJ (h.fields.pu (aq.trans ar)) hl).mono ?_⟩)⟩
 have hpg:zQW t.page=true:=by simpa using d
 rintro e w3 ⟨rfl,ax⟩
 have bn:=ar.trans ax
 refine⟨_,rfl,Br.of (λd1=>⟨by rw[zWz hpg (zQ1 d1)],aq.trans bn⟩) (λd1=>⟨_,cl (bn.blk ay) 2,Br.of (λd2=>⟨by rw[zYK hpg (zQs d1) (by have:=zQk d2;omega)],aq.trans bn⟩) (λd2=>⟨_,cl (bn.blk ay) 2,?_⟩)⟩)⟩
 have hvf:=zQs d1
 obtain⟨_,hall,_,_,_⟩:=zXl hvf
 have e0:=zYP hpg hvf (by have:=zQd d2;omega)
 refine zQw t.recs.length (λk u w'=>u=(k:Int)/\(∀x ∈ t.recs.take k,zQ0 t.fields t.page x=0)/\Pu w1 w') ⟨rfl,by simp,bn⟩ ?_
 rintro k J u w4 hk ⟨hu,hal,aK⟩ hJ
 obtain rfl:u=(k:Int):=hu
 refine Br.of (λd3=>?_) (λd3=>?_)
 ·have aI:k<t.recs.length:=by have:=zQk d3;omega
  obtain⟨x,hx⟩:=zQM aI
  obtain⟨a,q,ha,hi,hq,c0,c1⟩:=zWi ((h.recs.pu aq).pu aK) hx
  have next:∀{w6:World},Pu w4 w6->zQ0 t.fields t.page x=0->xQN (λe w'=>e=.returned (.int .i64 (zQh t))/\Pu w w') J (some (⟨w.heap.size,0,none⟩:Addr)) r ((r.len:Nat):Int) (k:Int) [] w6:=λ{w6} bC h0=>by
   show J (IntKind.i64.wrap ((k:Int)+1)) w6
   rw[zQa (by omega) (by omega)]
   refine hJ _ _ aI ⟨by omega,λy hy=>?_,aK.trans bC⟩
   rw[zQB hx,List.mem_append,List.mem_singleton]at hy
   rcases hy with hy|rfl
   ·exact hal y hy
   ·exact h0
  have hql:=hq.len
  refine⟨a,ha,by omega,by omega,_,c0,_,c1,yQk rfl (by kernel_rfl) rfl λw5 aU oo bu=>⟨_,cl bu 1,_,cl ((aK.trans aU).blk ay) 1,Br.of (λd4=>?_) (λd4=>⟨_,cl ((aK.trans aU).blk ay) 1,?_⟩)⟩⟩
  ·have:zQ0 t.fields t.page x=10:=zVc (by have:=zQ1 d4;omega)
   exact⟨by rw[e0,zJE hal hx (by rw[this];omega),this],aq.trans (aK.trans aU)⟩
  have hlen:x.v.length=t.fields.length:=by have:=zQs d4;omega
  have fh:=aK.trans aU
  refine zQw t.fields.length (λj u w'=>u=(j:Int)/\((t.fields.zip x.v).take j).all (λy=>zQO y.1 t.page y.2)=true/\Pu w5 w') ⟨rfl,rfl,Pu.refl _⟩ ?_
  rintro j J2 u w6 hj ⟨hu,haz,bC⟩ wN
  obtain rfl:u=(j:Int):=hu
  have dQ:=fh.trans bC
  refine Br.of (λd5=>?_) (λd5=>?_)
  ·have j8:j<t.fields.length:=by have:=zQk d5;omega
   obtain⟨g,hg⟩:=zQM j8
   obtain⟨v,hv⟩:=zQM (show j<x.v.length by omega)
   obtain⟨b,hb,hbi,_,_,c',k0,k1,k2,k3⟩:=zJd ((h.fields.pu aq).pu dQ) hg
   refine⟨b,hb,by omega,by omega,_,k0,_,k1,_,k2,_,k3,yQk rfl s23.symm rfl λw7 cH hs7 j0=>zQc λw8 cj _=>?_⟩
   have o5:=cH.trans cj
   have mW:=dQ.trans o5
   have j1:=cj.blk j0
   obtain⟨m,hm,hmi,_,_,v0,v1,v2⟩:=yVs (hq.pu ((aU.trans bC).trans o5)) hv
   refine⟨_,cl j1 0,_,cl j1 1,_,cl j1 2,_,cl j1 3,_,cl0 (mW.blk ay),q,cl ((bC.trans o5).blk bu) 1,m,hm,by omega,by omega,_,v0,_,v1,_,v2,(xYv g t.page v (hl g (List.mem_of_getElem? hg)) (List.all_eq_true.1 hall g (List.mem_of_getElem? hg)) hpg w8).mono ?_⟩
   rintro e w9 ⟨rfl,cI⟩
   have hz:=yYO hg hv
   refine⟨_,rfl,Br.of (λd6=>?_) (λd6=>?_)⟩
   ·have:zKs t.fields t.page x.v=false:=by unfold zKs;rw[List.all_eq_false];exact⟨_,List.mem_of_getElem? hz,by simpa using d6⟩
    have h1:zQ0 t.fields t.page x=1:=by rw[zJ5 hlen,this];rfl
    exact⟨by rw[e0,zJE hal hx (by rw[h1];omega),h1],aq.trans (mW.trans cI)⟩
   ·rw[zQa (by omega) (by omega)]
    exact wN _ _ j8 ⟨by omega,by rw[zJQ _ hz,haz,show zQO g t.page v=true by simpa using d6];rfl,(bC.trans o5).trans cI⟩
  ·have j8:j=t.fields.length:=by have:=zQd d5;omega
   have:zKs t.fields t.page x.v=true:=by unfold zKs;rw[←haz,List.take_of_length_le (by rw[List.length_zip];omega)]
   exact next (aU.trans bC) (by rw[zJ5 hlen,this];rfl)
 ·have aI:k=t.recs.length:=by have:=zQd d3;omega
  subst aI
  rw[List.take_length]at hal
  exact⟨by rw[e0,zJJ hal],aq.trans aK⟩
end Go.Proofs.YtaeecpjhfmcliaaGreatDoor
/- Table: the bytes of a header. No condition. -/
namespace Go.Proofs.YtaeecpjhfmcliaaGreatDoor
open Go.Sh Go.RowKit Tryz
def u8V(b:UInt8):Value:=.int .u8 ((b.toNat:Nat):Int)
def zZD(n:Int):UInt8:=UInt8.ofNat (n % 256).toNat
theorem zJ3(n:Int):(Value.int .u8 (IntKind.u8.wrap n))=u8V (zZD n):=by
 unfold u8V zZD
 rw[IntKind.wrap_u8]
 congr 1
 have:(UInt8.ofNat (n % 256).toNat).toNat=(n % 256).toNat:=by simp;omega
 rw[this];omega
theorem yVC:(prog.info? 5).map (λi=>(i.zero,i.size,i.bytes))=some (some (.int .u8 0),1,1):=by kernel_rfl
def zQf(w0 w:World)(s:SV)(l:List UInt8):Prop:=zQl w 5 1 s (l.map u8V)/\∀b ∈ zQe s,w0.heap.size<=b
theorem zQf.len{w0 w:World}{s:SV}{l:List UInt8}(h:zQf w0 w s l):s.len=l.length:=by have:=h.1.1;simp at this;omega
theorem zQf.pu{w0 w w':World}{s:SV}{l:List UInt8}(h:zQf w0 w s l)(hp:Pu w w'):zQf w0 w' s l:=⟨h.1.pu hp,h.2⟩
theorem zQf.nil(w0 w:World):zQf w0 w ⟨none,0,0⟩ []:=⟨zQl.nil w 5 1,by simp[zQe]⟩
theorem zQf.fr{B:Nat->Prop}{w0 w w':World}{s:SV}{l:List UInt8}(h:zQf w0 w s l)(hf:Fr B w w')(hn:∀k ∈ zQe s,¬B k):zQf w0 w' s l:=⟨h.1.fr hf hn,h.2⟩
theorem zQf.low{w0 w1 w:World}{s:SV}{l:List UInt8}(h:zQf w1 w s l)(hz:w0.heap.size<=w1.heap.size):zQf w0 w s l:=⟨h.1,λb hb=>Nat.le_trans hz (h.2 b hb)⟩
theorem zQf.app {w0 w:World} {s m:SV} {l news:List UInt8} (h:zQf w0 w s l) (hz:w0.heap.size<=w.heap.size) (hl:m.len=news.length) (hn:∀(j:Nat) (b:UInt8),news[j]?=some b->∃a,m.a=some a/\w.cell? (a.add j)=some (u8V b)) (hb:l.length+news.length<=70368744177664) :
  ∃(s':SV) (w':World),(Builtin.append_ #[22,22] 22 #[.slice s.a s.len s.cap,.slice m.a m.len m.cap]).run prog w=.ok (.slice s'.a s'.len s'.cap) w'/\zQf w0 w' s' (l ++ news)/\Fr (· ∈ zQe s) w w':=by
 have h1:=h.len
 obtain⟨s',w',hr,hrow,hf,hblk,_⟩:=zKo (P:=prog) (ty:=22) u37 yVC rfl h.1 (m:=m) (news:=news.map u8V) (by simpa using hl) (λj u hu=>by
  obtain⟨b,hb,rfl⟩:∃b,news[j]?=some b/\u8V b=u:=by simpa using hu
  exact hn j b hb) (λu hu=>by simp at hu;obtain⟨x,_,rfl⟩:=hu;rfl) (by omega)
 refine⟨s',w',hr,⟨by rw[List.map_append];exact hrow,λb hb=>?_⟩,hf⟩
 rcases hblk b hb with h2|h2
 ·exact h.2 b h2
 ·omega
theorem zQf.one {w0 w:World} {s:SV} {l:List UInt8} (h:zQf w0 w s l) (hz:w0.heap.size<=w.heap.size) {r:Nat} {b:UInt8} {c:Array Value} (hr:w.heap[r]?=some (.cells c 5)) (hc:c[0]?=some (u8V b)) (hb:l.length<=70368744177663) :
  ∃(s':SV) (w':World),(Builtin.append_ #[22,22] 22 #[.slice s.a s.len s.cap,.slice (some ⟨r,0,none⟩) 1 1]).run prog w=.ok (.slice s'.a s'.len s'.cap) w'/\zQf w0 w' s' (l ++ [b])/\Fr (· ∈ zQe s) w w':=
 h.app hz (m:=⟨some ⟨r,0,none⟩,1,1⟩) (news:=[b]) rfl (λj b' hj=>by
  cases j with
  | zero=>simp at hj;subst hj;exact⟨_,rfl,by rw[yYd,zQF hr];exact hc⟩
  | succ j=>simp at hj) (by simp;omega)
theorem zQf.box {w0 w:World} {r:Nat} {l:List UInt8} (hr:w.heap[r]?=some (.cells (l.map u8V).toArray 5)) (hz:w0.heap.size<=r) (hl:l.length<=140737488355328):zQf w0 w ⟨some ⟨r,0,none⟩,l.length,l.length⟩ l:=
 ⟨⟨by simp,.inr ⟨r,_,rfl,hr,Nat.le_refl _,by show l.length<=maxLen;unfold maxLen;omega,by simp,by simp[←List.map_take]⟩⟩,λb hb=>by simp[zQe]at hb;omega⟩
theorem zQf.cell {w0 w:World} {s:SV} {l:List UInt8} (h:zQf w0 w s l) {j:Nat} {b:UInt8} (hj:l[j]?=some b):∃a,s.a=some a/\w.cell? (a.add j)=some (u8V b):=by
 obtain⟨a,h1,h2,_⟩:=h.1.cell (j:=j) (v:=u8V b) (by rw[List.getElem?_map,hj];rfl)
 exact⟨a,h1,h2⟩
def zVF(n k:Nat):List UInt8:=(List.range k).map λj=>UInt8.ofNat (n / 256 ^ j % 256)
theorem zXm(n k:Nat):(zVF n k).length=k:=by simp[zVF]
theorem yXK(n k:Nat):zVF n (k+1)=zVF n k ++ [UInt8.ofNat (n / 256 ^ k % 256)]:=by simp[zVF,List.range_succ]
theorem zY6(n:Nat):zZD (n:Int)=UInt8.ofNat (n % 256):=by
 unfold zZD;congr 1
theorem xJv(n k:Nat)(hk:k<=8)(w:World):Calls prog 202 #[.int .i64 (n:Int),.int .i64 (k:Int)] w λe w'=>∃s:SV,e=.returned (.slice s.a s.len s.cap)/\zQf w w' s (zVF n k)/\Pu w w':=by
 refine yV6 _ _ w _ ?_
 refine zQw k (λj t w'=>t.1=((n / 256 ^ j:Nat):Int)/\t.2.2=(j:Int)/\zQf w w' t.2.1 (zVF n j)/\Pu w w') ⟨by simp,rfl,zQf.nil w w,Pu.refl _⟩ ?_
 rintro j J ⟨t1,t2,t3⟩ w2 hj ⟨h1,h3,hr,hp⟩ hJ
 obtain rfl:t1=((n / 256 ^ j:Nat):Int):=h1
 obtain rfl:t3=(j:Int):=h3
 have hr:zQf w w2 t2 (zVF n j):=hr
 dsimp only
 refine Br.of (λd=>?_) (λd=>?_)
 ·have j8:j<k:=by have:=zQk d;omega
  refine alB λw3 ax br=>?_
  have hz:w.heap.size<=w3.heap.size:=(hp.trans ax).size
  obtain⟨s',w4,e4,hr4,gR⟩:=(hr.pu ax).one hz (b:=zZD ((n / 256 ^ j:Nat):Int)) br (by rw[zJ3];rfl) (by rw[zXm];omega)
  refine⟨s',w4,e4,by omega,?_⟩
  rw[zQa (by omega) (by omega)]
  refine hJ _ _ j8 ⟨?_,by dsimp only;omega,?_,(hp.trans ax).andNew gR λi hi=>hr.2 i hi⟩
  ·show Int.fdiv ((n / 256 ^ j:Nat):Int) (2 ^ 8)=_
   rw[Int.fdiv_eq_ediv_of_nonneg _ (by decide),Nat.pow_succ,←Nat.div_div_eq_div_mul]
   norm_cast
  ·dsimp only;rw[yXK,←zY6];exact hr4
 ·have j8:j=k:=by have:=zQd d;omega
  subst j8
  exact⟨t2,rfl,hr,hp⟩
def zVl(k:Int):UInt8:=if k=1 then 76 else if k=2 then 78 else if k=3 then 68 else if k=4 then 67 else 77
def xX1(b:Bool):UInt8:=if b then 1 else 0
def zQK(f:Fld):List UInt8:=f.name.data.toList ++ List.replicate (10 - f.name.size) 0 ++ [zVl f.kind,zZD f.width,xX1 f.null,0,0,0]
def zJu(t:Tbl):List UInt8:=[67,zZD t.page] ++ zVF t.recs.length 4 ++ zVF (13+16 * t.fields.length) 2 ++ zVF (zXK t.fields).toNat 2 ++ [zZD t.fields.length,0] ++ t.fields.flatMap zQK ++ [13]
theorem zXa{f:Fld}(h:zQn f=true):1<=f.name.size/\f.name.size<=10/\∃K,zXc f.kind=some K/\K.letter=((zVl f.kind).toNat:Nat):=by
 unfold zQn at h
 simp only[Bool.and_eq_true]at h
 obtain⟨hn,hk⟩:=h
 unfold zZx at hn
 simp only[Bool.and_eq_true,decide_eq_true_eq]at hn
 refine⟨hn.1.1.1,hn.1.1.2,?_⟩
 rcases zJP f.kind with⟨e,h1⟩|⟨e,h1⟩|⟨e,h1⟩|⟨e,h1⟩|⟨e,h1⟩|⟨h1,h2,h3,h4,h5,hh⟩
 ·exact⟨_,h1,by rw[e];rfl⟩
 ·exact⟨_,h1,by rw[e];rfl⟩
 ·exact⟨_,h1,by rw[e];rfl⟩
 ·exact⟨_,h1,by rw[e];rfl⟩
 ·exact⟨_,h1,by rw[e];rfl⟩
 ·rw[yQI (by rw[hh];rfl)]at hk;cases hk
theorem zZu{f:Fld}(h:f.name.size<=10):(zQK f).length=16:=by
 unfold zQK;simp only[List.length_append,List.length_replicate,zQ3,List.length_cons,List.length_nil];omega
theorem yZ5(n:Nat)(hn:n<=1000000)(w:World):Calls prog 159 #[.int .i64 (n:Int)] w λe w'=>e=.returned (.int .i64 ((13+16 * n:Nat):Int))/\Pu w w':=by
 refine yWH _ w _ ⟨?_,Pu.refl w⟩
 rw[zQa (n:=16 * (n:Int)) (by omega) (by omega),zQa (by omega) (by omega)];norm_cast
theorem u123:prog.underlying 227=some (.array 16 5):=by kernel_rfl
theorem xJh(r:Nat)(w:World):(Instr.sliceAt 227 (.pointer (some (⟨r,0,none⟩:Addr))) none (some (.int .i64 10)) (some (.int .i64 10))).run prog w=.ok (.slice (some ⟨r,0,none⟩) 10 10) w:=by
 have hs:(sizeOf 5).run prog w=.ok 1 w:=Tryz.sizeOf5 w
 simp[Instr.sliceAt,zQo u123,Instr.sureAddr,hs,Instr.sliceBounds,Instr.sliceBound,asIntOf,Addr.add]
end Go.Proofs.YtaeecpjhfmcliaaGreatDoor
/- Table: the program's header of a table. No condition. -/
namespace Go.Proofs.YtaeecpjhfmcliaaGreatDoor
open Go.Sh Go.RowKit Tryz
def xWy(R:Rt)(r1 dI:Nat)(bP:SV)(ds:Ds)(cq:World):Prop:=
 ∃fe:SV,∃d7:World,(Builtin.append_ #[22,22] 22 #[.slice (some ⟨dI,0,none⟩) 2 2,.slice bP.a bP.len bP.cap]).run prog cq=.ok (.slice fe.a fe.len fe.cap) d7/\
 ∃du:SV,d7.cell? ((⟨r1,0,none⟩:Addr).add 1)=some (.slice du.a du.len du.cap)/\
 Calls prog 159 #[.int .i64 ((du.len:Nat):Int)] d7 λe dU=>
 ∃j9:Int,e=.returned (.int .i64 j9)/\
 Calls prog 202 #[.int .i64 j9,.int .i64 2] dU λe dD=>
 ∃cJ:SV,e=.returned (.slice cJ.a cJ.len cJ.cap)/\
 ∃dw:SV,∃gy:World,(Builtin.append_ #[22,22] 22 #[.slice fe.a fe.len fe.cap,.slice cJ.a cJ.len cJ.cap]).run prog dD=.ok (.slice dw.a dw.len dw.cap) gy/\
 ∃eb:SV,gy.cell? ((⟨r1,0,none⟩:Addr).add 1)=some (.slice eb.a eb.len eb.cap)/\
 Calls prog 161 #[.slice eb.a eb.len eb.cap] gy λe fX=>
 ∃cr:Int,e=.returned (.int .i64 cr)/\
 Calls prog 202 #[.int .i64 cr,.int .i64 2] fX λe iy=>
 ∃bR:SV,e=.returned (.slice bR.a bR.len bR.cap)/\
 ∃ez:SV,∃eg:World,(Builtin.append_ #[22,22] 22 #[.slice dw.a dw.len dw.cap,.slice bR.a bR.len bR.cap]).run prog iy=.ok (.slice ez.a ez.len ez.cap) eg/\
 ∃iP:SV,eg.cell? ((⟨r1,0,none⟩:Addr).add 1)=some (.slice iP.a iP.len iP.cap)/\
 alE (.cells #[.int .u8 (IntKind.u8.wrap ((iP.len:Nat):Int)),.int .u8 0] 5) eg λyr gb=>
 ∃iz:SV,∃iK:World,(Builtin.append_ #[22,22] 22 #[.slice ez.a ez.len ez.cap,.slice (some ⟨yr,0,none⟩) 2 2]).run prog gb=.ok (.slice iz.a iz.len iz.cap) iK/\
 ∃eV:SV,iK.cell? ((⟨r1,0,none⟩:Addr).add 1)=some (.slice eV.a eV.len eV.cap)/\
 yZI R iz eV ((eV.len:Nat):Int) 0 ds iK
theorem yZd {l:List Fld} {k:Nat} {f:Fld} (h:l[k]?=some f):(l.take (k+1)).flatMap zQK=(l.take k).flatMap zQK ++ zQK f:=by
 rw[zQB h,List.flatMap_append];simp
theorem yWX{l:List Fld}(h:∀f ∈ l,f.name.size<=10):(l.flatMap zQK).length<=16 * l.length:=by
 induction l with
 | nil=>simp
 | cons f l ih=>
  rw[List.flatMap_cons,List.length_append,zZu (h f (by simp)),List.length_cons]
  have:=ih λg hg=>h g (by simp[hg])
  omega
theorem yXe(l:List UInt8):Lib.byteCells l=l.map u8V:=rfl
def xXJ(n:Nat):List Value:=List.replicate n (.int .u8 0)
def zZI(s:ByteArray)(a b c:Value):Array Value:=(s.data.toList.map u8V ++ (List.replicate (10 - s.size) 0).map u8V ++ [a,b,c,.int .u8 0,.int .u8 0,.int .u8 0]).toArray
theorem yJ7{s:ByteArray}(h:s.size<=10)(a b c:Value):(zZI s a b c).size=16:=by
 unfold zZI;simp only[List.size_toArray,List.length_append,List.length_map,zQ3,List.length_replicate,List.length_cons,List.length_nil];omega
theorem yZD{s:ByteArray}(h:s.size<=10)(a b c v:Value):(zZI s a b c).setIfInBounds 10 v=zZI s v b c:=by
 unfold zZI
 apply Array.toList_inj.1
 rw[Array.toList_setIfInBounds]
 simp only
 rw[List.set_append_right _ _ (by simp only[List.length_append,List.length_map,zQ3,List.length_replicate];omega)]
 simp only[List.length_append,List.length_map,zQ3,List.length_replicate]
 rw[show 10 - (s.size+(10 - s.size))=0 by omega];rfl
theorem yZ3{s:ByteArray}(h:s.size<=10)(a b c v:Value):(zZI s a b c).setIfInBounds 11 v=zZI s a v c:=by
 unfold zZI
 apply Array.toList_inj.1
 rw[Array.toList_setIfInBounds]
 simp only
 rw[List.set_append_right _ _ (by simp only[List.length_append,List.length_map,zQ3,List.length_replicate];omega)]
 simp only[List.length_append,List.length_map,zQ3,List.length_replicate]
 rw[show 11 - (s.size+(10 - s.size))=1 by omega];rfl
theorem yZw{s:ByteArray}(h:s.size<=10)(a b c v:Value):(zZI s a b c).setIfInBounds 12 v=zZI s a b v:=by
 unfold zZI
 apply Array.toList_inj.1
 rw[Array.toList_setIfInBounds]
 simp only
 rw[List.set_append_right _ _ (by simp only[List.length_append,List.length_map,zQ3,List.length_replicate];omega)]
 simp only[List.length_append,List.length_map,zQ3,List.length_replicate]
 rw[show 12 - (s.size+(10 - s.size))=2 by omega];rfl
theorem zVC(f:Fld):zZI f.name (u8V (zVl f.kind)) (u8V (zZD f.width)) (u8V (xX1 f.null))=((zQK f).map u8V).toArray:=by
 unfold zZI zQK
 simp only[List.map_append,List.map_cons,List.map_nil];rfl
theorem xQj {w:World} {r:Nat} {s:ByteArray} (hb:w.heap[r]?=some (.cells (xXJ 16).toArray 227)) (hs:s.size<=10) :
  ∃(n:Int) (w':World),(Builtin.copy_ #[22,9] 3 #[.slice (some ⟨r,0,none⟩) 10 10,.string s]).run prog w=.ok (.int .i64 n) w'/\w'.heap[r]?=some (.cells (zZI s (.int .u8 0) (.int .u8 0) (.int .u8 0)) 227)/\Fr (·=r) w w':=by
 have h:=Lib.run_copy_row_string (P:=prog) w 22 9 3 5 r 0 10 10 s (xXJ 16).toArray 227 u37 (by have:=yVC;simp only[Option.map_eq_some_iff]at *;obtain⟨i,h1,h2⟩:=this;exact⟨i,h1,by simp at h2;exact h2.2.1⟩) hb (by omega) (by simp[xXJ];omega)
 refine⟨_,_,h,?_,?_⟩
 ·rw[setRow_heap w r _ _ 227 (0,0) hb]
  congr 2
  unfold zZI
  rw[yXe]
  simp only[List.take_zero,List.nil_append,Nat.zero_add,xXJ]
  rw[List.drop_replicate]
  apply Array.toList_inj.1
  simp only[List.append_assoc]
  congr 1
  have e:(List.replicate (10 - s.size) (0:UInt8)).map u8V=List.replicate (10 - s.size) (.int .u8 0):=by rw[List.map_replicate];rfl
  rw[e,show 16 - s.size=(10 - s.size)+6 by omega,←List.replicate_append_replicate];rfl
 ·exact⟨rfl,rfl,rfl,by simp,λk _ hk=>setRow_other w r k _ hk⟩
theorem yWM{ww w0 w:World}(hww:Pu ww w0){s l:SV}{fs:List Fld}{acc:List UInt8}(hz:w0.heap.size<=w.heap.size)(hp0:Pu w0 w)(h:zX6 w0 s fs)(hr:zQf w0 w l acc)(hall:fs.all zQn=true)(hn:fs.length<=16)(ha:acc.length<=100) :
  yZI (λe w'=>∃q:SV,e=.returned (.slice q.a q.len q.cap)/\zQf ww w' q (acc ++ fs.flatMap zQK ++ [13])/\Pu ww w') l s ((s.len:Nat):Int) 0 [] w:=by
 have hlen:=h.len
 have fY:∀f ∈ fs,f.name.size<=10:=λf hf=>(zXa (List.all_eq_true.1 hall f hf)).2.1
 refine zQw fs.length (λk t w'=>t.2=(k:Int)/\zQf w0 w' t.1 (acc ++ (fs.take k).flatMap zQK)/\Pu w0 w') ⟨rfl,by simpa using hr,hp0⟩ ?_
 rintro k J ⟨t1,t2⟩ w2 hk ⟨h2,jo,ar⟩ hJ
 obtain rfl:t2=(k:Int):=h2
 have jo:zQf w0 w2 t1 (acc ++ (fs.take k).flatMap zQK):=jo
 have hfl:=yWX (l:=fs.take k) λf hf=>fY f (List.mem_of_mem_take hf)
 have htl:=List.length_take_le k fs
 dsimp only
 refine Br.of (λd=>?_) (λd=>?_)
 ·have aI:k<fs.length:=by have:=zQk d;omega
  obtain⟨f,hf⟩:=zQM aI
  have hfB:=List.all_eq_true.1 hall f (List.mem_of_getElem? hf)
  obtain⟨f1,f10,K,hK,hKl⟩:=zXa hfB
  obtain⟨a,ha',hi,_,_,_,c0,c1,c2,c3⟩:=zJd (h.pu ar) hf
  refine⟨a,ha',by omega,by omega,_,c0,_,c1,_,c2,_,c3,yQk rfl s23.symm rfl λw3 ax qF br=>alB λw4 aK dx=>zQc λw5 aU hh5=>?_⟩
  have zM:=(aK.trans aU).blk br
  have hb45:w5.heap[w3.heap.size]?=some (.cells (xXJ 16).toArray 227):=aU.blk dx
  have hlt:w2.heap.size<w3.heap.size:=zQx br
  have dC:Pu w0 w5:=((ar.trans ax).trans aK).trans aU
  refine⟨λu=>u=w5,rfl,f.name,λu hu=>by subst hu;exact cl0 zM,⟨some ⟨w3.heap.size,0,none⟩,10,10⟩,w5,xJh _ w5,rfl,?_⟩
  obtain⟨n,w6,e6,fV,iN⟩:=xQj hb45 f10
  refine⟨n,w6,e6,zQc λw7 cH hh7=>?_⟩
  have zN:=cH.blk (iN.blk zM (show ¬w2.heap.size=w3.heap.size by omega))
  have zO:=cH.blk fV
  have pR:zQf w0 w7 t1 (acc ++ (fs.take k).flatMap zQK):=((((jo.pu ax).pu aK).pu aU).fr iN λb hb e=>by
   have aN:=jo.1.lt b hb
   have e:b=w3.heap.size:=e
   omega).pu cH
  have gm:Pu w0 w7:=(dC.andNew iN λi hi=>by have hi:i=w3.heap.size:=hi;have:=ar.size;omega).trans cH
  refine⟨λu=>u.heap[w2.heap.size]?=some (.cells #[.string f.name,.int .i64 f.kind,.int .i64 f.width,.bool f.null] 129),zN,f.kind,λu hu=>cl hu 1,f.width,λu hu=>cl hu 2,(zWZ w7).mono ?_⟩
  rintro e w8 ⟨m,rfl,hm,xG,cj⟩
  have hb48:=cj.blk zO
  have zP:=cj.blk zN
  have hsz:∀a b c,(zZI f.name a b c).size=16:=yJ7 f10
  have z3:w3.heap.size<w7.heap.size:=zQx zO
  refine⟨some m,rfl,λu=>u.heap[w2.heap.size]?=some (.cells #[.string f.name,.int .i64 f.kind,.int .i64 f.width,.bool f.null] 129)/\zXF u yWS zY4 m zZo,⟨zP,hm⟩,λu hu=>hu.1,K.letter,K.least,K.most,.func (.func K.wr) #[] #[],.func (.func K.rd) #[] #[],λu hu=>?_,by omega,by omega,?_⟩
  ·have:=zWL hu.2 f.kind false
   rw[hK]at this;exact this
  ·show st1 ((⟨w3.heap.size,0,none⟩:Addr).add 10) _ w8 _
   rw[zQr,Nat.zero_add]
   refine zQt hb48 (by rw[hsz];omega) λw9 hw9 oq=>?_
   have o6:Fr (·=w3.heap.size) w8 w9:=by rw[hw9];exact Fr.cell w8 _ 10 _
   rw[yZD f10,hKl]at oq
   have zQ:=o6.blk zP (show ¬w2.heap.size=w3.heap.size by omega)
   refine⟨λu=>u.heap[w2.heap.size]?=some (.cells #[.string f.name,.int .i64 f.kind,.int .i64 f.width,.bool f.null] 129)/\zXF u yWS zY4 m zZo,⟨zQ,hm.fr o6 (by omega)⟩,λu hu=>hu,by omega,by omega,?_⟩
   show st1 ((⟨w3.heap.size,0,none⟩:Addr).add 11) _ w9 _
   rw[zQr,Nat.zero_add]
   refine zQt oq (by rw[hsz];omega) λaO wL iG=>?_
   have mU:Fr (·=w3.heap.size) w9 aO:=by rw[wL];exact Fr.cell w9 _ 11 _
   rw[yZ3 f10,zJ3]at iG
   have pQ:=mU.blk zQ (show ¬w2.heap.size=w3.heap.size by omega)
   -- behind the last store
   have fin:∀{aR:World},Fr (·=w3.heap.size) aO aR->aR.heap[w3.heap.size]?=some (.cells ((zQK f).map u8V).toArray 227)->
     ∃jK:SV,∃aM:World,(Builtin.append_ #[22,22] 22 #[.slice t1.a t1.len t1.cap,.slice (some (if 16=0 then(⟨w3.heap.size,0,none⟩:Addr)else(⟨w3.heap.size,0,none⟩:Addr).add (0 * 1))) (16 - 0) (16 - 0)]).run prog aR=.ok (.slice jK.a jK.len jK.cap) aM/\J (jK,(IntKind.i64.wrap ((k:Int)+1))) aM:=λ{aR} mX ir=>by
    have hfa:Fr (·=w3.heap.size) w8 aR:=(o6.trans mU λ_ h _=>h).trans mX λ_ h _=>h
    have rN:zQf w0 aR t1 (acc ++ (fs.take k).flatMap zQK):=(pR.pu cj).fr hfa λb hb e=>by
     have aN:=jo.1.lt b hb
     have e:b=w3.heap.size:=e
     omega
    have vP:Pu w0 aR:=(gm.trans cj).andNew hfa λi hi=>by have hi:i=w3.heap.size:=hi;have:=ar.size;omega
    obtain⟨s',aM,e12,hr12,eI⟩:=rN.app vP.size (m:=⟨some ⟨w3.heap.size,0,none⟩,16,16⟩) (news:=zQK f) (zZu f10).symm (λj b hj=>⟨_,rfl,by rw[zQr,zQF ir,Nat.zero_add];simp[hj]⟩) (by rw[zZu f10];simp only[List.length_append];omega)
    refine⟨s',aM,e12,?_⟩
    rw[zQa (by omega) (by omega)]
    refine hJ _ _ aI ⟨by dsimp only;omega,?_,vP.andNew eI λi hi=>rN.2 i hi⟩
    rw[yZd hf,←List.append_assoc];exact hr12
   refine⟨_,cl pQ 3,Br.of (λd1=>⟨by omega,by omega,?_⟩) (λd1=>⟨by omega,by omega,fin (Fr.refl _ _) ?_⟩)⟩
   ·show st1 ((⟨w3.heap.size,0,none⟩:Addr).add 12) _ aO _
    rw[zQr,Nat.zero_add]
    refine zQt iG (by rw[hsz];omega) λaR hw11 ir=>⟨by omega,by omega,fin (by rw[hw11];exact Fr.cell aO _ 12 _) ?_⟩
    rw[yZw f10]at ir
    rw[←zVC,d1];exact ir
   ·rw[←zVC,d1];exact iG
 ·have aI:k=fs.length:=by have:=zQd d;omega
  subst aI
  rw[List.take_length]at jo hfl
  refine alB λw3 ax br=>?_
  obtain⟨s',w4,e4,hr4,gR⟩:=(jo.pu ax).one (ar.trans ax).size (b:=13) br rfl (by simp only[List.length_append];omega)
  exact⟨s',w4,e4,s',rfl,hr4.low hww.size,hww.trans ((ar.trans ax).andNew gR λi hi=>jo.2 i hi)⟩
theorem xZ9 {ww w0 cq:World} (hww:Pu ww w0) {t:Tbl} {f r bP:SV} {r1 dI:Nat} (h:zXz w0 t f r) (hvf:zQT t.fields=0) (hrl:t.recs.length<=1000000) (hp:Pu w0 cq) (ay:w0.heap[r1]?=some (.cells #[.int .i64 t.page,.slice f.a f.len f.cap,.slice r.a r.len r.cap] 35)) (oC:w0.heap.size<=dI)
  (iG:cq.heap[dI]?=some (.cells #[.int .u8 67,.int .u8 (IntKind.u8.wrap t.page)] 5)) (hl:zQf w0 cq bP (zVF t.recs.length 4)) :
  xWy (λe w'=>∃q:SV,e=.returned (.slice q.a q.len q.cap)/\zQf ww w' q (zJu t)/\Pu ww w') r1 dI bP [] cq:=by
 obtain⟨hne0,hall,hnd,hn16,hw⟩:=zXl hvf
 have hfl:=h.fields.len
 rw[zJ3]at iG
 have box:zQf w0 cq ⟨some ⟨dI,0,none⟩,2,2⟩ [67,zZD t.page]:=zQf.box (l:=[67,zZD t.page]) iG oC (by simp)
 obtain⟨fe,d7,e22,r15,f22⟩:=box.app hp.size (m:=bP) (news:=zVF t.recs.length 4) hl.len (λj b hj=>hl.cell hj) (by rw[zXm];simp)
 have zR:Pu w0 d7:=hp.andNew f22 λi hi=>box.2 i hi
 refine⟨fe,d7,e22,f,cl (zR.blk ay) 1,?_⟩
 rw[hfl]
 refine(yZ5 t.fields.length (by omega) d7).mono ?_
 rintro e dU ⟨rfl,ou⟩
 refine⟨_,rfl,(xJv (13+16 * t.fields.length) 2 (by omega) dU).mono ?_⟩
 rintro e dD ⟨cJ,rfl,r21,fW⟩
 have vQ:=zR.trans (ou.trans fW)
 have zS:=r15.pu (ou.trans fW)
 obtain⟨dw,gy,e25,r22,f25⟩:=zS.app vQ.size (m:=cJ) (news:=zVF (13+16 * t.fields.length) 2) r21.len (λj b hj=>r21.cell hj) (by simp only[List.length_append,zXm];simp)
 have mR:Pu w0 gy:=vQ.andNew f25 λi hi=>zS.2 i hi
 refine⟨cJ,rfl,dw,gy,e25,f,cl (mR.blk ay) 1,(zVS (h.fields.pu mR) (WOk.of hall)).mono ?_⟩
 rintro e fX ⟨rfl,zT⟩
 have hs:=zJk (WOk.of hall)
 have vR:zXK t.fields=((zXK t.fields).toNat:Int):=by unfold zXK at *;omega
 refine⟨_,rfl,?_⟩
 rw[show(Value.int .i64 (zXK t.fields))=.int .i64 (((zXK t.fields).toNat:Nat):Int)by rw[←vR]]
 refine(xJv (zXK t.fields).toNat 2 (by omega) fX).mono ?_
 rintro e iy ⟨bR,rfl,r27,zU⟩
 have vT:=mR.trans (zT.trans zU)
 have zV:=r22.pu (zT.trans zU)
 obtain⟨ez,eg,e28,r28,f28⟩:=zV.app vT.size (m:=bR) (news:=zVF (zXK t.fields).toNat 2) r27.len (λj b hj=>r27.cell hj) (by simp only[List.length_append,zXm];simp)
 have iu:Pu w0 eg:=vT.andNew f28 λi hi=>zV.2 i hi
 refine⟨bR,rfl,ez,eg,e28,f,cl (iu.blk ay) 1,alB λgb qo zW=>?_⟩
 rw[zJ3,hfl]at zW
 have vU:=iu.trans qo
 have box2:zQf w0 gb ⟨some ⟨eg.heap.size,0,none⟩,2,2⟩ [zZD (t.fields.length:Int),0]:=zQf.box (l:=[zZD (t.fields.length:Int),0]) zW iu.size (by simp)
 have zX:=r28.pu qo
 obtain⟨iz,iK,e30,r35,f30⟩:=zX.app vU.size (m:=⟨some ⟨eg.heap.size,0,none⟩,2,2⟩) (news:=[zZD (t.fields.length:Int),0]) rfl (λj b hj=>box2.cell hj) (by simp only[List.length_append,zXm];simp)
 have wO:Pu w0 iK:=vU.andNew f30 λi hi=>zX.2 i hi
 refine⟨iz,iK,e30,f,cl (wO.blk ay) 1,?_⟩
 exact yWM hww wO.size wO h.fields r35 hall hn16 (by simp only[List.length_append,zXm,List.length_cons,List.length_nil];omega)
theorem yKf{w:World}{t:Tbl}{f r:SV}(h:zXz w t f r)(hvf:zQT t.fields=0)(hrl:t.recs.length<=1000000):Calls prog 157 #[zWR t f r] w λe w'=>∃q:SV,e=.returned (.slice q.a q.len q.cap)/\zQf w w' q (zJu t)/\Pu w w':=by
 refine yWg _ _ _ w _ ?_
 refine alB λw1 aq ay=>zQc λw2 ar hh2=>?_
 have dN:=aq.trans ar
 have aN:=ar.blk ay
 have hrlen:=h.recs.len
 have z1:=dN.size
 have up:∀{cq dI bP},Pu w2 cq->w2.heap.size<=dI->cq.heap[dI]?=some (.cells #[.int .u8 67,.int .u8 (IntKind.u8.wrap t.page)] 5)->zQf w2 cq bP (zVF t.recs.length 4)->
   xWy (λe w'=>∃q:SV,e=.returned (.slice q.a q.len q.cap)/\zQf w w' q (zJu t)/\Pu w w') w.heap.size dI bP [] cq:=λ{cq dI bP} q1 q2 q3 q4=>by
  exact xZ9 dN (h.pu dN) hvf hrl q1 aN q2 q3 q4
 refine⟨λu=>Pu w2 u,Pu.refl _,t.page,λu hu=>cl0 (hu.blk aN),r,λu hu=>cl (hu.blk aN) 2,?_⟩
 rw[hrlen]
 constructor
 ·refine alB λbO iZ hb20=>⟨iZ,(xJv t.recs.length 4 (by omega) bO).mono ?_⟩
  rintro e cq ⟨bP,rfl,aL,rO⟩
  exact⟨bP,rfl,iZ.trans rO,up (iZ.trans rO) (Nat.le_refl _) (rO.blk hb20) (aL.low iZ.size)⟩
 ·refine(xJv t.recs.length 4 (by omega) w2).mono ?_
  rintro e il ⟨bP,rfl,aL,ov⟩
  refine⟨bP,rfl,ov,alB λgz wP hb32=>⟨ov.trans wP,up (ov.trans wP) ov.size hb32 (aL.pu wP)⟩⟩
theorem zKR{t:Tbl}(h:zQh t=0):zQW t.page=true/\zQT t.fields=0/\t.recs.length<=300/\zXu t.fields t.page t.recs=0:=by
 unfold zQh at h
 split at h
 ·rename_i hp
  split at h
  ·omega
  ·rename_i hf
   split at h
   ·omega
   ·rename_i hr
    exact⟨hp,by omega,by omega,h⟩
 ·omega
theorem yYx{w:World}{t:Tbl}{f r:SV}(h:zXz w t f r)(hl:Lim.ok t.fields):Calls prog 165 #[zWR t f r] w λe w'=>∃q:SV,e=.returned (.tuple #[.slice q.a q.len q.cap,.int .i64 (zQh t)])/\zQf w w' q (if zQh t=0 then zJu t else [])/\Pu w w':=by
 refine yW1 _ _ _ w _ ?_
 refine alB λw1 aq ay=>⟨_,cl ay 0,_,cl ay 1,_,cl ay 2,(zZy (h.pu aq) hl).mono ?_⟩
 rintro e w2 ⟨rfl,ar⟩
 have dN:=aq.trans ar
 refine⟨_,rfl,Br.of (λd=>⟨⟨none,0,0⟩,rfl,by rw[if_neg (zQ1 d)];exact zQf.nil w w2,dN⟩) (λd=>⟨_,cl (ar.blk ay) 0,_,cl (ar.blk ay) 1,_,cl (ar.blk ay) 2,?_⟩)⟩
 have d:=zQs d
 obtain⟨h1,h2,h3,_⟩:=zKR d
 refine(yKf (h.pu dN) h2 (by omega)).mono ?_
 rintro e w3 ⟨q,rfl,hq,ax⟩
 exact⟨q,rfl,q,by rw[d],by rw[if_pos d];exact hq.low dN.size,dN.trans ax⟩
end Go.Proofs.YtaeecpjhfmcliaaGreatDoor
/- Table: the null flags of a record, as bytes. No condition. -/
namespace Go.Proofs.YtaeecpjhfmcliaaGreatDoor
open Go.Sh Go.RowKit Tryz
def zKe(bs:List Bool)(i j:Nat):Nat:=if bs[8 * i+j]?=some true then 2 ^ j else 0
def zZs(bs:List Bool)(i:Nat):Nat:=zKe bs i 0+zKe bs i 1+zKe bs i 2+zKe bs i 3+zKe bs i 4+zKe bs i 5+zKe bs i 6+zKe bs i 7
def flN(N:Nat)(bs:List Bool):List UInt8:=(List.range N).map λi=>UInt8.ofNat (zZs bs i)
theorem zWV(N:Nat)(bs:List Bool):(flN N bs).length=N:=by simp[flN]
theorem xYj(N:Nat):flN N []=List.replicate N 0:=by
 unfold flN
 apply List.ext_getElem?
 intro i
 simp only[List.getElem?_map,List.getElem?_replicate]
 by_cases h:i<N
 ·rw[List.getElem?_range h,if_pos h];rfl
 ·rw[if_neg h,List.getElem?_eq_none (by simp;omega)];rfl
theorem yQa(bs:List Bool)(k:Nat):((bs ++ [false])[k]?=some true) ↔ (bs[k]?=some true):=by
 rcases Nat.lt_trichotomy k bs.length with h|h|h
 ·rw[List.getElem?_append_left h]
 ·subst h;simp
 ·rw[List.getElem?_eq_none (by simp;omega),List.getElem?_eq_none (by omega)]
theorem zJI(bs:List Bool)(k:Nat):((bs ++ [true])[k]?=some true) ↔ (bs[k]?=some true∨k=bs.length):=by
 rcases Nat.lt_trichotomy k bs.length with h|h|h
 ·rw[List.getElem?_append_left h];constructor
  ·exact .inl
  ·rintro(h1|h1)
   ·exact h1
   ·omega
 ·subst h;simp
 ·rw[List.getElem?_eq_none (by simp;omega),List.getElem?_eq_none (by omega)];simp;omega
theorem xQ3(N:Nat)(bs:List Bool):flN N (bs ++ [false])=flN N bs:=by
 unfold flN zZs zKe
 simp only[yQa]
theorem zXZ{bs:List Bool}{q r:Nat}(hm:bs.length=8 * q+r)(hr:r<8)(i j:Nat)(hj:j<8):zKe (bs ++ [true]) i j=zKe bs i j+(if i=q/\j=r then 2 ^ j else 0):=by
 unfold zKe
 by_cases h:8 * i+j=bs.length
 ·have h1:i=q/\j=r:=by omega
  have h2:¬bs[8 * i+j]?=some true:=by rw[List.getElem?_eq_none (by omega)];simp
  rw[if_pos ((zJI _ _).2 (.inr h)),if_neg h2,if_pos h1];omega
 ·have h1:¬(i=q/\j=r):=by omega
  rw[if_neg h1,Nat.add_zero]
  by_cases h2:bs[8 * i+j]?=some true
  ·rw[if_pos ((zJI _ _).2 (.inl h2)),if_pos h2]
  ·rw[if_neg (λh3=>((zJI _ _).1 h3).elim h2 h),if_neg h2]
theorem yJE{bs:List Bool}{q r:Nat}(hm:bs.length=8 * q+r)(hr:r<8)(i:Nat):zZs (bs ++ [true]) i=zZs bs i+(if i=q then 2 ^ r else 0):=by
 unfold zZs
 rw[zXZ hm hr i 0 (by omega),zXZ hm hr i 1 (by omega),zXZ hm hr i 2 (by omega),zXZ hm hr i 3 (by omega),zXZ hm hr i 4 (by omega),zXZ hm hr i 5 (by omega),zXZ hm hr i 6 (by omega),zXZ hm hr i 7 (by omega)]
 by_cases h:i=q
 ·simp only[h,true_and,if_true]
  rcases(by omega:r=0∨r=1∨r=2∨r=3∨r=4∨r=5∨r=6∨r=7)with rfl|rfl|rfl|rfl|rfl|rfl|rfl|rfl <;> simp <;> omega
 ·simp[h]
theorem zJG(bs:List Bool)(i j:Nat):zKe bs i j<=2 ^ j:=by
 unfold zKe;split
 ·exact Nat.le_refl _
 ·exact Nat.zero_le _
theorem yWj{bs:List Bool}{q r j:Nat}(hm:bs.length=8 * q+r)(hj:r<=j):zKe bs q j=0:=by
 unfold zKe;rw[if_neg];rw[List.getElem?_eq_none (by omega)];simp
theorem xQs{bs:List Bool}{q r:Nat}(hm:bs.length=8 * q+r)(hr:r<8):zZs bs q<2 ^ r:=by
 have z:∀j,r<=j->zKe bs q j=0:=λj hj=>yWj hm hj
 have l0:=zJG bs q 0
 have l1:=zJG bs q 1
 have l2:=zJG bs q 2
 have l3:=zJG bs q 3
 have l4:=zJG bs q 4
 have l5:=zJG bs q 5
 have l6:=zJG bs q 6
 unfold zZs
 rcases(by omega:r=0∨r=1∨r=2∨r=3∨r=4∨r=5∨r=6∨r=7)with rfl|rfl|rfl|rfl|rfl|rfl|rfl|rfl
 ·rw[z 0 (by omega),z 1 (by omega),z 2 (by omega),z 3 (by omega),z 4 (by omega),z 5 (by omega),z 6 (by omega),z 7 (by omega)];omega
 ·rw[z 1 (by omega),z 2 (by omega),z 3 (by omega),z 4 (by omega),z 5 (by omega),z 6 (by omega),z 7 (by omega)];omega
 ·rw[z 2 (by omega),z 3 (by omega),z 4 (by omega),z 5 (by omega),z 6 (by omega),z 7 (by omega)];omega
 ·rw[z 3 (by omega),z 4 (by omega),z 5 (by omega),z 6 (by omega),z 7 (by omega)];omega
 ·rw[z 4 (by omega),z 5 (by omega),z 6 (by omega),z 7 (by omega)];omega
 ·rw[z 5 (by omega),z 6 (by omega),z 7 (by omega)];omega
 ·rw[z 6 (by omega),z 7 (by omega)];omega
 ·rw[z 7 (by omega)];omega
theorem xJg{N:Nat}{bs:List Bool}{q r:Nat}(hm:bs.length=8 * q+r)(hr:r<8)(hq:q<N):flN N (bs ++ [true])=(flN N bs).set q (UInt8.ofNat (zZs bs q+2 ^ r)):=by
 apply List.ext_getElem?
 intro i
 rw[List.getElem?_set]
 unfold flN
 simp only[List.length_map,List.length_range,List.getElem?_map]
 by_cases hi:i<N
 ·rw[List.getElem?_range hi]
  simp only[Option.map_some,yJE hm hr]
  by_cases h:q=i
  ·subst h;rw[if_pos rfl,if_pos rfl,if_pos hi]
  ·rw[if_neg (λe=>h e.symm),if_neg h,Nat.add_zero]
 ·rw[List.getElem?_eq_none (by simp;omega)]
  by_cases h:q=i
  ·omega
  ·rw[if_neg h];rfl
theorem xKp{N:Nat}{bs:List Bool}{q:Nat}(hq:q<N):(flN N bs)[q]?=some (UInt8.ofNat (zZs bs q)):=by
 unfold flN;rw[List.getElem?_map,List.getElem?_range hq];rfl
theorem or_bit:∀r:Nat,r<8->∀x:Nat,x<2 ^ r->(BitVec.ofInt 8 (x:Int) ||| BitVec.ofInt 8 (IntKind.u8.wrap ((1:Int) * 2 ^ (min r 8)))).toNat=x+2 ^ r:=by decide +kernel
def zXt:List Fld->List Val->List Bool
 | [],_=>[]
 | _,[]=>[]
 | f :: fs,v :: vs=>if f.null then decide (v.kind=0) :: zXt fs vs else zXt fs vs
theorem yQG:∀{l:List Fld} {vs:List Val} {k:Nat} {f:Fld} {v:Val},l[k]?=some f->vs[k]?=some v->zXt (l.take (k+1)) (vs.take (k+1))=zXt (l.take k) (vs.take k) ++ (if f.null then [decide (v.kind=0)]else [])
 | [],_,_,_,_,h,_=>by simp at h
 | _ :: _,[],_,_,_,_,h=>by simp at h
 | a :: l,b :: vs,0,f,v,h,h2=>by
  simp at h h2;subst h h2
  simp only[List.take_succ_cons,List.take_zero,zXt]
  split <;> simp
 | a :: l,b :: vs,k+1,f,v,h,h2=>by
  have ih:=yQG (l:=l) (vs:=vs) (k:=k) (f:=f) (v:=v) (by simpa using h) (by simpa using h2)
  simp only[List.take_succ_cons,zXt]
  by_cases hn:a.null=true
  ·rw[if_pos hn,if_pos hn];rw[ih];rfl
  ·rw[if_neg hn,if_neg hn];exact ih
theorem zW7:∀(l:List Fld) (vs:List Val),(zXt l vs).length<=(l.filter (·.null)).length
 | [],_=>by simp[zXt]
 | _ :: _,[]=>by simp[zXt]
 | f :: l,v :: vs=>by
  have:=zW7 l vs
  unfold zXt
  rw[List.filter_cons]
  by_cases hn:f.null=true
  ·rw[if_pos hn,if_pos hn];simp only[List.length_cons];omega
  ·rw[if_neg hn,if_neg hn];exact this
end Go.Proofs.YtaeecpjhfmcliaaGreatDoor
