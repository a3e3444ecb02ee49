import Derived.Test.YtaeecpjhfmcliaaGreatDoorLgOwA
import Derived.Test.YtaeecpjhfmcliaaGreatDoorLgPrA
import Derived.Test.YtaeecpjhfmcliaaGreatDoorShSixteen
import Derived.Lib.BufferWrite
import Derived.Lib.AppendStr
/- Table: what a value becomes in a field, the reference. No condition. -/
set_option maxRecDepth 100000
set_option linter.unusedVariables false
set_option linter.unusedSimpArgs false
namespace Go.Proofs.YtaeecpjhfmcliaaGreatDoor
open Go.Sh Go.RowKit Tryz
theorem yXZ(l:List UInt8)(s:ByteArray):bs l=s ↔ l=s.data.toList:=by
 constructor
 ·intro h;rw[←h]
 ·intro h;rw[h]
theorem xZY(n:Int)(w:World):Calls prog 133 #[.int .i64 n] w λe w'=>e=.returned (.bool (zVK n))/\Pu w w':=by
 refine yVk _ w _ (Br.of (λd=>?_) (λd=>?_))
 ·exact⟨by rw[zVK,decide_eq_true (show 0<=n from zQj d)];rfl,Pu.refl w⟩
 ·exact⟨by rw[zVK,decide_eq_false (show ¬0<=n from zQd d)];rfl,Pu.refl w⟩
theorem xXQ(f:Fld)(p:Int)(v:Val)(w:World):Calls prog 93 #[zYY f,.int .i64 p,zJ5 v] w λe w'=>e=.returned (.bool (zQO f p v))/\Pu w w':=by
 refine xXO _ _ _ _ _ _ _ _ w _ ?_
 refine alB λw1 ar aA=>alB λw2 aq aN=>?_
 have aE:=ar.trans aq
 have b1:∀{wz},Pu w2 wz->wz.heap[w.heap.size]?=some (.cells #[.string f.name,.int .i64 f.kind,.int .i64 f.width,.bool f.null] 129):=λh=>h.blk (aq.blk aA)
 have b2:∀{wz},Pu w2 wz->wz.heap[w1.heap.size]?=some (.cells #[.int .i64 v.kind,.int .i64 v.n,.string v.s] 73):=λh=>h.blk aN
 have q0:=b2 (Pu.refl w2)
 refine⟨_,cl q0 0,_,cl q0 1,_,cl q0 2,(yK2 v w2).mono ?_⟩
 rintro e w3 ⟨rfl,au⟩
 have aV:=aE.trans au
 have out:∀{wz:World} {b:Bool},Pu w wz->zQO f p v=b->(Ending.returned (Value.bool b)=Ending.returned (Value.bool (zQO f p v))/\Pu w wz):=λh1 h2=>⟨by rw[h2],h1⟩
 refine⟨_,rfl,Br.of (λd=>out aV (by unfold zQO;rw[if_pos (zQw d)])) (λd=>?_)⟩
 have hv:=zQq d
 have mN:¬zXh v ≠ 0:=by omega
 obtain⟨hvs,hvn,hv4⟩:=zKO hv
 refine⟨_,cl0 (b2 au),Br.of (λd0=>⟨_,cl (b1 au) 3,out aV (by unfold zQO;rw[if_neg mN,if_pos (zQD d0)])⟩) (λd0=>⟨_,cl (b1 au) 1,Br.of (λd1=>?_) (λd1=>?_)⟩)⟩
 ·refine⟨_,cl0 (b2 au),Br.of (λd2=>⟨_,cl (b2 au) 1,(xZY v.n w3).mono ?_⟩) (λd2=>out aV ?_)⟩
  ·rintro e w4 ⟨rfl,aK⟩
   exact⟨_,rfl,out (aV.trans aK) (by unfold zQO;rw[if_neg mN,if_neg (zQm d0),if_pos (zQD d1),decide_eq_true (zQD d2)];rfl)⟩
  ·unfold zQO;rw[if_neg mN,if_neg (zQm d0),if_pos (zQD d1),decide_eq_false (zQm d2)];rfl
 have e0:zQO f p v=if v.kind ≠ f.kind then false else if f.kind=2 then decide (((zJo v.n).length:Int)<=f.width)else if f.kind=4 then decide ((v.s.size:Int)<=f.width) && decide (zZs v.s.data.toList=v.s.data.toList) && zXJ v.s.data.toList p else true:=by
  unfold zQO;rw[if_neg mN,if_neg (zQm d0),if_neg (zQm d1)]
 refine⟨_,cl0 (b2 au),_,cl (b1 au) 1,Br.of (λd2=>out aV (by rw[e0,if_pos (zQw d2)])) (λd2=>⟨_,cl (b1 au) 1,Br.of (λd3=>?_) (λd3=>⟨_,cl (b1 au) 1,Br.of (λd4=>?_) (λd4=>out aV ?_)⟩)⟩)⟩
 ·have d2:=zQq d2
  have d3:=zQD d3
  have hn:zJe v.n:=by rw[d2,d3]at hvn;simp[okN]at hvn;exact⟨by omega,by omega⟩
  refine zQc λw4 aK _=>⟨λu=>Pu w4 u,Pu.refl _,v.n,λu hu=>cl (b2 ((au.trans aK).trans hu)) 1,f.width,λu hu=>cl (b1 ((au.trans aK).trans hu)) 2,(xQL hn w4).mono ?_⟩
  rintro e w5 ⟨rfl,aT⟩
  refine⟨_,rfl,aT,out ((aV.trans aK).trans aT) ?_⟩
  rw[e0,if_neg (by rw[d2];simp),if_pos d3,zQ8]
 ·have d2:=zQq d2
  have d3:=zQm d3
  have d4:=zQD d4
  have e1:zQO f p v=(decide ((v.s.size:Int)<=f.width) && decide (zZs v.s.data.toList=v.s.data.toList) && zXJ v.s.data.toList p):=by
   rw[e0,if_neg (by rw[d2];simp),if_neg d3,if_pos d4]
  refine zQc λw4 aK _=>⟨λu=>Pu w4 u,Pu.refl _,v.s,λu hu=>cl (b2 ((au.trans aK).trans hu)) 2,f.width,λu hu=>cl (b1 ((au.trans aK).trans hu)) 2,Br.of (λd5=>?_) (λd5=>out (aV.trans aK) ?_)⟩
  ·refine⟨v.s,λu hu=>cl (b2 ((au.trans aK).trans hu)) 2,v.s,λu hu=>cl (b2 ((au.trans aK).trans hu)) 2,(yYD v.s (by omega) w4).mono ?_⟩
   rintro e w5 ⟨rfl,aT⟩
   refine⟨_,rfl,aT,?_⟩
   rw[zX5]
   have hbe:(bs (zZs v.s.data.toList)=v.s) ↔ zZs v.s.data.toList=v.s.data.toList:=yXZ _ _
   refine Br.of (λd6=>⟨v.s,λu hu=>cl (b2 ((au.trans aK).trans hu)) 2,(yQ3 v.s (by omega) p w5).mono ?_⟩) (λd6=>out ((aV.trans aK).trans aT) ?_)
   ·rintro e w6 ⟨rfl,bE⟩
    refine⟨_,rfl,out (((aV.trans aK).trans aT).trans bE) ?_⟩
    rw[e1,decide_eq_true (zQj d5),decide_eq_true (hbe.1 (zQj d6))];rfl
   ·rw[e1,decide_eq_false (λh=>zQd d6 (hbe.2 h))];simp
  ·rw[e1,decide_eq_false (zQd d5)];rfl
 ·rw[e0,if_neg (by rw[zQq d2];simp),if_neg (zQm d3),if_neg (zQm d4)]
theorem yY8(f:Fld)(p:Int)(v:Val)(hfB:zQo f=true)(hvs:v.s.size<=140737488355328)(w:World):Calls prog 139 #[zYY f,.int .i64 p,zJ5 v] w λe w'=>
  e=.returned (.tuple #[zJ5 (zQQ f p v).1,.int .i64 (zQQ f p v).2])/\Pu w w':=by
 refine yVd _ _ _ _ _ _ _ _ w _ ?_
 refine alB λw1 ar aA=>alB λw2 aq aN=>alB λw3 au bo=>?_
 have z1:w1.heap.size<=w2.heap.size:=aq.size
 have z0:w.heap.size<=w1.heap.size:=ar.size
 have aV:Pu w w3:=(ar.trans aq).trans au
 have out:∀{wz:World} (v':Val) (k:Int) {c:Array Value},Pu w wz->wz.heap[w2.heap.size]?=some (.cells c 73)->c.size=3->zQQ f p v=(v',k)->
   stA prog 73 (⟨w2.heap.size,0,none⟩:Addr) #[.int .i64 v'.kind,.int .i64 v'.n,.string v'.s] wz λw'=>∃n0:Int,w'.cell? ((⟨w2.heap.size,0,none⟩:Addr).add 0)=some (.int .i64 n0)/\∃n1:Int,w'.cell? ((⟨w2.heap.size,0,none⟩:Addr).add 1)=some (.int .i64 n1)/\
    ∃s2:ByteArray,w'.cell? ((⟨w2.heap.size,0,none⟩:Addr).add 2)=some (.string s2)/\(Ending.returned (.tuple #[.agg #[.int .i64 n0,.int .i64 n1,.string s2],.int .i64 k])=.returned (.tuple #[zJ5 (zQQ f p v).1,.int .i64 (zQQ f p v).2])/\Pu w w'):=λ{wz} v' k {c} h1 h2 h3 h4=>
  retV (R:=λe w'=>e=.returned (.tuple #[zJ5 (zQQ f p v).1,.int .i64 (zQQ f p v).2])/\Pu w w') v' k h2 h3 λw' hf=>⟨by rw[h4],h1.andNew hf λi hi=>by have hi:i=w2.heap.size:=hi;omega⟩
 have b1:∀{wz},Pu w3 wz->wz.heap[w.heap.size]?=some (.cells #[.string f.name,.int .i64 f.kind,.int .i64 f.width,.bool f.null] 129):=λh=>h.blk (au.blk (aq.blk aA))
 have b2:∀{wz},Pu w3 wz->wz.heap[w1.heap.size]?=some (.cells #[.int .i64 v.kind,.int .i64 v.n,.string v.s] 73):=λh=>h.blk (au.blk aN)
 have b3:∀{wz},Pu w3 wz->wz.heap[w2.heap.size]?=some (.cells #[.int .i64 0,.int .i64 0,.string ⟨#[]⟩] 73):=λh=>h.blk bo
 have q1:=b1 (Pu.refl w3)
 have q2:=b2 (Pu.refl w3)
 have q3:=b3 (Pu.refl w3)
 refine⟨_,cl0 q2,Br.of (λd0=>⟨_,cl q1 3,Br.of (λd1=>out noV 7 aV q3 rfl ?_) (λd1=>⟨_,cl q2 0,_,cl q2 1,_,cl q2 2,out v 0 aV q3 rfl ?_⟩)⟩) (λd0=>⟨_,cl q1 1,?_⟩)⟩
 ·unfold zQQ;rw[if_pos (zQD d0),show f.null=false by simpa using d1];rfl
 ·unfold zQQ;rw[if_pos (zQD d0),show f.null=true by simpa using d1];rfl
 have d0:=zQm d0
 -- behind the question for the kind
 have rest:v.kind=(zXk f).kind->∀(m:Int),f.kind=m->
   Br (m == 4) (∃qD:ByteArray,w3.cell? ((⟨w1.heap.size,0,none⟩:Addr).add 2)=some (.string qD)/\∃tk:ByteArray,w3.cell? ((⟨w1.heap.size,0,none⟩:Addr).add 2)=some (.string tk)/\∃jP:Int,w3.cell? ((⟨w.heap.size,0,none⟩:Addr).add 2)=some (.int .i64 jP)/\
    ∃io:Int,∃aP:World,(Builtin.min_ #[3,3] 3 #[.int .i64 ((tk.size:Nat):Int),.int .i64 jP]).run prog w3=.ok (.int .i64 io) aP/\0<=io/\io.toNat<=qD.size/\0<=io.toNat/\
    Calls prog 135 #[.string (qD.extract 0 io.toNat)] aP λe aU=>∃qE:ByteArray,e=.returned (.string qE)/\Calls prog 136 #[.string qE,.int .i64 p] aU λe aQ=>∃qw:Bool,e=.returned (.bool qw)/\
    Br (!qw) (stA prog 73 (⟨w2.heap.size,0,none⟩:Addr) #[.int .i64 0,.int .i64 0,.string (⟨#[]⟩:ByteArray)] aQ λaJ=>∃ag:Int,aJ.cell? ((⟨w2.heap.size,0,none⟩:Addr).add 0)=some (.int .i64 ag)/\∃aj:Int,aJ.cell? ((⟨w2.heap.size,0,none⟩:Addr).add 1)=some (.int .i64 aj)/\∃ak:ByteArray,aJ.cell? ((⟨w2.heap.size,0,none⟩:Addr).add 2)=some (.string ak)/\
      (Ending.returned (.tuple #[.agg #[.int .i64 ag,.int .i64 aj,.string ak],.int .i64 10])=.returned (.tuple #[zJ5 (zQQ f p v).1,.int .i64 (zQQ f p v).2])/\Pu w aJ)) (
     Calls prog 177 #[.string qE] aQ λe bm=>∃ga:Int,∃gb:Int,∃gc:ByteArray,e=.returned (.agg #[.int .i64 ga,.int .i64 gb,.string gc])/\
     stA prog 73 (⟨w2.heap.size,0,none⟩:Addr) #[.int .i64 ga,.int .i64 gb,.string gc] bm λbF=>∃ag:Int,bF.cell? ((⟨w2.heap.size,0,none⟩:Addr).add 0)=some (.int .i64 ag)/\∃aj:Int,bF.cell? ((⟨w2.heap.size,0,none⟩:Addr).add 1)=some (.int .i64 aj)/\∃ak:ByteArray,bF.cell? ((⟨w2.heap.size,0,none⟩:Addr).add 2)=some (.string ak)/\
      (Ending.returned (.tuple #[.agg #[.int .i64 ag,.int .i64 aj,.string ak],.int .i64 0])=.returned (.tuple #[zJ5 (zQQ f p v).1,.int .i64 (zQQ f p v).2])/\Pu w bF))) (
    ∃jq:ByteArray,w3.cell? ((⟨w.heap.size,0,none⟩:Addr).add 0)=some (.string jq)/\∃cu:Int,w3.cell? ((⟨w.heap.size,0,none⟩:Addr).add 1)=some (.int .i64 cu)/\∃gp:Int,w3.cell? ((⟨w.heap.size,0,none⟩:Addr).add 2)=some (.int .i64 gp)/\∃jr:Bool,w3.cell? ((⟨w.heap.size,0,none⟩:Addr).add 3)=some (.bool jr)/\
    ∃gq:Int,w3.cell? ((⟨w1.heap.size,0,none⟩:Addr).add 0)=some (.int .i64 gq)/\∃js:Int,w3.cell? ((⟨w1.heap.size,0,none⟩:Addr).add 1)=some (.int .i64 js)/\∃jt:ByteArray,w3.cell? ((⟨w1.heap.size,0,none⟩:Addr).add 2)=some (.string jt)/\
    Calls prog 93 #[.agg #[.string jq,.int .i64 cu,.int .i64 gp,.bool jr],.int .i64 p,.agg #[.int .i64 gq,.int .i64 js,.string jt]] w3 λe bU=>∃tm:Bool,e=.returned (.bool tm)/\
    Br (!tm) (stA prog 73 (⟨w2.heap.size,0,none⟩:Addr) #[.int .i64 0,.int .i64 0,.string (⟨#[]⟩:ByteArray)] bU λaJ=>∃ag:Int,aJ.cell? ((⟨w2.heap.size,0,none⟩:Addr).add 0)=some (.int .i64 ag)/\∃aj:Int,aJ.cell? ((⟨w2.heap.size,0,none⟩:Addr).add 1)=some (.int .i64 aj)/\∃ak:ByteArray,aJ.cell? ((⟨w2.heap.size,0,none⟩:Addr).add 2)=some (.string ak)/\
      (Ending.returned (.tuple #[.agg #[.int .i64 ag,.int .i64 aj,.string ak],.int .i64 10])=.returned (.tuple #[zJ5 (zQQ f p v).1,.int .i64 (zQQ f p v).2])/\Pu w aJ)) (
     ∃gr:Int,bU.cell? ((⟨w1.heap.size,0,none⟩:Addr).add 0)=some (.int .i64 gr)/\∃gt:Int,bU.cell? ((⟨w1.heap.size,0,none⟩:Addr).add 1)=some (.int .i64 gt)/\∃ju:ByteArray,bU.cell? ((⟨w1.heap.size,0,none⟩:Addr).add 2)=some (.string ju)/\
     stA prog 73 (⟨w2.heap.size,0,none⟩:Addr) #[.int .i64 gr,.int .i64 gt,.string ju] bU λbF=>∃ag:Int,bF.cell? ((⟨w2.heap.size,0,none⟩:Addr).add 0)=some (.int .i64 ag)/\∃aj:Int,bF.cell? ((⟨w2.heap.size,0,none⟩:Addr).add 1)=some (.int .i64 aj)/\∃ak:ByteArray,bF.cell? ((⟨w2.heap.size,0,none⟩:Addr).add 2)=some (.string ak)/\
      (Ending.returned (.tuple #[.agg #[.int .i64 ag,.int .i64 aj,.string ak],.int .i64 0])=.returned (.tuple #[zJ5 (zQQ f p v).1,.int .i64 (zQQ f p v).2])/\Pu w bF))):=by
  rintro hk m rfl
  have hF:zQQ f p v=if f.kind=4 then(if zXJ (zZs (v.s.data.toList.take f.width.toNat)) p then(⟨4,0,bs (zZs (v.s.data.toList.take f.width.toNat))⟩,0)else(noV,10))else if zQO f p v then(v,0)else(noV,10):=by
   unfold zQQ;rw[if_neg d0,if_neg (by rw[hk];simp)]
  refine Br.of (λd2=>?_) (λd2=>?_)
  ·have d2:=zQD d2
   obtain⟨wl,wh⟩:=zVS hfB d2
   rw[if_pos d2]at hF
   refine⟨_,cl q2 2,_,cl q2 2,_,cl q1 2,_,w3,yZV _ _ _ _ _ _,by omega,by omega,by omega,(yYD _ (by have:=zQ7 v.s 0 (min (v.s.size:Int) f.width).toNat;have:=zQ2 (v.s.extract 0 (min (v.s.size:Int) f.width).toNat);simp at *;omega) w3).mono ?_⟩
   rintro e w9 ⟨rfl,cE⟩
   have et:(v.s.extract 0 (min (v.s.size:Int) f.width).toNat).data.toList=v.s.data.toList.take f.width.toNat:=by
    rw[zQ7,List.drop_zero];exact yKa _ _ _ (by simp) (by omega)
   rw[et]
   have hbl:(bs (zZs (v.s.data.toList.take f.width.toNat))).size<=140737488355328:=by
    rw[zQ8];have:=yX5 (v.s.data.toList.take f.width.toNat);have:=List.length_take_le' f.width.toNat v.s.data.toList;rw[zQ2]at this;omega
   generalize hg:zZs (v.s.data.toList.take f.width.toNat)=B at *
   refine⟨_,rfl,(yQ3 _ hbl p w9).mono ?_⟩
   rintro e aP ⟨rfl,dr⟩
   rw[zQN]
   have jN:=cE.trans dr
   refine⟨_,rfl,Br.of (λd3=>out noV 10 (aV.trans jN) (b3 jN) rfl ?_) (λd3=>(xYn (bs B) aP).mono ?_)⟩
   ·rw[hF,show zXJ B p=false by simpa using d3];rfl
   ·rintro e aU ⟨rfl,eG⟩
    refine⟨_,_,_,rfl,out ⟨4,0,bs B⟩ 0 (aV.trans (jN.trans eG)) (b3 (jN.trans eG)) rfl ?_⟩
    rw[hF,show zXJ B p=true by simpa using d3];rfl
  ·have d2:=zQm d2
   rw[if_neg d2]at hF
   refine⟨_,cl q1 0,_,cl q1 1,_,cl q1 2,_,cl q1 3,_,cl q2 0,_,cl q2 1,_,cl q2 2,(xXQ f p v w3).mono ?_⟩
   rintro e w9 ⟨rfl,cE⟩
   refine⟨_,rfl,Br.of (λd3=>out noV 10 (aV.trans cE) (b3 cE) rfl ?_) (λd3=>⟨_,cl (b2 cE) 0,_,cl (b2 cE) 1,_,cl (b2 cE) 2,out v 0 (aV.trans cE) (b3 cE) rfl ?_⟩)⟩
   ·rw[hF,show zQO f p v=false by simpa using d3];rfl
   ·rw[hF,show zQO f p v=true by simpa using d3];rfl
 have six:v.kind ≠ (zXk f).kind->zQQ f p v=(noV,6):=λh=>by unfold zQQ;rw[if_neg d0,if_pos h]
 refine Br.of (λd1=>⟨_,cl0 q2,Br.of (λd2=>out noV 6 aV q3 rfl (six ?_)) (λd2=>⟨_,cl q1 1,rest ?_ _ rfl⟩)⟩) (λd1=>⟨_,cl0 q2,Br.of (λd2=>out noV 6 aV q3 rfl (six ?_)) (λd2=>⟨_,cl q1 1,rest ?_ _ rfl⟩)⟩)
 ·unfold zXk;rw[if_pos (zQD d1)];exact zQw d2
 ·unfold zXk;rw[if_pos (zQD d1)];exact zQq d2
 ·unfold zXk;rw[if_neg (zQm d1)];exact zQw d2
 ·unfold zXk;rw[if_neg (zQm d1)];exact zQq d2
theorem xWI(f:Fld)(p:Int)(v:Val)(w:World):Calls prog 104 #[zYY f,.int .i64 p,zJ5 v] w λe w'=>
  e=.returned (.tuple #[zJ5 (zZO f p v).1,.int .i64 (zZO f p v).2])/\Pu w w':=by
 refine yV1 _ _ _ _ _ _ _ _ w _ ?_
 refine alB λw1 ar aA=>alB λw2 aq aN=>alB λw3 au bo=>?_
 have z1:w1.heap.size<=w2.heap.size:=aq.size
 have z0:w.heap.size<=w1.heap.size:=ar.size
 have aV:Pu w w3:=(ar.trans aq).trans au
 have out:∀{wz:World} (v':Val) (k:Int) {c:Array Value},Pu w wz->wz.heap[w2.heap.size]?=some (.cells c 73)->c.size=3->zZO f p v=(v',k)->
   stA prog 73 (⟨w2.heap.size,0,none⟩:Addr) #[.int .i64 v'.kind,.int .i64 v'.n,.string v'.s] wz λw'=>∃n0:Int,w'.cell? ((⟨w2.heap.size,0,none⟩:Addr).add 0)=some (.int .i64 n0)/\∃n1:Int,w'.cell? ((⟨w2.heap.size,0,none⟩:Addr).add 1)=some (.int .i64 n1)/\
    ∃s2:ByteArray,w'.cell? ((⟨w2.heap.size,0,none⟩:Addr).add 2)=some (.string s2)/\(Ending.returned (.tuple #[.agg #[.int .i64 n0,.int .i64 n1,.string s2],.int .i64 k])=.returned (.tuple #[zJ5 (zZO f p v).1,.int .i64 (zZO f p v).2])/\Pu w w'):=λ{wz} v' k {c} h1 h2 h3 h4=>
  retV (R:=λe w'=>e=.returned (.tuple #[zJ5 (zZO f p v).1,.int .i64 (zZO f p v).2])/\Pu w w') v' k h2 h3 λw' hf=>⟨by rw[h4],h1.andNew hf λi hi=>by have hi:i=w2.heap.size:=hi;omega⟩
 have b1:∀{wz},Pu w3 wz->wz.heap[w.heap.size]?=some (.cells #[.string f.name,.int .i64 f.kind,.int .i64 f.width,.bool f.null] 129):=λh=>h.blk (au.blk (aq.blk aA))
 have b2:∀{wz},Pu w3 wz->wz.heap[w1.heap.size]?=some (.cells #[.int .i64 v.kind,.int .i64 v.n,.string v.s] 73):=λh=>h.blk (au.blk aN)
 have b3:∀{wz},Pu w3 wz->wz.heap[w2.heap.size]?=some (.cells #[.int .i64 0,.int .i64 0,.string ⟨#[]⟩] 73):=λh=>h.blk bo
 have q0:=b1 (Pu.refl w3)
 refine⟨_,cl q0 0,_,cl q0 1,_,cl q0 2,_,cl q0 3,(yQ7 f w3).mono ?_⟩
 rintro e w4 ⟨rfl,aK⟩
 refine⟨_,rfl,Br.of (λd=>out noV 1 (aV.trans aK) (b3 aK) rfl (zJv (by simp at d;simp[d]))) (λd=>(yZ3 p w4).mono ?_)⟩
 have hfB:zQo f=true:=by simpa using d
 rintro e w5 ⟨rfl,aT⟩
 have cx:=aK.trans aT
 refine⟨_,rfl,Br.of (λd=>out noV 1 (aV.trans cx) (b3 cx) rfl (zJv (by simp at d;simp[d]))) (λd=>?_)⟩
 have hpB:zQV p=true:=by simpa using d
 have hB:(zQo f && zQV p)=true:=by rw[hfB,hpB];rfl
 refine⟨_,cl (b2 cx) 0,_,cl (b2 cx) 1,_,cl (b2 cx) 2,(yK2 v w5).mono ?_⟩
 rintro e w6 ⟨rfl,bE⟩
 have cD:=cx.trans bE
 refine⟨_,rfl,Br.of (λd=>out noV (zXh v) (aV.trans cD) (b3 cD) rfl (zKr hB (zQw d))) (λd=>?_)⟩
 have hv:=zQq d
 refine⟨_,cl (b1 cD) 0,_,cl (b1 cD) 1,_,cl (b1 cD) 2,_,cl (b1 cD) 3,_,cl (b2 cD) 0,_,cl (b2 cD) 1,_,cl (b2 cD) 2,(yY8 f p v hfB (by have:=(zKO hv).1;omega) w6).mono ?_⟩
 rintro e w7 ⟨rfl,cy⟩
 exact⟨_,_,_,_,rfl,out _ _ (aV.trans (cD.trans cy)) (b3 (cD.trans cy)) rfl (zJO hB hv)⟩
end Go.Proofs.YtaeecpjhfmcliaaGreatDoor
/- Table: rows of fields: which are right, and how wide they are. No condition. -/
namespace Go.Proofs.YtaeecpjhfmcliaaGreatDoor
open Go.Sh Go.RowKit Tryz
theorem zKH{α:Type}[DecidableEq α]{l:List α}{x:α}:(l ++ [x]).Nodup ↔ l.Nodup/\x ∉ l:=by
 rw[List.nodup_append]
 constructor
 ·rintro⟨h1,_,h3⟩;exact⟨h1,λhx=>h3 x hx x (by simp) rfl⟩
 ·rintro⟨h1,h2⟩;exact⟨h1,by simp,λa ha b hb e=>by simp at hb;subst hb;subst e;exact h2 ha⟩
theorem zYc(l:List Fld):(zXo l:Int)<=l.length+1:=by
 unfold zXo
 have:=List.length_filter_le (·.null) l
 omega
theorem yKS {l:List Fld} {k:Nat} {f:Fld} (h:l[k]?=some f):((l.take (k+1)).filter (·.null)).length=((l.take k).filter (·.null)).length+(if f.null then 1 else 0):=by
 rw[zQC h,List.filter_append,List.length_append]
 cases hx:f.null <;> simp[hx]
theorem zWi {l:List Fld} {k:Nat} {f:Fld} (h:l[k]?=some f):((l.take (k+1)).filter (·.null)).length=if f.null then((l.take k).filter (·.null)).length+1 else((l.take k).filter (·.null)).length:=by
 rw[yKS h];cases f.null <;> rfl
theorem zWu{w:World}{s:SV}{l:List Fld}(h:zX3 w s l):Calls prog 203 #[.slice s.a s.len s.cap] w λe w'=>e=.returned (.int .i64 (zXo l:Nat))/\Pu w w':=by
 refine yWt _ w _ ?_
 have hlen:=h.len
 have hlim:=h.lim
 refine zQx l.length (λk t w'=>t.2=(k:Int)/\t.1=(((l.take k).filter (·.null)).length:Nat)/\Pu w w') ⟨rfl,rfl,Pu.refl _⟩ ?_
 rintro k J ⟨t1,t2⟩ w2 hk ⟨wJ,rB,hp⟩ hJ
 obtain rfl:t2=(k:Int):=wJ
 obtain rfl:t1=(((l.take k).filter (·.null)).length:Nat):=rB
 have hle:=List.length_filter_le (·.null) (l.take k)
 have wK:=List.length_take_le k l
 dsimp only
 refine Br.of (λd=>?_) (λd=>?_)
 ·have aH:k<l.length:=by have:=zQj d;omega
  obtain⟨f,hf⟩:=zQK aH
  obtain⟨a,ha,hi,_,_,_,c0,c1,c2,c3⟩:=zJi (h.pu hp) hf
  refine⟨a,ha,by omega,by omega,_,c0,_,c1,_,c2,_,c3,yQr rfl s23.symm rfl λw4 aK xz cI=>⟨_,cl cI 3,?_⟩⟩
  have e:=zWi hf
  rw[zQa (n:=(k:Int)+1) (by omega) (by omega)]
  refine Br.of (λd1=>hJ _ _ aH ⟨by dsimp only;omega,?_,hp.trans aK⟩) (λd1=>hJ _ _ aH ⟨by dsimp only;omega,?_,hp.trans aK⟩)
  ·rw[if_pos d1]at e;dsimp only;rw[e,zQa (by omega) (by omega)];omega
  ·rw[if_neg (by rw[d1];simp)]at e;dsimp only;rw[e]
 ·have aH:k=l.length:=by have:=zQd d;omega
  subst aH
  rw[List.take_length]at *
  refine⟨rfl,by omega,?_,hp⟩
  rw[zQa (n:=((l.filter (·.null)).length:Int)+7) (by omega) (by omega),Int.tdiv_eq_ediv_of_nonneg (by omega),zQa (by omega) (by omega)]
  unfold zXo;congr 2
theorem xJj{w:World}{s:SV}{l:List Fld}(h:zX3 w s l):Calls prog 131 #[.slice s.a s.len s.cap] w λe w'=>e=.returned (.int .i64 (zXo l:Nat))/\Pu w w':=by
 refine yK9 _ w _ ?_
 have hlen:=h.len
 have hlim:=h.lim
 refine zQx l.length (λk t w'=>t.2=(k:Int)/\t.1=(((l.take k).filter (·.null)).length:Nat)/\Pu w w') ⟨rfl,rfl,Pu.refl _⟩ ?_
 rintro k J ⟨t1,t2⟩ w2 hk ⟨wJ,rB,hp⟩ hJ
 obtain rfl:t2=(k:Int):=wJ
 obtain rfl:t1=(((l.take k).filter (·.null)).length:Nat):=rB
 have hle:=List.length_filter_le (·.null) (l.take k)
 have wK:=List.length_take_le k l
 dsimp only
 refine Br.of (λd=>?_) (λd=>?_)
 ·have aH:k<l.length:=by have:=zQj d;omega
  obtain⟨f,hf⟩:=zQK aH
  obtain⟨a,ha,hi,_,_,_,c0,c1,c2,c3⟩:=zJi (h.pu hp) hf
  refine⟨a,ha,by omega,by omega,_,c3,?_⟩
  have e:=zWi hf
  rw[zQa (n:=(k:Int)+1) (by omega) (by omega)]
  refine Br.of (λd1=>hJ _ _ aH ⟨by dsimp only;omega,?_,hp⟩) (λd1=>hJ _ _ aH ⟨by dsimp only;omega,?_,hp⟩)
  ·rw[if_pos d1]at e;dsimp only;rw[e,zQa (by omega) (by omega)];omega
  ·rw[if_neg (by rw[d1];simp)]at e;dsimp only;rw[e]
 ·have aH:k=l.length:=by have:=zQd d;omega
  subst aH
  rw[List.take_length]at *
  refine⟨rfl,by omega,?_,hp⟩
  rw[zQa (n:=((l.filter (·.null)).length:Int)+7) (by omega) (by omega),Int.tdiv_eq_ediv_of_nonneg (by omega),zQa (by omega) (by omega)]
  unfold zXo;congr 2
def WOk(l:List Fld):Prop:=∀f ∈ l,0<=f.width/\f.width<=254
theorem zXq{f:Fld}(h:zQo f=true):1<=f.width/\f.width<=254:=by
 unfold zQo zWM at h
 simp only[Bool.and_eq_true]at h
 have h:=h.2
 split at h
 ·simp at h;omega
 ·split at h
  ·simp at h;omega
  ·split at h
   ·simp at h;omega
   ·split at h
    ·simp at h;omega
    ·split at h
     ·simp at h;omega
     ·simp at h
theorem WOk.of{l:List Fld}(h:l.all zQo=true):WOk l:=λf hf=>by have:=zXq (List.all_eq_true.1 h f hf);omega
theorem zW3 {l:List Fld} {k:Nat} {f:Fld} (h:l[k]?=some f):((l.take (k+1)).map (·.width)).sum=((l.take k).map (·.width)).sum+f.width:=by
 rw[zQC h,List.map_append,List.sum_append];simp
theorem zJp{l:List Fld}(h:WOk l):0<=(l.map (·.width)).sum/\(l.map (·.width)).sum<=254 * l.length:=by
 induction l with
 | nil=>simp
 | cons f l ih=>
  have h1:=h f (by simp)
  have h2:=ih λg hg=>h g (by simp[hg])
  simp only[List.map_cons,List.sum_cons,List.length_cons];omega
theorem WOk.take{l:List Fld}(h:WOk l)(k:Nat):WOk (l.take k):=λf hf=>h f (List.mem_of_mem_take hf)
theorem zVQ{w:World}{s:SV}{l:List Fld}(h:zX3 w s l)(hw:WOk l):Calls prog 161 #[.slice s.a s.len s.cap] w λe w'=>e=.returned (.int .i64 (zXG l))/\Pu w w':=by
 refine yW2 _ w _ ((zWu h).mono ?_)
 rintro e w1 ⟨rfl,ar⟩
 have hlen:=h.len
 have hlim:=h.lim
 have hn:=zYc l
 refine⟨_,rfl,?_⟩
 rw[zQa (by omega) (by omega)]
 refine zQx l.length (λk t w'=>t.2=(k:Int)/\t.1=1+((zXo l:Nat):Int)+((l.take k).map (·.width)).sum/\Pu w w') ⟨rfl,by simp,ar⟩ ?_
 rintro k J ⟨t1,t2⟩ w2 hk ⟨wJ,rB,hp⟩ hJ
 obtain rfl:t2=(k:Int):=wJ
 obtain rfl:t1=1+((zXo l:Nat):Int)+((l.take k).map (·.width)).sum:=rB
 have hs:=zJp (hw.take k)
 have wK:=List.length_take_le k l
 dsimp only
 refine Br.of (λd=>?_) (λd=>?_)
 ·have aH:k<l.length:=by have:=zQj d;omega
  obtain⟨f,hf⟩:=zQK aH
  have hwf:=hw f (List.mem_of_getElem? hf)
  obtain⟨a,ha,hi,_,_,_,c0,c1,c2,c3⟩:=zJi (h.pu hp) hf
  refine⟨a,ha,by omega,by omega,_,c0,_,c1,_,c2,_,c3,yQr rfl s23.symm rfl λw4 aK xz cI=>⟨_,cl cI 2,?_⟩⟩
  rw[zQa (n:=(k:Int)+1) (by omega) (by omega),zQa (by omega) (by omega)]
  refine hJ _ _ aH ⟨by dsimp only;omega,?_,hp.trans aK⟩
  dsimp only;rw[zW3 hf];omega
 ·have aH:k=l.length:=by have:=zQd d;omega
  subst aH
  rw[List.take_length]
  exact⟨rfl,hp⟩
theorem xVV{w:World}{s:SV}{l:List Fld}(h:zX3 w s l)(hw:WOk l):Calls prog 92 #[.slice s.a s.len s.cap] w λe w'=>e=.returned (.int .i64 (zXG l))/\Pu w w':=by
 refine xXZ _ w _ ((xJj h).mono ?_)
 rintro e w1 ⟨rfl,ar⟩
 have hlen:=h.len
 have hlim:=h.lim
 have hn:=zYc l
 refine⟨_,rfl,?_⟩
 rw[zQa (by omega) (by omega)]
 refine zQx l.length (λk t w'=>t.2=(k:Int)/\t.1=1+((zXo l:Nat):Int)+((l.take k).map (·.width)).sum/\Pu w w') ⟨rfl,by simp,ar⟩ ?_
 rintro k J ⟨t1,t2⟩ w2 hk ⟨wJ,rB,hp⟩ hJ
 obtain rfl:t2=(k:Int):=wJ
 obtain rfl:t1=1+((zXo l:Nat):Int)+((l.take k).map (·.width)).sum:=rB
 have hs:=zJp (hw.take k)
 have wK:=List.length_take_le k l
 dsimp only
 refine Br.of (λd=>?_) (λd=>?_)
 ·have aH:k<l.length:=by have:=zQj d;omega
  obtain⟨f,hf⟩:=zQK aH
  have hwf:=hw f (List.mem_of_getElem? hf)
  obtain⟨a,ha,hi,_,_,_,c0,c1,c2,c3⟩:=zJi (h.pu hp) hf
  refine⟨a,ha,by omega,by omega,_,c2,?_⟩
  rw[zQa (n:=(k:Int)+1) (by omega) (by omega),zQa (by omega) (by omega)]
  refine hJ _ _ aH ⟨by dsimp only;omega,?_,hp⟩
  dsimp only;rw[zW3 hf];omega
 ·have aH:k=l.length:=by have:=zQd d;omega
  subst aH
  rw[List.take_length]
  exact⟨rfl,hp⟩
def yKd(l:List Fld)(g:Nat)(cap:Array Value)(p:Fld->Bool)(w0:World):Prop:=zQ5 prog g=true/\∀f ∈ l,∀w,Pu w0 w->Calls prog g (#[zYY f] ++ cap) w λe w'=>e=.returned (.bool (p f))/\Pu w w'
theorem zV5 {p:Fld->Bool} {l:List Fld} {k:Nat} (h:∀f ∈ l.take k,p f=false) {f:Fld} (hf:l[k]?=some f) (hp:p f=true):l.findIdx? p=some k:=by
 have hk:k<l.length:=(List.getElem?_eq_some_iff.1 hf).1
 rw[List.findIdx?_eq_some_iff_getElem]
 refine⟨hk,?_,λj hj=>?_⟩
 ·rw[List.getElem?_eq_getElem hk]at hf;rw[Option.some.inj hf];exact hp
 ·have:=h l[j] (by rw[List.mem_take_iff_getElem];exact⟨j,by omega,rfl⟩)
  simpa using this
theorem zYj{w:World}{s:SV}{l:List Fld}(h:zX3 w s l){g:Nat}{cap:Array Value}{p:Fld->Bool}(hg:yKd l g cap p w):Calls prog 113 #[.slice s.a s.len s.cap,.func (.func g) #[] cap] w
  λe w'=>e=.returned (.int .i64 (match l.findIdx? p with|some k=>(k:Int)|none=>-1))/\Pu w w':=by
 refine yKJ _ _ w _ ?_
 have hlen:=h.len
 have hlim:=h.lim
 refine zQx l.length (λk t w'=>t=(k:Int)/\(∀f ∈ l.take k,p f=false)/\Pu w w') ⟨rfl,by simp,Pu.refl _⟩ ?_
 rintro k J t w2 hk ⟨ht,hno,hp⟩ hJ
 obtain rfl:t=(k:Int):=ht
 refine Br.of (λd=>?_) (λd=>?_)
 ·have aH:k<l.length:=by have:=zQj d;omega
  obtain⟨f,hf⟩:=zQK aH
  obtain⟨a,ha,hi,_,_,_,c0,c1,c2,c3⟩:=zJi (h.pu hp) hf
  refine⟨a,ha,by omega,by omega,_,c0,_,c1,_,c2,_,c3,hg.1,?_⟩
  have e1:((#[]:Array Value).toList ++ (([zYY f]:List Value) ++ cap.toList)).toArray=#[zYY f] ++ cap:=by
   apply Array.ext';simp
  rw[e1]
  refine(hg.2 f (List.mem_of_getElem? hf) w2 hp).mono ?_
  rintro e w3 ⟨rfl,au⟩
  refine⟨_,rfl,Br.of (λd1=>⟨by rw[zV5 hno hf d1],hp.trans au⟩) (λd1=>?_)⟩
  rw[zQa (by omega) (by omega)]
  refine hJ _ _ aH ⟨by omega,λf' hf'=>?_,hp.trans au⟩
  rw[zQC hf,List.mem_append,List.mem_singleton]at hf'
  rcases hf' with hf'|rfl
  ·exact hno f' hf'
  ·exact d1
 ·have aH:k=l.length:=by have:=zQd d;omega
  subst aH
  rw[List.take_length]at hno
  have:l.findIdx? p=none:=by rw[List.findIdx?_eq_none_iff];exact λx hx=>by rw[hno x hx]
  exact⟨by rw[this],hp⟩
theorem zYW{w:World}{s:SV}{l:List Fld}(h:zX3 w s l){g:Nat}{cap:Array Value}{p:Fld->Bool}(hg:yKd l g cap p w):Calls prog 178 #[.slice s.a s.len s.cap,.func (.func g) #[] cap] w
  λe w'=>e=.returned (.bool (l.any p))/\Pu w w':=by
 refine yWa _ _ w _ ((zYj h hg).mono ?_)
 rintro e w2 ⟨rfl,hp⟩
 refine⟨_,rfl,?_,hp⟩
 cases hx:l.findIdx? p with
 | none=>
  rw[List.findIdx?_eq_none_iff]at hx
  have:l.any p=false:=by rw[List.any_eq_false];exact λx hx'=>by rw[hx x hx'];simp
  rw[this];rfl
 | some k=>
  rw[List.findIdx?_eq_some_iff_getElem]at hx
  obtain⟨h1,h2,_⟩:=hx
  have:l.any p=true:=List.any_eq_true.2 ⟨_,List.getElem_mem h1,h2⟩
  rw[this]
  dsimp only
  rw[decide_eq_true (by omega)]
theorem yW6(f:Fld)(hs:f.name.size<=140737488355328)(w:World):Calls prog 179 #[zYY f] w λe w'=>e=.returned (.bool (!zQo f))/\Pu w w':=by
 refine yVu _ _ _ _ w _ (alB λw1 ar aA=>⟨_,cl aA 0,_,cl aA 1,_,cl aA 2,_,cl aA 3,(yZc f hs w1).mono ?_⟩)
 rintro e w2 ⟨rfl,aq⟩
 exact⟨_,rfl,rfl,ar.trans aq⟩
theorem u88:prog.underlying 206=some (.map 9 4):=by kernel_rfl
abbrev strK(s:ByteArray):Value:=.string s
abbrev xYS(b:Bool):Value:=.bool b
theorem keysS:yK4 prog 9 strK:=xZE (by kernel_rfl)
theorem z4(w:World):(zeroValue 4).run prog w=.ok (.bool false) w:=Tryz.zeroValue4 w
def yXa(l:List Fld):List (ByteArray × Bool):=l.map λf=>(f.name,true)
theorem yXz(l:List Fld):(yXa l).map Prod.fst=l.map (·.name):=by simp[yXa]
noncomputable instance memDec (x : ByteArray) (l : List ByteArray) : Decidable (x ∈ l) := Classical.propDecidable _
theorem xQP(l:List Fld)(x:ByteArray):(AL.get (yXa l) x).elim (.bool false) xYS=.bool (decide (x ∈ l.map (·.name))):=by
 by_cases h:x ∈ l.map (·.name)
 ·rw[decide_eq_true h]
  cases hg:AL.get (yXa l) x with
  | none=>rw[AL.get_none,yXz]at hg;exact absurd h hg
  | some v=>
   have:=AL.get_mem hg
   simp only[yXa,List.mem_map]at this
   obtain⟨f,_,he⟩:=this
   cases he;rfl
 ·rw[decide_eq_false h,(AL.get_none).2 (by rw[yXz];exact h)];rfl
theorem zVz:zQT []=1:=by unfold zQT;rw[if_pos (.inl rfl)]
theorem yQm{l:List Fld}(h:l.all zQo=false):zQT l=1:=by unfold zQT;rw[if_pos (.inr h)]
theorem yQB {l:List Fld} (h0:l ≠ []) (h:l.all zQo=true) (h2:¬(l.map (·.name)).Nodup):zQT l=5:=by unfold zQT;rw[if_neg (by simp[h0,h]),if_pos h2]
theorem yQ6 {l:List Fld} (h0:l ≠ []) (h:l.all zQo=true) (h2:(l.map (·.name)).Nodup):zQT l=if 16<l.length∨2000<zXG l then 3 else 0:=by unfold zQT;rw[if_neg (by simp[h0,h]),if_neg (by simp[h2])]
theorem zJ1 {l:List Fld} {k:Nat} {f:Fld} (h:l[k]?=some f):(l.take (k+1)).map (·.name)=(l.take k).map (·.name) ++ [f.name]:=by
 rw[zQC h,List.map_append];rfl
theorem zW5 {l:List Fld} {k:Nat} (h:¬((l.take k).map (·.name)).Nodup):¬(l.map (·.name)).Nodup:=λhn=>h (by
 rw[List.map_take];exact hn.sublist (List.take_sublist _ _))
theorem zZI{w:World}{s:SV}{l:List Fld}(h:zX3 w s l)(hl:Lim.ok l):Calls prog 141 #[.slice s.a s.len s.cap] w λe w'=>e=.returned (.int .i64 (zQT l))/\Pu w w':=by
 refine yV0 _ w _ ?_
 have hlen:=h.len
 have hlim:=h.lim
 have nm:∀f ∈ l,f.name.size<=140737488355328:=λf hf=>hl f hf
 refine Br.of (λd=>?_) (λd=>?_)
 ·have:l=[]:=List.length_eq_zero_iff.1 (by have:=zQD d;omega)
  subst this;exact⟨by rw[zVz],Pu.refl _⟩
 have h0:l ≠ []:=λe=>by subst e;exact zQm d (by rw[hlen];rfl)
 have tells:yKd l 179 #[] (λf=>!zQo f) w:=⟨by kernel_rfl,λf hf w2 _=>yW6 f (nm f hf) w2⟩
 refine(zYW h tells).mono ?_
 rintro e w1 ⟨rfl,ar⟩
 have hany:l.any (λf=>!zQo f)=!l.all zQo:=by rw[List.all_eq_not_any_not];simp
 refine⟨_,rfl,?_⟩
 rw[hany]
 refine Br.of (λd1=>⟨by rw[yQm (by simpa using d1)],ar⟩) (λd1=>?_)
 have hall:l.all zQo=true:=by simpa using d1
 refine zY4 λw2 mP=>?_
 have aq:Pu w1 w2:=by rw[mP];exact Pu.alloc w1 _
 have xA:zXB w2 strK xYS w1.heap.size ([]:List (ByteArray × Bool)):=by rw[mP];exact zXB.new w1 _ _
 have z1:=ar.size
 refine zQx l.length (λk t w'=>t=(k:Int)/\zXB w' strK xYS w1.heap.size (yXa (l.take k))/\((l.take k).map (·.name)).Nodup/\Pu w w') ⟨rfl,xA,by simp,ar.trans aq⟩ ?_
 rintro k J t w3 hk ⟨ht,hm,hnd,hp⟩ hJ
 obtain rfl:t=(k:Int):=ht
 refine Br.of (λd2=>?_) (λd2=>?_)
 ·have aH:k<l.length:=by have:=zQj d2;omega
  obtain⟨f,hf⟩:=zQK aH
  obtain⟨a,ha,hi,_,_,_,c0,c1,c2,c3⟩:=zJi (h.pu hp) hf
  refine⟨a,ha,by omega,by omega,_,c0,_,c1,_,c2,_,c3,yQr rfl s23.symm rfl λw4 aK xz cI=>⟨_,cl0 cI,decide (f.name ∈ (l.take k).map (·.name)),w4,?_,?_⟩⟩
  ·have:=(hm.pu aK).look keysS u88 (z4 w4) f.name false
   rw[xQP]at this;exact this
  refine Br.of (λd3=>⟨?_,hp.trans aK⟩) (λd3=>⟨_,cl0 cI,?_⟩)
  ·rw[yQB h0 hall (zW5 (k:=k+1) (by rw[zJ1 hf,zKH];exact λh=>h.2 (zQj d3)))]
  ·obtain⟨w5,e5,h5,f5,_⟩:=(hm.pu aK).upd keysS u88 f.name true
   refine⟨w5,e5,?_⟩
   rw[zQa (by omega) (by omega)]
   have hput:AL.put (yXa (l.take k)) f.name true=yXa (l.take (k+1)):=by
    rw[AL.put_new ((AL.get_none).2 (by rw[yXz];exact zQd d3))]
    simp only[yXa]
    rw[zQC hf,List.map_append];rfl
   rw[hput]at h5
   refine hJ _ _ aH ⟨by omega,h5,by rw[zJ1 hf,zKH];exact⟨hnd,zQd d3⟩,(hp.trans aK).andNew f5 λi hi=>by have hi:i=w1.heap.size:=hi;omega⟩
 ·have aH:k=l.length:=by have:=zQd d2;omega
  subst aH
  rw[List.take_length]at hnd
  have he:=yQ6 h0 hall hnd
  refine Br.of (λd3=>⟨by rw[he,if_pos (.inl (by have:=zQj d3;omega))],hp⟩) (λd3=>(zVQ (h.pu hp) (WOk.of hall)).mono ?_)
  rintro e w4 ⟨rfl,aK⟩
  refine⟨_,rfl,Br.of (λd4=>⟨by rw[he,if_pos (.inr (zQj d4))],hp.trans aK⟩) (λd4=>⟨by rw[he,if_neg (by have:=zQd d4;have:=zQd d3;omega)],hp.trans aK⟩)⟩
theorem zYV{w:World}{s:SV}{l:List Fld}(h:zX3 w s l):Calls prog 53 #[.slice s.a s.len s.cap] w λe w'=>e=.returned (.int .i64 (zQT l))/\Pu w w':=by
 refine xQI _ w _ ?_
 have hlen:=h.len
 have hlim:=h.lim
 refine Br.of (λd=>?_) (λd=>?_)
 ·have:l=[]:=List.length_eq_zero_iff.1 (by have:=zQD d;omega)
  subst this;exact⟨by rw[zVz],Pu.refl _⟩
 have h0:l ≠ []:=λe=>by subst e;exact zQm d (by rw[hlen];rfl)
 refine zQx l.length (λk t w'=>t=(k:Int)/\(l.take k).all zQo=true/\Pu w w') ⟨rfl,rfl,Pu.refl _⟩ ?_
 rintro k J t w2 hk ⟨ht,hal,hp⟩ hJ
 obtain rfl:t=(k:Int):=ht
 refine Br.of (λd1=>?_) (λd1=>?_)
 ·have aH:k<l.length:=by have:=zQj d1;omega
  obtain⟨f,hf⟩:=zQK aH
  obtain⟨a,ha,hi,_,_,_,c0,c1,c2,c3⟩:=zJi (h.pu hp) hf
  refine⟨a,ha,by omega,by omega,_,c0,_,c1,_,c2,_,c3,(yQ7 f w2).mono ?_⟩
  rintro e w3 ⟨rfl,au⟩
  refine⟨_,rfl,Br.of (λd2=>⟨?_,hp.trans au⟩) (λd2=>?_)⟩
  ·rw[yQm (by rw[List.all_eq_false];exact⟨f,List.mem_of_getElem? hf,by simpa using d2⟩)]
  ·rw[zQa (by omega) (by omega)]
   exact hJ _ _ aH ⟨by omega,by rw[zJP _ hf,hal,show zQo f=true by simpa using d2];rfl,hp.trans au⟩
 have aH:k=l.length:=by have:=zQd d1;omega
 subst aH
 rw[List.take_length]at hal
 clear hJ J d1
 refine zQx l.length (λk t w'=>t=(k:Int)/\((l.take k).map (·.name)).Nodup/\Pu w w') ⟨rfl,by simp,hp⟩ ?_
 rintro k J t w3 hk ⟨ht,hnd,hp⟩ hJ
 obtain rfl:t=(k:Int):=ht
 refine Br.of (λd1=>?_) (λd1=>?_)
 ·have aH:k<l.length:=by have:=zQj d1;omega
  obtain⟨f,hf⟩:=zQK aH
  refine zQx k (λj t w'=>t=(j:Int)/\f.name ∉ (l.take j).map (·.name)/\Pu w w') ⟨rfl,by simp,hp⟩ ?_
  rintro j J2 t w4 hj ⟨ht,hno,aK⟩ zL
  obtain rfl:t=(j:Int):=ht
  refine Br.of (λd2=>?_) (λd2=>?_)
  ·have mF:j<k:=by have:=zQj d2;omega
   obtain⟨g,hg⟩:=zQK (show j<l.length by omega)
   refine zQc λw5 aT _=>?_
   obtain⟨a,ha,hi,_,_,c,c0,c1,c2,c3⟩:=zJi (h.pu (aK.trans aT)) hf
   obtain⟨a',ha',hi',_,_,c',c0',nS,c2',c3'⟩:=zJi (h.pu (aK.trans aT)) hg
   refine⟨a,ha,by omega,by omega,_,c,a',ha',by omega,by omega,_,c',?_⟩
   rw[zX5]
   refine Br.of (λd3=>⟨?_,aK.trans aT⟩) (λd3=>?_)
   ·rw[yQB h0 hal (zW5 (k:=k+1) (by
     rw[zJ1 hf,zKH]
     refine λh=>h.2 ?_
     rw[zQj d3]
     exact List.mem_map.2 ⟨g,by rw[List.mem_take_iff_getElem];exact⟨j,by omega,by rw[List.getElem?_eq_getElem (by omega)]at hg;exact Option.some.inj hg⟩,rfl⟩))]
   ·rw[zQa (by omega) (by omega)]
    refine zL _ _ mF ⟨by omega,?_,aK.trans aT⟩
    rw[zJ1 hg,List.mem_append,List.mem_singleton]
    exact λh=>h.elim hno (zQd d3)
  ·have mF:j=k:=by have:=zQd d2;omega
   subst mF
   show J (IntKind.i64.wrap ((j:Int)+1)) w4
   rw[zQa (by omega) (by omega)]
   exact hJ _ _ aH ⟨by omega,by rw[zJ1 hf,zKH];exact⟨hnd,hno⟩,aK⟩
 ·have aH:k=l.length:=by have:=zQd d1;omega
  subst aH
  rw[List.take_length]at hnd
  have he:=yQ6 h0 hal hnd
  refine Br.of (λd3=>⟨by rw[he,if_pos (.inl (by have:=zQj d3;omega))],hp⟩) (λd3=>(xVV (h.pu hp) (WOk.of hal)).mono ?_)
  rintro e w4 ⟨rfl,aK⟩
  refine⟨_,rfl,Br.of (λd4=>⟨by rw[he,if_pos (.inr (zQj d4))],hp.trans aK⟩) (λd4=>⟨by rw[he,if_neg (by have:=zQd d4;have:=zQd d3;omega)],hp.trans aK⟩)⟩
end Go.Proofs.YtaeecpjhfmcliaaGreatDoor
/- Table: which tables are right. No condition. -/
namespace Go.Proofs.YtaeecpjhfmcliaaGreatDoor
open Go.Sh Go.RowKit Tryz
theorem xZU:yXt prog 73 [some .i64,some .i64,none]=true:=by kernel_rfl
theorem yY3:prog.eqGuardType prog.depth 73=false:=by kernel_rfl
theorem yKx{a b:Val}(h:zVt a=zVt b):a=b:=by
 obtain⟨a1,a2,a3⟩:=a;obtain⟨b1,b2,b3⟩:=b
 simp[zVt]at h;simp[h]
theorem eqVal(x y:Operand)(a b:Val)(w:World):(eqS .eql 73 x y (zJ5 a) (zJ5 b)).run prog w=.ok (.bool (decide (a=b))) w:=by
 refine eqS_row (ks:=[some .i64,some .i64,none]) (xs:=zVt a) (ys:=zVt b) xZU yY3 rfl rfl ?_ w
 rw[decide_eq_true_iff]
 exact⟨λh=>by rw[h],yKx⟩
theorem xZu {l:List UInt8} {w:Nat} (h:zZs (l.take w)=l):l.length<=w/\zZs l=l:=by
 have h1:=yX5 (l.take w)
 rw[h]at h1
 have h2:=List.length_take_le w l
 have h3:l.length<=w:=by omega
 rw[List.take_of_length_le h3]at h
 exact⟨h3,h⟩
theorem fitted_holds{f:Fld}{p:Int}{v:Val}(hf:zQo f=true)(hv:zXh v=0)(hk:v.kind ≠ 0):(decide ((zQQ f p v).2=0) && decide ((zQQ f p v).1=v))=zQO f p v:=by
 have mN:¬zXh v ≠ 0:=by omega
 obtain⟨hvs,hvn,hv4⟩:=zKO hv
 unfold zQQ
 rw[if_neg hk]
 by_cases h1:v.kind ≠ (zXk f).kind
 ·rw[if_pos h1]
  have:zQO f p v=false:=by
   unfold zQO;rw[if_neg mN,if_neg hk]
   by_cases h5:f.kind=5
   ·have:v.kind ≠ 2:=by unfold zXk at h1;rw[if_pos h5]at h1;exact h1
    rw[if_pos h5,decide_eq_false this];rfl
   ·have:v.kind ≠ f.kind:=by unfold zXk at h1;rw[if_neg h5]at h1;exact h1
    rw[if_neg h5,if_pos this]
  rw[this];simp
 rw[if_neg h1]
 by_cases h4:f.kind=4
 ·rw[if_pos h4]
  have hkv:v.kind=4:=by
   have:v.kind=(zXk f).kind:=by simpa using h1
   rw[this];unfold zXk;rw[if_neg (by omega)];exact h4
  have rN:v.n=0:=by rw[hkv]at hvn;simpa[okN] using hvn
  have hfit:zQO f p v=(decide ((v.s.size:Int)<=f.width) && decide (zZs v.s.data.toList=v.s.data.toList) && zXJ v.s.data.toList p):=by
   unfold zQO;rw[if_neg mN,if_neg hk,if_neg (by omega),if_neg (by rw[hkv,h4];simp),if_neg (by omega),if_pos h4]
  obtain⟨wl,wh⟩:=zVS hf h4
  have key:(zZs (v.s.data.toList.take f.width.toNat)=v.s.data.toList) ↔ ((v.s.size:Int)<=f.width/\zZs v.s.data.toList=v.s.data.toList):=by
   constructor
   ·intro h;have h2:=xZu h;rw[zQ2]at h2;exact⟨by omega,h2.2⟩
   ·rintro⟨h2,h3⟩;rw[List.take_of_length_le (by rw[zQ2];omega)];exact h3
  have eqv:(⟨4,0,bs (zZs (v.s.data.toList.take f.width.toNat))⟩:Val)=v ↔ zZs (v.s.data.toList.take f.width.toNat)=v.s.data.toList:=by
   rw[←yXZ]
   obtain⟨k,n,s⟩:=v
   simp only at hkv rN
   subst hkv rN
   simp
  have wL:(decide ((v.s.size:Int)<=f.width) && decide (zZs v.s.data.toList=v.s.data.toList))=decide (zZs (v.s.data.toList.take f.width.toNat)=v.s.data.toList):=by rw[←Bool.decide_and];exact zZ5 key.symm
  rw[hfit,wL]
  by_cases hb:zZs (v.s.data.toList.take f.width.toNat)=v.s.data.toList
  ·rw[decide_eq_true hb,hb]
   cases ht:zXJ v.s.data.toList p
   ·simp
   ·rw[if_pos rfl]
    have h9:=eqv.2 hb
    rw[hb]at h9
    simp[h9]
  ·rw[decide_eq_false hb]
   cases ht:zXJ (zZs (v.s.data.toList.take f.width.toNat)) p
   ·simp
   ·rw[if_pos rfl]
    have h9:¬(⟨4,0,bs (zZs (v.s.data.toList.take f.width.toNat))⟩:Val)=v:=λh=>hb (eqv.1 h)
    simp[h9]
 ·rw[if_neg h4]
  cases hfit:zQO f p v
  ·simp
  ·simp
theorem xYE(f:Fld)(p:Int)(v:Val)(hs:f.name.size<=140737488355328)(hf:zQo f=true)(hpg:zQV p=true)(w:World):Calls prog 142 #[zYY f,.int .i64 p,zJ5 v] w λe w'=>e=.returned (.bool (zQO f p v))/\Pu w w':=by
 refine yWr _ _ _ _ _ _ _ _ w _ ?_
 refine alB λw1 ar aA=>alB λw2 aq aN=>?_
 have aE:=ar.trans aq
 have b1:∀{wz},Pu w2 wz->wz.heap[w.heap.size]?=some (.cells #[.string f.name,.int .i64 f.kind,.int .i64 f.width,.bool f.null] 129):=λh=>h.blk (aq.blk aA)
 have b2:∀{wz},Pu w2 wz->wz.heap[w1.heap.size]?=some (.cells #[.int .i64 v.kind,.int .i64 v.n,.string v.s] 73):=λh=>h.blk aN
 have q1:=b1 (Pu.refl w2)
 have q2:=b2 (Pu.refl w2)
 have out:∀{wz:World} {b:Bool},Pu w wz->zQO f p v=b->(Ending.returned (Value.bool b)=Ending.returned (Value.bool (zQO f p v))/\Pu w wz):=λh1 h2=>⟨by rw[h2],h1⟩
 have bad:zXh v ≠ 0->zQO f p v=false:=λh=>by unfold zQO;rw[if_pos h]
 refine⟨_,cl0 q2,Br.of (λd=>⟨_,cl q1 3,?_⟩) (λd=>⟨_,cl q2 0,_,cl q2 1,_,cl q2 2,(xQ6 v w2).mono ?_⟩)⟩
 ·have d:=zQD d
  have key:(f.null && decide (v=noV))=zQO f p v:=by
   by_cases h:zXh v ≠ 0
   ·rw[bad h]
    have:¬v=noV:=λe=>h (by rw[e];rfl)
    rw[decide_eq_false this];simp
   ·have h:zXh v=0:=by simpa using h
    obtain⟨_,h2,h3⟩:=zKO h
    have hn:v.n=0:=by rw[d]at h2;simpa[okN] using h2
    have hz:v.s.size=0:=h3.resolve_left (by omega)
    have:v=noV:=by
     obtain⟨k,n,s⟩:=v
     simp only at d hn hz
     subst d hn
     have:s=⟨#[]⟩:=zQU (by
      have:s.data.toList.length=0:=by rw[zQ2];exact hz
      rw[List.length_eq_zero_iff]at this;rw[this])
     subst this;rfl
    rw[decide_eq_true this]
    unfold zQO;rw[if_neg (by omega),if_pos d];simp
  refine Br.of (λd1=>⟨_,cl q2 0,_,cl q2 1,_,cl q2 2,_,w2,eqVal _ _ v noV w2,out aE ?_⟩) (λd1=>out aE ?_)
  ·rw[←key,d1];rfl
  ·rw[←key,d1];rfl
 rintro e w3 ⟨rfl,au⟩
 have aV:=aE.trans au
 refine⟨_,rfl,Br.of (λd1=>out aV (bad (zQw d1))) (λd1=>⟨_,cl (b1 au) 0,_,cl (b1 au) 1,_,cl (b1 au) 2,_,cl (b1 au) 3,_,cl (b2 au) 0,_,cl (b2 au) 1,_,cl (b2 au) 2,(fit_c f p v hs w3).mono ?_⟩)⟩
 have hv:=zQq d1
 have hF:=zJO (f:=f) (p:=p) (v:=v) (by rw[hf,hpg];rfl) hv
 have key:=fitted_holds (f:=f) (p:=p) hf hv (zQm d)
 rintro e w4 ⟨rfl,aK⟩
 rw[hF]
 refine⟨_,_,_,_,rfl,yQr rfl s25.symm rfl λw5 aT ou bq=>?_⟩
 have cx:=(au.trans aK).trans aT
 have eE:=aE.trans cx
 refine Br.of (λd2=>⟨_,cl bq 0,_,cl bq 1,_,cl bq 2,_,cl (b2 cx) 0,_,cl (b2 cx) 1,_,cl (b2 cx) 2,_,w5,eqVal _ _ (zQQ f p v).1 v w5,out eE ?_⟩) (λd2=>out eE ?_)
 ·rw[←key,decide_eq_true (zQD d2)];rfl
 ·rw[←key,decide_eq_false (zQm d2)];rfl
theorem yYd {l:List Fld} {vs:List Val} {i:Nat} {f:Fld} {v:Val} (h:l[i]?=some f) (h2:vs[i]?=some v):(l.zip vs)[i]?=some (f,v):=by
 rw[List.getElem?_zip_eq_some];exact⟨h,h2⟩
def zK6(l:List Fld)(p:Int)(vs:List Val):Bool:=(l.zip vs).all (λx=>zQO x.1 p x.2)
theorem zVn{l:List Fld}{p:Int}{r:Rec}(h:r.v.length ≠ l.length):zQ1 l p r=10:=by unfold zQ1;rw[if_pos h]
theorem zJx{l:List Fld}{p:Int}{r:Rec}(h:r.v.length=l.length):zQ1 l p r=if zK6 l p r.v then 0 else 1:=by unfold zQ1;rw[if_neg (by simp[h])];rfl
theorem zWm{w:World}{s t:SV}{l:List Fld}{r:Rec}(p:Int)(h:zX3 w s l)(hr:zX3 w t r.v):Calls prog 54 #[.slice s.a s.len s.cap,.int .i64 p,.agg #[.bool r.gone,.slice t.a t.len t.cap]] w λe w'=>e=.returned (.int .i64 (zQ1 l p r))/\Pu w w':=by
 refine yVV _ _ _ _ w _ ?_
 refine alB λw1 ar aA=>⟨t,cl aA 1,?_⟩
 have h1:=h.len
 have h2:=hr.len
 have h3:=h.lim
 refine Br.of (λd=>⟨by rw[zVn (by have:=zQw d;omega)],ar⟩) (λd=>?_)
 have hl:r.v.length=l.length:=by have:=zQq d;omega
 refine zQx l.length (λk u w'=>u=(k:Int)/\((l.zip r.v).take k).all (λx=>zQO x.1 p x.2)=true/\Pu w1 w') ⟨rfl,rfl,Pu.refl _⟩ ?_
 rintro k J u w2 hk ⟨hu,hal,aq⟩ hJ
 obtain rfl:u=(k:Int):=hu
 refine Br.of (λd1=>?_) (λd1=>?_)
 ·have aH:k<l.length:=by have:=zQj d1;omega
  obtain⟨f,hf⟩:=zQK aH
  obtain⟨v,hv⟩:=zQK (show k<r.v.length by omega)
  refine zQc λw3 au _=>?_
  have bj:=aq.trans au
  obtain⟨a,ha,hi,_,_,c,c0,c1,c2,c3⟩:=zJi ((h.pu ar).pu bj) hf
  obtain⟨b,hb,hbi,_,_,e0,e1,e2⟩:=yVs ((hr.pu ar).pu bj) hv
  refine⟨a,ha,by omega,by omega,_,c0,_,c1,_,c2,_,c3,t,cl (bj.blk aA) 1,b,hb,by omega,by omega,_,e0,_,e1,_,e2,(xXQ f p v w3).mono ?_⟩
  rintro e w4 ⟨rfl,aK⟩
  have hz:=yYd hf hv
  refine⟨_,rfl,Br.of (λd2=>⟨?_,ar.trans (bj.trans aK)⟩) (λd2=>?_)⟩
  ·have:zK6 l p r.v=false:=by unfold zK6;rw[List.all_eq_false];exact⟨_,List.mem_of_getElem? hz,by simpa using d2⟩
   rw[zJx hl,this];rfl
  ·rw[zQa (by omega) (by omega)]
   exact hJ _ _ aH ⟨by omega,by rw[zJP _ hz,hal,show zQO f p v=true by simpa using d2];rfl,bj.trans aK⟩
 ·have aH:k=l.length:=by have:=zQd d1;omega
  have:zK6 l p r.v=true:=by unfold zK6;rw[←hal,List.take_of_length_le (by rw[List.length_zip];omega)]
  exact⟨by rw[zJx hl,this];rfl,ar.trans aq⟩
theorem zJS{l:List Fld}{p:Int}:∀{rs:List Rec} {k:Nat} {r:Rec},(∀x ∈ rs.take k,zQ1 l p x=0)->rs[k]?=some r->zQ1 l p r ≠ 0->zXu l p rs=zQ1 l p r
 | [],k,r,_,h,_=>by simp at h
 | x :: rs,0,r,_,h,h2=>by simp at h;subst h;unfold zXu;rw[if_pos h2]
 | x :: rs,k+1,r,h0,h,h2=>by
  unfold zXu
  rw[if_neg (by rw[h0 x (by simp)];simp)]
  exact zJS (k:=k) (λy hy=>h0 y (by simp[hy])) (by simpa using h) h2
theorem zJT{l:List Fld}{p:Int}:∀{rs:List Rec},(∀x ∈ rs,zQ1 l p x=0)->zXu l p rs=0
 | [],_=>rfl
 | x :: rs,h=>by unfold zXu;rw[if_neg (by rw[h x (by simp)];simp)];exact zJT λy hy=>h y (by simp[hy])
theorem zYN{t:Tbl}(h:zQV t.page=false):zQh t=1:=by unfold zQh;rw[h];rfl
theorem zWI{t:Tbl}(h:zQV t.page=true)(h2:zQT t.fields ≠ 0):zQh t=zQT t.fields:=by unfold zQh;rw[h,if_pos rfl,if_pos h2]
theorem zYU{t:Tbl}(h:zQV t.page=true)(h2:zQT t.fields=0)(h3:300<t.recs.length):zQh t=3:=by unfold zQh;rw[h,if_pos rfl,if_neg (by omega),if_pos h3]
theorem zYE{t:Tbl}(h:zQV t.page=true)(h2:zQT t.fields=0)(h3:¬300<t.recs.length):zQh t=zXu t.fields t.page t.recs:=by unfold zQh;rw[h,if_pos rfl,if_neg (by omega),if_neg h3]
theorem zXl{l:List Fld}(h:zQT l=0):l ≠ []/\l.all zQo=true/\(l.map (·.name)).Nodup/\l.length<=16/\zXG l<=2000:=by
 unfold zQT at h
 split at h
 ·omega
 ·rename_i h1
  split at h
  ·omega
  ·rename_i h2
   split at h
   ·omega
   ·rename_i h3
    simp only[not_or]at h1 h3
    exact⟨h1.1,by simpa using h1.2,by simpa using h2,by omega,by omega⟩
abbrev zKQ(t:Tbl)(f r:SV):Value:=.agg #[.int .i64 t.page,.slice f.a f.len f.cap,.slice r.a r.len r.cap]
theorem zWn{w:World}{t:Tbl}{f r:SV}(h:zXi w t f r):Calls prog 13 #[zKQ t f r] w λe w'=>e=.returned (.int .i64 (zQh t))/\Pu w w':=by
 refine yVY _ _ _ w _ ?_
 refine alB λw1 ar aA=>⟨_,cl0 aA,(yZ3 t.page w1).mono ?_⟩
 rintro e w2 ⟨rfl,aq⟩
 have h1:=h.recs.len
 have h3:=h.recs.lim
 refine⟨_,rfl,Br.of (λd=>⟨by rw[zYN (by simpa using d)],ar.trans aq⟩) (λd=>⟨_,cl (aq.blk aA) 1,(zYV (h.fields.pu (ar.trans aq))).mono ?_⟩)⟩
 have hpg:zQV t.page=true:=by simpa using d
 rintro e w3 ⟨rfl,au⟩
 have bj:=aq.trans au
 refine⟨_,rfl,Br.of (λd1=>⟨by rw[zWI hpg (zQw d1)],ar.trans bj⟩) (λd1=>⟨_,cl (bj.blk aA) 2,Br.of (λd2=>⟨by rw[zYU hpg (zQq d1) (by have:=zQj d2;omega)],ar.trans bj⟩) (λd2=>?_)⟩)⟩
 have hvf:=zQq d1
 have e0:=zYE hpg hvf (by have:=zQd d2;omega)
 refine zQx t.recs.length (λk u w'=>u=(k:Int)/\(∀x ∈ t.recs.take k,zQ1 t.fields t.page x=0)/\Pu w1 w') ⟨rfl,by simp,bj⟩ ?_
 rintro k J u w4 hk ⟨hu,hal,aK⟩ hJ
 obtain rfl:u=(k:Int):=hu
 refine⟨_,cl (aK.blk aA) 2,Br.of (λd3=>zQc λw5 aT _=>?_) (λd3=>?_)⟩
 ·have aH:k<t.recs.length:=by have:=zQj d3;omega
  obtain⟨x,hx⟩:=zQK aH
  have fg:=aK.trans aT
  obtain⟨a,q,ha,hi,hq,c0,c1⟩:=zKn ((h.recs.pu ar).pu fg) hx
  refine⟨_,cl (fg.blk aA) 1,_,cl0 (fg.blk aA),_,cl (fg.blk aA) 2,a,ha,by omega,by omega,_,c0,_,c1,(zWm t.page ((h.fields.pu ar).pu fg) hq).mono ?_⟩
  rintro e w6 ⟨rfl,bE⟩
  refine⟨_,rfl,Br.of (λd4=>⟨by rw[e0,zJS hal hx (zQw d4)],ar.trans (fg.trans bE)⟩) (λd4=>?_)⟩
  rw[zQa (by omega) (by omega)]
  refine hJ _ _ aH ⟨by omega,λy hy=>?_,fg.trans bE⟩
  rw[zQC hx,List.mem_append,List.mem_singleton]at hy
  rcases hy with hy|rfl
  ·exact hal y hy
  ·exact zQq d4
 ·have aH:k=t.recs.length:=by have:=zQd d3;omega
  subst aH
  rw[List.take_length]at hal
  exact⟨by rw[e0,zJT hal],ar.trans aK⟩
theorem zZq{w:World}{t:Tbl}{f r:SV}(h:zXi w t f r)(hl:Lim.ok t.fields):Calls prog 106 #[zKQ t f r] w λe w'=>e=.returned (.int .i64 (zQh t))/\Pu w w':=by
 refine yVp _ _ _ w _ ?_
 refine alB λw1 ar aA=>⟨_,cl0 aA,(yKr t.page w1).mono ?_⟩
 rintro e w2 ⟨rfl,aq⟩
 have h1:=h.recs.len
 have h3:=h.recs.lim
 have h1f:=h.fields.len
 have h3f:=h.fields.lim
 refine⟨_,rfl,Br.of (λd=>⟨by rw[zYN (by simpa using d)],ar.trans aq⟩) (λd=>⟨_,cl (aq.blk aA) 1,(zZI (h.fields.pu (ar.trans aq)) hl).mono ?_⟩)⟩
 have hpg:zQV t.page=true:=by simpa using d
 rintro e w3 ⟨rfl,au⟩
 have bj:=aq.trans au
 refine⟨_,rfl,Br.of (λd1=>⟨by rw[zWI hpg (zQw d1)],ar.trans bj⟩) (λd1=>⟨_,cl (bj.blk aA) 2,Br.of (λd2=>⟨by rw[zYU hpg (zQq d1) (by have:=zQj d2;omega)],ar.trans bj⟩) (λd2=>⟨_,cl (bj.blk aA) 2,?_⟩)⟩)⟩
 have hvf:=zQq d1
 obtain⟨_,hall,_,_,_⟩:=zXl hvf
 have e0:=zYE hpg hvf (by have:=zQd d2;omega)
 refine zQx t.recs.length (λk u w'=>u=(k:Int)/\(∀x ∈ t.recs.take k,zQ1 t.fields t.page x=0)/\Pu w1 w') ⟨rfl,by simp,bj⟩ ?_
 rintro k J u w4 hk ⟨hu,hal,aK⟩ hJ
 obtain rfl:u=(k:Int):=hu
 refine Br.of (λd3=>?_) (λd3=>?_)
 ·have aH:k<t.recs.length:=by have:=zQj d3;omega
  obtain⟨x,hx⟩:=zQK aH
  obtain⟨a,q,ha,hi,hq,c0,c1⟩:=zKn ((h.recs.pu ar).pu aK) hx
  have next:∀{w6:World},Pu w4 w6->zQ1 t.fields t.page x=0->xQi (λe w'=>e=.returned (.int .i64 (zQh t))/\Pu w w') J (some (⟨w.heap.size,0,none⟩:Addr)) r ((r.len:Nat):Int) (k:Int) [] w6:=λ{w6} bE h0=>by
   show J (IntKind.i64.wrap ((k:Int)+1)) w6
   rw[zQa (by omega) (by omega)]
   refine hJ _ _ aH ⟨by omega,λy hy=>?_,aK.trans bE⟩
   rw[zQC hx,List.mem_append,List.mem_singleton]at hy
   rcases hy with hy|rfl
   ·exact hal y hy
   ·exact h0
  have hql:=hq.len
  refine⟨a,ha,by omega,by omega,_,c0,_,c1,yQr rfl (by kernel_rfl) rfl λw5 aT ou bq=>⟨_,cl bq 1,_,cl ((aK.trans aT).blk aA) 1,Br.of (λd4=>?_) (λd4=>⟨_,cl ((aK.trans aT).blk aA) 1,?_⟩)⟩⟩
  ·have:zQ1 t.fields t.page x=10:=zVn (by have:=zQw d4;omega)
   exact⟨by rw[e0,zJS hal hx (by rw[this];omega),this],ar.trans (aK.trans aT)⟩
  have hlen:x.v.length=t.fields.length:=by have:=zQq d4;omega
  have fg:=aK.trans aT
  refine zQx t.fields.length (λj u w'=>u=(j:Int)/\((t.fields.zip x.v).take j).all (λy=>zQO y.1 t.page y.2)=true/\Pu w5 w') ⟨rfl,rfl,Pu.refl _⟩ ?_
  rintro j J2 u w6 hj ⟨hu,haz,bE⟩ zL
  obtain rfl:u=(j:Int):=hu
  have dQ:=fg.trans bE
  refine Br.of (λd5=>?_) (λd5=>?_)
  ·have mF:j<t.fields.length:=by have:=zQj d5;omega
   obtain⟨g,hg⟩:=zQK mF
   obtain⟨v,hv⟩:=zQK (show j<x.v.length by omega)
   obtain⟨b,hb,hbi,_,_,c',k0,k1,k2,k3⟩:=zJi ((h.fields.pu ar).pu dQ) hg
   refine⟨b,hb,by omega,by omega,_,k0,_,k1,_,k2,_,k3,yQr rfl s23.symm rfl λw7 cy hs7 ko=>zQc λw8 bW _=>?_⟩
   have oK:=cy.trans bW
   have mQ:=dQ.trans oK
   have kw:=bW.blk ko
   obtain⟨m,hm,hmi,_,_,v0,v1,v2⟩:=yVs (hq.pu ((aT.trans bE).trans oK)) hv
   refine⟨_,cl kw 0,_,cl kw 1,_,cl kw 2,_,cl kw 3,_,cl0 (mQ.blk aA),q,cl ((bE.trans oK).blk bq) 1,m,hm,by omega,by omega,_,v0,_,v1,_,v2,(xYE g t.page v (hl g (List.mem_of_getElem? hg)) (List.all_eq_true.1 hall g (List.mem_of_getElem? hg)) hpg w8).mono ?_⟩
   rintro e w9 ⟨rfl,cE⟩
   have hz:=yYd hg hv
   refine⟨_,rfl,Br.of (λd6=>?_) (λd6=>?_)⟩
   ·have:zK6 t.fields t.page x.v=false:=by unfold zK6;rw[List.all_eq_false];exact⟨_,List.mem_of_getElem? hz,by simpa using d6⟩
    have h1:zQ1 t.fields t.page x=1:=by rw[zJx hlen,this];rfl
    exact⟨by rw[e0,zJS hal hx (by rw[h1];omega),h1],ar.trans (mQ.trans cE)⟩
   ·rw[zQa (by omega) (by omega)]
    exact zL _ _ mF ⟨by omega,by rw[zJP _ hz,haz,show zQO g t.page v=true by simpa using d6];rfl,(bE.trans oK).trans cE⟩
  ·have mF:j=t.fields.length:=by have:=zQd d5;omega
   have:zK6 t.fields t.page x.v=true:=by unfold zK6;rw[←haz,List.take_of_length_le (by rw[List.length_zip];omega)]
   exact next (aT.trans bE) (by rw[zJx hlen,this];rfl)
 ·have aH:k=t.recs.length:=by have:=zQd d3;omega
  subst aH
  rw[List.take_length]at hal
  exact⟨by rw[e0,zJT hal],ar.trans aK⟩
end Go.Proofs.YtaeecpjhfmcliaaGreatDoor
/- Table: the bytes of a header. No condition. -/
namespace Go.Proofs.YtaeecpjhfmcliaaGreatDoor
open Go.Sh Go.RowKit Tryz
def u8V(b:UInt8):Value:=.int .u8 ((b.toNat:Nat):Int)
def zZ6(n:Int):UInt8:=UInt8.ofNat (n % 256).toNat
theorem zJ3(n:Int):(Value.int .u8 (IntKind.u8.wrap n))=u8V (zZ6 n):=by
 unfold u8V zZ6
 rw[IntKind.wrap_u8]
 congr 1
 have:(UInt8.ofNat (n % 256).toNat).toNat=(n % 256).toNat:=by simp;omega
 rw[this];omega
theorem yVe:(prog.info? 5).map (λi=>(i.zero,i.size,i.bytes))=some (some (.int .u8 0),1,1):=by kernel_rfl
def zQi(w0 w:World)(s:SV)(l:List UInt8):Prop:=zQl w 5 1 s (l.map u8V)/\∀b ∈ zQe s,w0.heap.size<=b
theorem zQi.len{w0 w:World}{s:SV}{l:List UInt8}(h:zQi w0 w s l):s.len=l.length:=by have:=h.1.1;simp at this;omega
theorem zQi.pu{w0 w w':World}{s:SV}{l:List UInt8}(h:zQi w0 w s l)(hp:Pu w w'):zQi w0 w' s l:=⟨h.1.pu hp,h.2⟩
theorem zQi.nil(w0 w:World):zQi w0 w ⟨none,0,0⟩ []:=⟨zQl.nil w 5 1,by simp[zQe]⟩
theorem zQi.fr{B:Nat->Prop}{w0 w w':World}{s:SV}{l:List UInt8}(h:zQi w0 w s l)(hf:Fr B w w')(hn:∀k ∈ zQe s,¬B k):zQi w0 w' s l:=⟨h.1.fr hf hn,h.2⟩
theorem zQi.low{w0 w1 w:World}{s:SV}{l:List UInt8}(h:zQi w1 w s l)(hz:w0.heap.size<=w1.heap.size):zQi w0 w s l:=⟨h.1,λb hb=>Nat.le_trans hz (h.2 b hb)⟩
theorem zQi.app {w0 w:World} {s m:SV} {l news:List UInt8} (h:zQi w0 w s l) (hz:w0.heap.size<=w.heap.size) (hl:m.len=news.length) (hn:∀(j:Nat) (b:UInt8),news[j]?=some b->∃a,m.a=some a/\w.cell? (a.add j)=some (u8V b)) (hb:l.length+news.length<=70368744177664) :
  ∃(s':SV) (w':World),(Builtin.append_ #[22,22] 22 #[.slice s.a s.len s.cap,.slice m.a m.len m.cap]).run prog w=.ok (.slice s'.a s'.len s'.cap) w'/\zQi w0 w' s' (l ++ news)/\Fr (· ∈ zQe s) w w':=by
 have h1:=h.len
 obtain⟨s',w',hr,hrow,hf,hblk,_⟩:=zK5 (P:=prog) (ty:=22) u37 yVe rfl h.1 (m:=m) (news:=news.map u8V) (by simpa using hl) (λj u hu=>by
  obtain⟨b,hb,rfl⟩:∃b,news[j]?=some b/\u8V b=u:=by simpa using hu
  exact hn j b hb) (λu hu=>by simp at hu;obtain⟨x,_,rfl⟩:=hu;rfl) (by omega)
 refine⟨s',w',hr,⟨by rw[List.map_append];exact hrow,λb hb=>?_⟩,hf⟩
 rcases hblk b hb with h2|h2
 ·exact h.2 b h2
 ·omega
theorem zQi.one {w0 w:World} {s:SV} {l:List UInt8} (h:zQi w0 w s l) (hz:w0.heap.size<=w.heap.size) {r:Nat} {b:UInt8} {c:Array Value} (hr:w.heap[r]?=some (.cells c 5)) (hc:c[0]?=some (u8V b)) (hb:l.length<=70368744177663) :
  ∃(s':SV) (w':World),(Builtin.append_ #[22,22] 22 #[.slice s.a s.len s.cap,.slice (some ⟨r,0,none⟩) 1 1]).run prog w=.ok (.slice s'.a s'.len s'.cap) w'/\zQi w0 w' s' (l ++ [b])/\Fr (· ∈ zQe s) w w':=
 h.app hz (m:=⟨some ⟨r,0,none⟩,1,1⟩) (news:=[b]) rfl (λj b' hj=>by
  cases j with
  | zero=>simp at hj;subst hj;exact⟨_,rfl,by rw[yVM,zQE hr];exact hc⟩
  | succ j=>simp at hj) (by simp;omega)
theorem zQi.box {w0 w:World} {r:Nat} {l:List UInt8} (hr:w.heap[r]?=some (.cells (l.map u8V).toArray 5)) (hz:w0.heap.size<=r) (hl:l.length<=140737488355328):zQi w0 w ⟨some ⟨r,0,none⟩,l.length,l.length⟩ l:=
 ⟨⟨by simp,.inr ⟨r,_,rfl,hr,Nat.le_refl _,by show l.length<=maxLen;unfold maxLen;omega,by simp,by simp[←List.map_take]⟩⟩,λb hb=>by simp[zQe]at hb;omega⟩
theorem zQi.cell {w0 w:World} {s:SV} {l:List UInt8} (h:zQi w0 w s l) {j:Nat} {b:UInt8} (hj:l[j]?=some b):∃a,s.a=some a/\w.cell? (a.add j)=some (u8V b):=by
 obtain⟨a,h1,h2,_⟩:=h.1.cell (j:=j) (v:=u8V b) (by rw[List.getElem?_map,hj];rfl)
 exact⟨a,h1,h2⟩
def zVL(n k:Nat):List UInt8:=(List.range k).map λj=>UInt8.ofNat (n / 256 ^ j % 256)
theorem zXm(n k:Nat):(zVL n k).length=k:=by simp[zVL]
theorem yZv(n k:Nat):zVL n (k+1)=zVL n k ++ [UInt8.ofNat (n / 256 ^ k % 256)]:=by simp[zVL,List.range_succ]
theorem zYO(n:Nat):zZ6 (n:Int)=UInt8.ofNat (n % 256):=by
 unfold zZ6;congr 1
theorem xZD(n k:Nat)(hk:k<=8)(w:World):Calls prog 202 #[.int .i64 (n:Int),.int .i64 (k:Int)] w λe w'=>∃s:SV,e=.returned (.slice s.a s.len s.cap)/\zQi w w' s (zVL n k)/\Pu w w':=by
 refine yKI _ _ w _ ?_
 refine zQx k (λj t w'=>t.1=((n / 256 ^ j:Nat):Int)/\t.2.2=(j:Int)/\zQi w w' t.2.1 (zVL n j)/\Pu w w') ⟨by simp,rfl,zQi.nil w w,Pu.refl _⟩ ?_
 rintro j J ⟨t1,t2,t3⟩ w2 hj ⟨h1,h3,hr,hp⟩ hJ
 obtain rfl:t1=((n / 256 ^ j:Nat):Int):=h1
 obtain rfl:t3=(j:Int):=h3
 have hr:zQi w w2 t2 (zVL n j):=hr
 dsimp only
 refine Br.of (λd=>?_) (λd=>?_)
 ·have mF:j<k:=by have:=zQj d;omega
  refine alB λw3 au bo=>?_
  have hz:w.heap.size<=w3.heap.size:=(hp.trans au).size
  obtain⟨s',w4,e4,hr4,fe⟩:=(hr.pu au).one hz (b:=zZ6 ((n / 256 ^ j:Nat):Int)) bo (by rw[zJ3];rfl) (by rw[zXm];omega)
  refine⟨s',w4,e4,by omega,?_⟩
  rw[zQa (by omega) (by omega)]
  refine hJ _ _ mF ⟨?_,by dsimp only;omega,?_,(hp.trans au).andNew fe λi hi=>hr.2 i hi⟩
  ·show Int.fdiv ((n / 256 ^ j:Nat):Int) (2 ^ 8)=_
   rw[Int.fdiv_eq_ediv_of_nonneg _ (by decide),Nat.pow_succ,←Nat.div_div_eq_div_mul]
   norm_cast
  ·dsimp only;rw[yZv,←zYO];exact hr4
 ·have mF:j=k:=by have:=zQd d;omega
  subst mF
  exact⟨t2,rfl,hr,hp⟩
def zWU(k:Int):UInt8:=if k=1 then 76 else if k=2 then 78 else if k=3 then 68 else if k=4 then 67 else 77
def xXm(b:Bool):UInt8:=if b then 1 else 0
def zQJ(f:Fld):List UInt8:=f.name.data.toList ++ List.replicate (10 - f.name.size) 0 ++ [zWU f.kind,zZ6 f.width,xXm f.null,0,0,0]
def zJC(t:Tbl):List UInt8:=[67,zZ6 t.page] ++ zVL t.recs.length 4 ++ zVL (13+16 * t.fields.length) 2 ++ zVL (zXG t.fields).toNat 2 ++ [zZ6 t.fields.length,0] ++ t.fields.flatMap zQJ ++ [13]
theorem zQZ{f:Fld}(h:zQo f=true):1<=f.name.size/\f.name.size<=10/\∃K,zXb f.kind=some K/\K.letter=((zWU f.kind).toNat:Nat):=by
 unfold zQo at h
 simp only[Bool.and_eq_true]at h
 obtain⟨hn,hk⟩:=h
 unfold zZr at hn
 simp only[Bool.and_eq_true,decide_eq_true_eq]at hn
 refine⟨hn.1.1.1,hn.1.1.2,?_⟩
 rcases zJM f.kind with⟨e,h1⟩|⟨e,h1⟩|⟨e,h1⟩|⟨e,h1⟩|⟨e,h1⟩|⟨h1,h2,h3,h4,h5,hh⟩
 ·exact⟨_,h1,by rw[e];rfl⟩
 ·exact⟨_,h1,by rw[e];rfl⟩
 ·exact⟨_,h1,by rw[e];rfl⟩
 ·exact⟨_,h1,by rw[e];rfl⟩
 ·exact⟨_,h1,by rw[e];rfl⟩
 ·rw[yQg (by rw[hh];rfl)]at hk;cases hk
theorem zZp{f:Fld}(h:f.name.size<=10):(zQJ f).length=16:=by
 unfold zQJ;simp only[List.length_append,List.length_replicate,zQ2,List.length_cons,List.length_nil];omega
theorem yZE(n:Nat)(hn:n<=1000000)(w:World):Calls prog 159 #[.int .i64 (n:Int)] w λe w'=>e=.returned (.int .i64 ((13+16 * n:Nat):Int))/\Pu w w':=by
 refine yWl _ w _ ⟨?_,Pu.refl w⟩
 rw[zQa (n:=16 * (n:Int)) (by omega) (by omega),zQa (by omega) (by omega)];norm_cast
theorem u123:prog.underlying 227=some (.array 16 5):=by kernel_rfl
theorem xJr(r:Nat)(w:World):(Instr.sliceAt 227 (.pointer (some (⟨r,0,none⟩:Addr))) none (some (.int .i64 10)) (some (.int .i64 10))).run prog w=.ok (.slice (some ⟨r,0,none⟩) 10 10) w:=by
 have hs:(sizeOf 5).run prog w=.ok 1 w:=Tryz.sizeOf5 w
 simp[Instr.sliceAt,zQn u123,Instr.sureAddr,hs,Instr.sliceBounds,Instr.sliceBound,asIntOf,Addr.add]
end Go.Proofs.YtaeecpjhfmcliaaGreatDoor
/- Table: the program's header of a table. No condition. -/
namespace Go.Proofs.YtaeecpjhfmcliaaGreatDoor
open Go.Sh Go.RowKit Tryz
def xV1(R:Rt)(r1 du:Nat)(bV:SV)(ds:Ds)(bX:World):Prop:=
 ∃e7:SV,∃df:World,(Builtin.append_ #[22,22] 22 #[.slice (some ⟨du,0,none⟩) 2 2,.slice bV.a bV.len bV.cap]).run prog bX=.ok (.slice e7.a e7.len e7.cap) df/\
 ∃dW:SV,df.cell? ((⟨r1,0,none⟩:Addr).add 1)=some (.slice dW.a dW.len dW.cap)/\
 Calls prog 159 #[.int .i64 ((dW.len:Nat):Int)] df λe dU=>
 ∃jh:Int,e=.returned (.int .i64 jh)/\
 Calls prog 202 #[.int .i64 jh,.int .i64 2] dU λe dw=>
 ∃cz:SV,e=.returned (.slice cz.a cz.len cz.cap)/\
 ∃dv:SV,∃dH:World,(Builtin.append_ #[22,22] 22 #[.slice e7.a e7.len e7.cap,.slice cz.a cz.len cz.cap]).run prog dw=.ok (.slice dv.a dv.len dv.cap) dH/\
 ∃eb:SV,dH.cell? ((⟨r1,0,none⟩:Addr).add 1)=some (.slice eb.a eb.len eb.cap)/\
 Calls prog 161 #[.slice eb.a eb.len eb.cap] dH λe fj=>
 ∃cv:Int,e=.returned (.int .i64 cv)/\
 Calls prog 202 #[.int .i64 cv,.int .i64 2] fj λe iq=>
 ∃cp:SV,e=.returned (.slice cp.a cp.len cp.cap)/\
 ∃eu:SV,∃eg:World,(Builtin.append_ #[22,22] 22 #[.slice dv.a dv.len dv.cap,.slice cp.a cp.len cp.cap]).run prog iq=.ok (.slice eu.a eu.len eu.cap) eg/\
 ∃mH:SV,eg.cell? ((⟨r1,0,none⟩:Addr).add 1)=some (.slice mH.a mH.len mH.cap)/\
 alE (.cells #[.int .u8 (IntKind.u8.wrap ((mH.len:Nat):Int)),.int .u8 0] 5) eg λym fm=>
 ∃gf:SV,∃ir:World,(Builtin.append_ #[22,22] 22 #[.slice eu.a eu.len eu.cap,.slice (some ⟨ym,0,none⟩) 2 2]).run prog fm=.ok (.slice gf.a gf.len gf.cap) ir/\
 ∃eR:SV,ir.cell? ((⟨r1,0,none⟩:Addr).add 1)=some (.slice eR.a eR.len eR.cap)/\
 yXQ R gf eR ((eR.len:Nat):Int) 0 ds ir
theorem yXM {l:List Fld} {k:Nat} {f:Fld} (h:l[k]?=some f):(l.take (k+1)).flatMap zQJ=(l.take k).flatMap zQJ ++ zQJ f:=by
 rw[zQC h,List.flatMap_append];simp
theorem yW9{l:List Fld}(h:∀f ∈ l,f.name.size<=10):(l.flatMap zQJ).length<=16 * l.length:=by
 induction l with
 | nil=>simp
 | cons f l ih=>
  rw[List.flatMap_cons,List.length_append,zZp (h f (by simp)),List.length_cons]
  have:=ih λg hg=>h g (by simp[hg])
  omega
theorem yX1(l:List UInt8):Lib.byteCells l=l.map u8V:=rfl
def xQZ(n:Nat):List Value:=List.replicate n (.int .u8 0)
def zZE(s:ByteArray)(a b c:Value):Array Value:=(s.data.toList.map u8V ++ (List.replicate (10 - s.size) 0).map u8V ++ [a,b,c,.int .u8 0,.int .u8 0,.int .u8 0]).toArray
theorem yJr{s:ByteArray}(h:s.size<=10)(a b c:Value):(zZE s a b c).size=16:=by
 unfold zZE;simp only[List.size_toArray,List.length_append,List.length_map,zQ2,List.length_replicate,List.length_cons,List.length_nil];omega
theorem yZe{s:ByteArray}(h:s.size<=10)(a b c v:Value):(zZE s a b c).setIfInBounds 10 v=zZE s v b c:=by
 unfold zZE
 apply Array.toList_inj.1
 rw[Array.toList_setIfInBounds]
 simp only
 rw[List.set_append_right _ _ (by simp only[List.length_append,List.length_map,zQ2,List.length_replicate];omega)]
 simp only[List.length_append,List.length_map,zQ2,List.length_replicate]
 rw[show 10 - (s.size+(10 - s.size))=0 by omega];rfl
theorem yZl{s:ByteArray}(h:s.size<=10)(a b c v:Value):(zZE s a b c).setIfInBounds 11 v=zZE s a v c:=by
 unfold zZE
 apply Array.toList_inj.1
 rw[Array.toList_setIfInBounds]
 simp only
 rw[List.set_append_right _ _ (by simp only[List.length_append,List.length_map,zQ2,List.length_replicate];omega)]
 simp only[List.length_append,List.length_map,zQ2,List.length_replicate]
 rw[show 11 - (s.size+(10 - s.size))=1 by omega];rfl
theorem yXF{s:ByteArray}(h:s.size<=10)(a b c v:Value):(zZE s a b c).setIfInBounds 12 v=zZE s a b v:=by
 unfold zZE
 apply Array.toList_inj.1
 rw[Array.toList_setIfInBounds]
 simp only
 rw[List.set_append_right _ _ (by simp only[List.length_append,List.length_map,zQ2,List.length_replicate];omega)]
 simp only[List.length_append,List.length_map,zQ2,List.length_replicate]
 rw[show 12 - (s.size+(10 - s.size))=2 by omega];rfl
theorem zV6(f:Fld):zZE f.name (u8V (zWU f.kind)) (u8V (zZ6 f.width)) (u8V (xXm f.null))=((zQJ f).map u8V).toArray:=by
 unfold zZE zQJ
 simp only[List.map_append,List.map_cons,List.map_nil];rfl
theorem xQO {w:World} {r:Nat} {s:ByteArray} (hb:w.heap[r]?=some (.cells (xQZ 16).toArray 227)) (hs:s.size<=10) :
  ∃(n:Int) (w':World),(Builtin.copy_ #[22,9] 3 #[.slice (some ⟨r,0,none⟩) 10 10,.string s]).run prog w=.ok (.int .i64 n) w'/\w'.heap[r]?=some (.cells (zZE s (.int .u8 0) (.int .u8 0) (.int .u8 0)) 227)/\Fr (·=r) w w':=by
 have h:=Lib.run_copy_row_string (P:=prog) w 22 9 3 5 r 0 10 10 s (xQZ 16).toArray 227 u37 (by have:=yVe;simp only[Option.map_eq_some_iff]at *;obtain⟨i,h1,h2⟩:=this;exact⟨i,h1,by simp at h2;exact h2.2.1⟩) hb (by omega) (by simp[xQZ];omega)
 refine⟨_,_,h,?_,?_⟩
 ·rw[setRow_heap w r _ _ 227 (0,0) hb]
  congr 2
  unfold zZE
  rw[yX1]
  simp only[List.take_zero,List.nil_append,Nat.zero_add,xQZ]
  rw[List.drop_replicate]
  apply Array.toList_inj.1
  simp only[List.append_assoc]
  congr 1
  have e:(List.replicate (10 - s.size) (0:UInt8)).map u8V=List.replicate (10 - s.size) (.int .u8 0):=by rw[List.map_replicate];rfl
  rw[e,show 16 - s.size=(10 - s.size)+6 by omega,←List.replicate_append_replicate];rfl
 ·exact⟨rfl,rfl,rfl,by simp,λk _ hk=>setRow_other w r k _ hk⟩
theorem yW4{ww w0 w:World}(hww:Pu ww w0){s l:SV}{fs:List Fld}{acc:List UInt8}(hz:w0.heap.size<=w.heap.size)(hp0:Pu w0 w)(h:zX3 w0 s fs)(hr:zQi w0 w l acc)(hall:fs.all zQo=true)(hn:fs.length<=16)(ha:acc.length<=100) :
  yXQ (λe w'=>∃q:SV,e=.returned (.slice q.a q.len q.cap)/\zQi ww w' q (acc ++ fs.flatMap zQJ ++ [13])/\Pu ww w') l s ((s.len:Nat):Int) 0 [] w:=by
 have hlen:=h.len
 have iU:∀f ∈ fs,f.name.size<=10:=λf hf=>(zQZ (List.all_eq_true.1 hall f hf)).2.1
 refine zQx fs.length (λk t w'=>t.2=(k:Int)/\zQi w0 w' t.1 (acc ++ (fs.take k).flatMap zQJ)/\Pu w0 w') ⟨rfl,by simpa using hr,hp0⟩ ?_
 rintro k J ⟨t1,t2⟩ w2 hk ⟨h2,jg,aq⟩ hJ
 obtain rfl:t2=(k:Int):=h2
 have jg:zQi w0 w2 t1 (acc ++ (fs.take k).flatMap zQJ):=jg
 have hfl:=yW9 (l:=fs.take k) λf hf=>iU f (List.mem_of_mem_take hf)
 have htl:=List.length_take_le k fs
 dsimp only
 refine Br.of (λd=>?_) (λd=>?_)
 ·have aH:k<fs.length:=by have:=zQj d;omega
  obtain⟨f,hf⟩:=zQK aH
  have hfB:=List.all_eq_true.1 hall f (List.mem_of_getElem? hf)
  obtain⟨f1,f10,K,hK,hKl⟩:=zQZ hfB
  obtain⟨a,ha',hi,_,_,_,c0,c1,c2,c3⟩:=zJi (h.pu aq) hf
  refine⟨a,ha',by omega,by omega,_,c0,_,c1,_,c2,_,c3,yQr rfl s23.symm rfl λw3 au qn bo=>alB λw4 aK cI=>zQc λw5 aT hh5=>?_⟩
  have zM:=(aK.trans aT).blk bo
  have hb45:w5.heap[w3.heap.size]?=some (.cells (xQZ 16).toArray 227):=aT.blk cI
  have hlt:w2.heap.size<w3.heap.size:=zQy bo
  have eE:Pu w0 w5:=((aq.trans au).trans aK).trans aT
  refine⟨λu=>u=w5,rfl,f.name,λu hu=>by subst hu;exact cl0 zM,⟨some ⟨w3.heap.size,0,none⟩,10,10⟩,w5,xJr _ w5,rfl,?_⟩
  obtain⟨n,w6,e6,gh,jf⟩:=xQO hb45 f10
  refine⟨n,w6,e6,zQc λw7 cy hh7=>?_⟩
  have zN:=cy.blk (jf.blk zM (show ¬w2.heap.size=w3.heap.size by omega))
  have zO:=cy.blk gh
  have nT:zQi w0 w7 t1 (acc ++ (fs.take k).flatMap zQJ):=((((jg.pu au).pu aK).pu aT).fr jf λb hb e=>by
   have aN:=jg.1.lt b hb
   have e:b=w3.heap.size:=e
   omega).pu cy
  have gg:Pu w0 w7:=(eE.andNew jf λi hi=>by have hi:i=w3.heap.size:=hi;have:=aq.size;omega).trans cy
  refine⟨λu=>u.heap[w2.heap.size]?=some (.cells #[.string f.name,.int .i64 f.kind,.int .i64 f.width,.bool f.null] 129),zN,f.kind,λu hu=>cl hu 1,f.width,λu hu=>cl hu 2,(zVf w7).mono ?_⟩
  rintro e w8 ⟨m,rfl,hm,xA,bW⟩
  have hb48:=bW.blk zO
  have zP:=bW.blk zN
  have hsz:∀a b c,(zZE f.name a b c).size=16:=yJr f10
  have z3:w3.heap.size<w7.heap.size:=zQy zO
  refine⟨some m,rfl,λu=>u.heap[w2.heap.size]?=some (.cells #[.string f.name,.int .i64 f.kind,.int .i64 f.width,.bool f.null] 129)/\zXB u yJv zYQ m zZd,⟨zP,hm⟩,λu hu=>hu.1,K.letter,K.least,K.most,.func (.func K.wr) #[] #[],.func (.func K.rd) #[] #[],λu hu=>?_,by omega,by omega,?_⟩
  ·have:=zW4 hu.2 f.kind false
   rw[hK]at this;exact this
  ·show st1 ((⟨w3.heap.size,0,none⟩:Addr).add 10) _ w8 _
   rw[zQs,Nat.zero_add]
   refine zQu hb48 (by rw[hsz];omega) λw9 hw9 nU=>?_
   have pz:Fr (·=w3.heap.size) w8 w9:=by rw[hw9];exact Fr.cell w8 _ 10 _
   rw[yZe f10,hKl]at nU
   have zQ:=pz.blk zP (show ¬w2.heap.size=w3.heap.size by omega)
   refine⟨λu=>u.heap[w2.heap.size]?=some (.cells #[.string f.name,.int .i64 f.kind,.int .i64 f.width,.bool f.null] 129)/\zXB u yJv zYQ m zZd,⟨zQ,hm.fr pz (by omega)⟩,λu hu=>hu,by omega,by omega,?_⟩
   show st1 ((⟨w3.heap.size,0,none⟩:Addr).add 11) _ w9 _
   rw[zQs,Nat.zero_add]
   refine zQu nU (by rw[hsz];omega) λaP wI iA=>?_
   have mO:Fr (·=w3.heap.size) w9 aP:=by rw[wI];exact Fr.cell w9 _ 11 _
   rw[yZl f10,zJ3]at iA
   have py:=mO.blk zQ (show ¬w2.heap.size=w3.heap.size by omega)
   -- behind the last store
   have fin:∀{aU:World},Fr (·=w3.heap.size) aP aU->aU.heap[w3.heap.size]?=some (.cells ((zQJ f).map u8V).toArray 227)->
     ∃kC:SV,∃aQ:World,(Builtin.append_ #[22,22] 22 #[.slice t1.a t1.len t1.cap,.slice (some (if 16=0 then(⟨w3.heap.size,0,none⟩:Addr)else(⟨w3.heap.size,0,none⟩:Addr).add (0 * 1))) (16 - 0) (16 - 0)]).run prog aU=.ok (.slice kC.a kC.len kC.cap) aQ/\J (kC,(IntKind.i64.wrap ((k:Int)+1))) aQ:=λ{aU} mR il=>by
    have hfa:Fr (·=w3.heap.size) w8 aU:=(pz.trans mO λ_ h _=>h).trans mR λ_ h _=>h
    have rC:zQi w0 aU t1 (acc ++ (fs.take k).flatMap zQJ):=(nT.pu bW).fr hfa λb hb e=>by
     have aN:=jg.1.lt b hb
     have e:b=w3.heap.size:=e
     omega
    have vL:Pu w0 aU:=(gg.trans bW).andNew hfa λi hi=>by have hi:i=w3.heap.size:=hi;have:=aq.size;omega
    obtain⟨s',aQ,e12,hr12,eH⟩:=rC.app vL.size (m:=⟨some ⟨w3.heap.size,0,none⟩,16,16⟩) (news:=zQJ f) (zZp f10).symm (λj b hj=>⟨_,rfl,by rw[zQs,zQE il,Nat.zero_add];simp[hj]⟩) (by rw[zZp f10];simp only[List.length_append];omega)
    refine⟨s',aQ,e12,?_⟩
    rw[zQa (by omega) (by omega)]
    refine hJ _ _ aH ⟨by dsimp only;omega,?_,vL.andNew eH λi hi=>rC.2 i hi⟩
    rw[yXM hf,←List.append_assoc];exact hr12
   refine⟨_,cl py 3,Br.of (λd1=>⟨by omega,by omega,?_⟩) (λd1=>⟨by omega,by omega,fin (Fr.refl _ _) ?_⟩)⟩
   ·show st1 ((⟨w3.heap.size,0,none⟩:Addr).add 12) _ aP _
    rw[zQs,Nat.zero_add]
    refine zQu iA (by rw[hsz];omega) λaU hw11 il=>⟨by omega,by omega,fin (by rw[hw11];exact Fr.cell aP _ 12 _) ?_⟩
    rw[yXF f10]at il
    rw[←zV6,d1];exact il
   ·rw[←zV6,d1];exact iA
 ·have aH:k=fs.length:=by have:=zQd d;omega
  subst aH
  rw[List.take_length]at jg hfl
  refine alB λw3 au bo=>?_
  obtain⟨s',w4,e4,hr4,fe⟩:=(jg.pu au).one (aq.trans au).size (b:=13) bo rfl (by simp only[List.length_append];omega)
  exact⟨s',w4,e4,s',rfl,hr4.low hww.size,hww.trans ((aq.trans au).andNew fe λi hi=>jg.2 i hi)⟩
theorem xZR {ww w0 bX:World} (hww:Pu ww w0) {t:Tbl} {f r bV:SV} {r1 du:Nat} (h:zXi w0 t f r) (hvf:zQT t.fields=0) (hrl:t.recs.length<=1000000) (hp:Pu w0 bX) (aA:w0.heap[r1]?=some (.cells #[.int .i64 t.page,.slice f.a f.len f.cap,.slice r.a r.len r.cap] 35)) (mV:w0.heap.size<=du)
  (iA:bX.heap[du]?=some (.cells #[.int .u8 67,.int .u8 (IntKind.u8.wrap t.page)] 5)) (hl:zQi w0 bX bV (zVL t.recs.length 4)) :
  xV1 (λe w'=>∃q:SV,e=.returned (.slice q.a q.len q.cap)/\zQi ww w' q (zJC t)/\Pu ww w') r1 du bV [] bX:=by
 obtain⟨hne0,hall,hnd,hn16,hw⟩:=zXl hvf
 have hfl:=h.fields.len
 rw[zJ3]at iA
 have box:zQi w0 bX ⟨some ⟨du,0,none⟩,2,2⟩ [67,zZ6 t.page]:=zQi.box (l:=[67,zZ6 t.page]) iA mV (by simp)
 obtain⟨e7,df,e22,r15,f22⟩:=box.app hp.size (m:=bV) (news:=zVL t.recs.length 4) hl.len (λj b hj=>hl.cell hj) (by rw[zXm];simp)
 have zR:Pu w0 df:=hp.andNew f22 λi hi=>box.2 i hi
 refine⟨e7,df,e22,f,cl (zR.blk aA) 1,?_⟩
 rw[hfl]
 refine(yZE t.fields.length (by omega) df).mono ?_
 rintro e dU ⟨rfl,nV⟩
 refine⟨_,rfl,(xZD (13+16 * t.fields.length) 2 (by omega) dU).mono ?_⟩
 rintro e dw ⟨cz,rfl,r21,fT⟩
 have vM:=zR.trans (nV.trans fT)
 have zS:=r15.pu (nV.trans fT)
 obtain⟨dv,dH,e25,r22,f25⟩:=zS.app vM.size (m:=cz) (news:=zVL (13+16 * t.fields.length) 2) r21.len (λj b hj=>r21.cell hj) (by simp only[List.length_append,zXm];simp)
 have mM:Pu w0 dH:=vM.andNew f25 λi hi=>zS.2 i hi
 refine⟨cz,rfl,dv,dH,e25,f,cl (mM.blk aA) 1,(zVQ (h.fields.pu mM) (WOk.of hall)).mono ?_⟩
 rintro e fj ⟨rfl,zT⟩
 have hs:=zJp (WOk.of hall)
 have vN:zXG t.fields=((zXG t.fields).toNat:Int):=by unfold zXG at *;omega
 refine⟨_,rfl,?_⟩
 rw[show(Value.int .i64 (zXG t.fields))=.int .i64 (((zXG t.fields).toNat:Nat):Int)by rw[←vN]]
 refine(xZD (zXG t.fields).toNat 2 (by omega) fj).mono ?_
 rintro e iq ⟨cp,rfl,r27,zU⟩
 have vO:=mM.trans (zT.trans zU)
 have zV:=r22.pu (zT.trans zU)
 obtain⟨eu,eg,e28,r28,f28⟩:=zV.app vO.size (m:=cp) (news:=zVL (zXG t.fields).toNat 2) r27.len (λj b hj=>r27.cell hj) (by simp only[List.length_append,zXm];simp)
 have im:Pu w0 eg:=vO.andNew f28 λi hi=>zV.2 i hi
 refine⟨cp,rfl,eu,eg,e28,f,cl (im.blk aA) 1,alB λfm pQ zW=>?_⟩
 rw[zJ3,hfl]at zW
 have vP:=im.trans pQ
 have box2:zQi w0 fm ⟨some ⟨eg.heap.size,0,none⟩,2,2⟩ [zZ6 (t.fields.length:Int),0]:=zQi.box (l:=[zZ6 (t.fields.length:Int),0]) zW im.size (by simp)
 have zX:=r28.pu pQ
 obtain⟨gf,ir,e30,r35,f30⟩:=zX.app vP.size (m:=⟨some ⟨eg.heap.size,0,none⟩,2,2⟩) (news:=[zZ6 (t.fields.length:Int),0]) rfl (λj b hj=>box2.cell hj) (by simp only[List.length_append,zXm];simp)
 have wM:Pu w0 ir:=vP.andNew f30 λi hi=>zX.2 i hi
 refine⟨gf,ir,e30,f,cl (wM.blk aA) 1,?_⟩
 exact yW4 hww wM.size wM h.fields r35 hall hn16 (by simp only[List.length_append,zXm,List.length_cons,List.length_nil];omega)
theorem yKq{w:World}{t:Tbl}{f r:SV}(h:zXi w t f r)(hvf:zQT t.fields=0)(hrl:t.recs.length<=1000000):Calls prog 157 #[zKQ t f r] w λe w'=>∃q:SV,e=.returned (.slice q.a q.len q.cap)/\zQi w w' q (zJC t)/\Pu w w':=by
 refine yWo _ _ _ w _ ?_
 refine alB λw1 ar aA=>zQc λw2 aq hh2=>?_
 have dO:=ar.trans aq
 have aN:=aq.blk aA
 have hrlen:=h.recs.len
 have z1:=dO.size
 have up:∀{bX du bV},Pu w2 bX->w2.heap.size<=du->bX.heap[du]?=some (.cells #[.int .u8 67,.int .u8 (IntKind.u8.wrap t.page)] 5)->zQi w2 bX bV (zVL t.recs.length 4)->
   xV1 (λe w'=>∃q:SV,e=.returned (.slice q.a q.len q.cap)/\zQi w w' q (zJC t)/\Pu w w') w.heap.size du bV [] bX:=λ{bX du bV} q1 q2 q3 q4=>by
  exact xZR dO (h.pu dO) hvf hrl q1 aN q2 q3 q4
 refine⟨λu=>Pu w2 u,Pu.refl _,t.page,λu hu=>cl0 (hu.blk aN),r,λu hu=>cl (hu.blk aN) 2,?_⟩
 rw[hrlen]
 constructor
 ·refine alB λbT iM hb20=>⟨iM,(xZD t.recs.length 4 (by omega) bT).mono ?_⟩
  rintro e bX ⟨bV,rfl,aO,rD⟩
  exact⟨bV,rfl,iM.trans rD,up (iM.trans rD) (Nat.le_refl _) (rD.blk hb20) (aO.low iM.size)⟩
 ·refine(xZD t.recs.length 4 (by omega) w2).mono ?_
  rintro e gu ⟨bV,rfl,aO,nW⟩
  refine⟨bV,rfl,nW,alB λgd wN hb32=>⟨nW.trans wN,up (nW.trans wN) nW.size hb32 (aO.pu wN)⟩⟩
theorem zKU{t:Tbl}(h:zQh t=0):zQV t.page=true/\zQT t.fields=0/\t.recs.length<=300/\zXu t.fields t.page t.recs=0:=by
 unfold zQh at h
 split at h
 ·rename_i hp
  split at h
  ·omega
  ·rename_i hf
   split at h
   ·omega
   ·rename_i hr
    exact⟨hp,by omega,by omega,h⟩
 ·omega
theorem xQw{w:World}{t:Tbl}{f r:SV}(h:zXi w t f r)(hl:Lim.ok t.fields):Calls prog 165 #[zKQ t f r] w λe w'=>∃q:SV,e=.returned (.tuple #[.slice q.a q.len q.cap,.int .i64 (zQh t)])/\zQi w w' q (if zQh t=0 then zJC t else [])/\Pu w w':=by
 refine yKZ _ _ _ w _ ?_
 refine alB λw1 ar aA=>⟨_,cl aA 0,_,cl aA 1,_,cl aA 2,(zZq (h.pu ar) hl).mono ?_⟩
 rintro e w2 ⟨rfl,aq⟩
 have dO:=ar.trans aq
 refine⟨_,rfl,Br.of (λd=>⟨⟨none,0,0⟩,rfl,by rw[if_neg (zQw d)];exact zQi.nil w w2,dO⟩) (λd=>⟨_,cl (aq.blk aA) 0,_,cl (aq.blk aA) 1,_,cl (aq.blk aA) 2,?_⟩)⟩
 have d:=zQq d
 obtain⟨h1,h2,h3,_⟩:=zKU d
 refine(yKq (h.pu dO) h2 (by omega)).mono ?_
 rintro e w3 ⟨q,rfl,hq,au⟩
 exact⟨q,rfl,q,by rw[d],by rw[if_pos d];exact hq.low dO.size,dO.trans au⟩
end Go.Proofs.YtaeecpjhfmcliaaGreatDoor
/- Table: the null flags of a record, as bytes. No condition. -/
namespace Go.Proofs.YtaeecpjhfmcliaaGreatDoor
open Go.Sh Go.RowKit Tryz
def zKg(bs:List Bool)(i j:Nat):Nat:=if bs[8 * i+j]?=some true then 2 ^ j else 0
def zZm(bs:List Bool)(i:Nat):Nat:=zKg bs i 0+zKg bs i 1+zKg bs i 2+zKg bs i 3+zKg bs i 4+zKg bs i 5+zKg bs i 6+zKg bs i 7
def flN(N:Nat)(bs:List Bool):List UInt8:=(List.range N).map λi=>UInt8.ofNat (zZm bs i)
theorem zVd(N:Nat)(bs:List Bool):(flN N bs).length=N:=by simp[flN]
theorem xYB(N:Nat):flN N []=List.replicate N 0:=by
 unfold flN
 apply List.ext_getElem?
 intro i
 simp only[List.getElem?_map,List.getElem?_replicate]
 by_cases h:i<N
 ·rw[List.getElem?_range h,if_pos h];rfl
 ·rw[if_neg h,List.getElem?_eq_none (by simp;omega)];rfl
theorem yQb(bs:List Bool)(k:Nat):((bs ++ [false])[k]?=some true) ↔ (bs[k]?=some true):=by
 rcases Nat.lt_trichotomy k bs.length with h|h|h
 ·rw[List.getElem?_append_left h]
 ·subst h;simp
 ·rw[List.getElem?_eq_none (by simp;omega),List.getElem?_eq_none (by omega)]
theorem zJQ(bs:List Bool)(k:Nat):((bs ++ [true])[k]?=some true) ↔ (bs[k]?=some true∨k=bs.length):=by
 rcases Nat.lt_trichotomy k bs.length with h|h|h
 ·rw[List.getElem?_append_left h];constructor
  ·exact .inl
  ·rintro(h1|h1)
   ·exact h1
   ·omega
 ·subst h;simp
 ·rw[List.getElem?_eq_none (by simp;omega),List.getElem?_eq_none (by omega)];simp;omega
theorem xQj(N:Nat)(bs:List Bool):flN N (bs ++ [false])=flN N bs:=by
 unfold flN zZm zKg
 simp only[yQb]
theorem zXV{bs:List Bool}{q r:Nat}(hm:bs.length=8 * q+r)(hr:r<8)(i j:Nat)(hj:j<8):zKg (bs ++ [true]) i j=zKg bs i j+(if i=q/\j=r then 2 ^ j else 0):=by
 unfold zKg
 by_cases h:8 * i+j=bs.length
 ·have h1:i=q/\j=r:=by omega
  have h2:¬bs[8 * i+j]?=some true:=by rw[List.getElem?_eq_none (by omega)];simp
  rw[if_pos ((zJQ _ _).2 (.inr h)),if_neg h2,if_pos h1];omega
 ·have h1:¬(i=q/\j=r):=by omega
  rw[if_neg h1,Nat.add_zero]
  by_cases h2:bs[8 * i+j]?=some true
  ·rw[if_pos ((zJQ _ _).2 (.inl h2)),if_pos h2]
  ·rw[if_neg (λh3=>((zJQ _ _).1 h3).elim h2 h),if_neg h2]
theorem yJj{bs:List Bool}{q r:Nat}(hm:bs.length=8 * q+r)(hr:r<8)(i:Nat):zZm (bs ++ [true]) i=zZm bs i+(if i=q then 2 ^ r else 0):=by
 unfold zZm
 rw[zXV hm hr i 0 (by omega),zXV hm hr i 1 (by omega),zXV hm hr i 2 (by omega),zXV hm hr i 3 (by omega),zXV hm hr i 4 (by omega),zXV hm hr i 5 (by omega),zXV hm hr i 6 (by omega),zXV hm hr i 7 (by omega)]
 by_cases h:i=q
 ·simp only[h,true_and,if_true]
  rcases(by omega:r=0∨r=1∨r=2∨r=3∨r=4∨r=5∨r=6∨r=7)with rfl|rfl|rfl|rfl|rfl|rfl|rfl|rfl <;> simp <;> omega
 ·simp[h]
theorem zJL(bs:List Bool)(i j:Nat):zKg bs i j<=2 ^ j:=by
 unfold zKg;split
 ·exact Nat.le_refl _
 ·exact Nat.zero_le _
theorem yVi{bs:List Bool}{q r j:Nat}(hm:bs.length=8 * q+r)(hj:r<=j):zKg bs q j=0:=by
 unfold zKg;rw[if_neg];rw[List.getElem?_eq_none (by omega)];simp
theorem xXJ{bs:List Bool}{q r:Nat}(hm:bs.length=8 * q+r)(hr:r<8):zZm bs q<2 ^ r:=by
 have z:∀j,r<=j->zKg bs q j=0:=λj hj=>yVi hm hj
 have l0:=zJL bs q 0
 have l1:=zJL bs q 1
 have l2:=zJL bs q 2
 have l3:=zJL bs q 3
 have l4:=zJL bs q 4
 have l5:=zJL bs q 5
 have l6:=zJL bs q 6
 unfold zZm
 rcases(by omega:r=0∨r=1∨r=2∨r=3∨r=4∨r=5∨r=6∨r=7)with rfl|rfl|rfl|rfl|rfl|rfl|rfl|rfl
 ·rw[z 0 (by omega),z 1 (by omega),z 2 (by omega),z 3 (by omega),z 4 (by omega),z 5 (by omega),z 6 (by omega),z 7 (by omega)];omega
 ·rw[z 1 (by omega),z 2 (by omega),z 3 (by omega),z 4 (by omega),z 5 (by omega),z 6 (by omega),z 7 (by omega)];omega
 ·rw[z 2 (by omega),z 3 (by omega),z 4 (by omega),z 5 (by omega),z 6 (by omega),z 7 (by omega)];omega
 ·rw[z 3 (by omega),z 4 (by omega),z 5 (by omega),z 6 (by omega),z 7 (by omega)];omega
 ·rw[z 4 (by omega),z 5 (by omega),z 6 (by omega),z 7 (by omega)];omega
 ·rw[z 5 (by omega),z 6 (by omega),z 7 (by omega)];omega
 ·rw[z 6 (by omega),z 7 (by omega)];omega
 ·rw[z 7 (by omega)];omega
theorem xJe{N:Nat}{bs:List Bool}{q r:Nat}(hm:bs.length=8 * q+r)(hr:r<8)(hq:q<N):flN N (bs ++ [true])=(flN N bs).set q (UInt8.ofNat (zZm bs q+2 ^ r)):=by
 apply List.ext_getElem?
 intro i
 rw[List.getElem?_set]
 unfold flN
 simp only[List.length_map,List.length_range,List.getElem?_map]
 by_cases hi:i<N
 ·rw[List.getElem?_range hi]
  simp only[Option.map_some,yJj hm hr]
  by_cases h:q=i
  ·subst h;rw[if_pos rfl,if_pos rfl,if_pos hi]
  ·rw[if_neg (λe=>h e.symm),if_neg h,Nat.add_zero]
 ·rw[List.getElem?_eq_none (by simp;omega)]
  by_cases h:q=i
  ·omega
  ·rw[if_neg h];rfl
theorem xWG{N:Nat}{bs:List Bool}{q:Nat}(hq:q<N):(flN N bs)[q]?=some (UInt8.ofNat (zZm bs q)):=by
 unfold flN;rw[List.getElem?_map,List.getElem?_range hq];rfl
theorem or_bit:∀r:Nat,r<8->∀x:Nat,x<2 ^ r->(BitVec.ofInt 8 (x:Int) ||| BitVec.ofInt 8 (IntKind.u8.wrap ((1:Int) * 2 ^ (min r 8)))).toNat=x+2 ^ r:=by decide +kernel
def zXs:List Fld->List Val->List Bool
 | [],_=>[]
 | _,[]=>[]
 | f :: fs,v :: vs=>if f.null then decide (v.kind=0) :: zXs fs vs else zXs fs vs
theorem yQx:∀{l:List Fld} {vs:List Val} {k:Nat} {f:Fld} {v:Val},l[k]?=some f->vs[k]?=some v->zXs (l.take (k+1)) (vs.take (k+1))=zXs (l.take k) (vs.take k) ++ (if f.null then [decide (v.kind=0)]else [])
 | [],_,_,_,_,h,_=>by simp at h
 | _ :: _,[],_,_,_,_,h=>by simp at h
 | a :: l,b :: vs,0,f,v,h,h2=>by
  simp at h h2;subst h h2
  simp only[List.take_succ_cons,List.take_zero,zXs]
  split <;> simp
 | a :: l,b :: vs,k+1,f,v,h,h2=>by
  have ih:=yQx (l:=l) (vs:=vs) (k:=k) (f:=f) (v:=v) (by simpa using h) (by simpa using h2)
  simp only[List.take_succ_cons,zXs]
  by_cases hn:a.null=true
  ·rw[if_pos hn,if_pos hn];rw[ih];rfl
  ·rw[if_neg hn,if_neg hn];exact ih
theorem zW8:∀(l:List Fld) (vs:List Val),(zXs l vs).length<=(l.filter (·.null)).length
 | [],_=>by simp[zXs]
 | _ :: _,[]=>by simp[zXs]
 | f :: l,v :: vs=>by
  have:=zW8 l vs
  unfold zXs
  rw[List.filter_cons]
  by_cases hn:f.null=true
  ·rw[if_pos hn,if_pos hn];simp only[List.length_cons];omega
  ·rw[if_neg hn,if_neg hn];exact this
end Go.Proofs.YtaeecpjhfmcliaaGreatDoor
