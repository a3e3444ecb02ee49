import Derived.Test.YtaeecpjhfmcliaaGreatDoorLgOwA
import Derived.Test.YtaeecpjhfmcliaaGreatDoorLgPrA
import Derived.Test.YtaeecpjhfmcliaaGreatDoorShSixteen
import Derived.Lib.BufferWrite
import Derived.Lib.AppendStr
/- Table: what a value becomes in a field, the reference. No condition. -/
set_option maxRecDepth 100000
set_option linter.unusedVariables false
set_option linter.unusedSimpArgs false
namespace Go.Proofs.YtaeecpjhfmcliaaGreatDoor
open Go.Sh Go.RowKit Tryz
theorem yZT(l:List UInt8)(s:ByteArray):bs l=s ↔ l=s.data.toList:=by
 constructor
 ·intro h;rw[←h]
 ·intro h;rw[h]
theorem xZN(n:Int)(w:World):Calls prog 133 #[.int .i64 n] w λe w'=>e=.returned (.bool (zVT n))/\Pu w w':=by
 refine yWB _ w _ (Br.of (λd=>?_) (λd=>?_))
 ·exact⟨by rw[zVT,decide_eq_true (show 0<=n from zQk d)];rfl,Pu.refl w⟩
 ·exact⟨by rw[zVT,decide_eq_false (show ¬0<=n from zQe d)];rfl,Pu.refl w⟩
theorem xQ7(f:Fld)(p:Int)(v:Val)(w:World):Calls prog 93 #[yQn f,.int .i64 p,zJ7 v] w λe w'=>e=.returned (.bool (zQQ f p v))/\Pu w w':=by
 refine xXj _ _ _ _ _ _ _ _ w _ ?_
 refine alB λw1 aq aB=>alB λw2 ar aM=>?_
 have aG:=aq.trans ar
 have b1:∀{wz},Pu w2 wz->wz.heap[w.heap.size]?=some (.cells #[.string f.name,.int .i64 f.kind,.int .i64 f.width,.bool f.null] 129):=λh=>h.blk (ar.blk aB)
 have b2:∀{wz},Pu w2 wz->wz.heap[w1.heap.size]?=some (.cells #[.int .i64 v.kind,.int .i64 v.n,.string v.s] 73):=λh=>h.blk aM
 have q0:=b2 (Pu.refl w2)
 refine⟨_,cl q0 0,_,cl q0 1,_,cl q0 2,(yKG v w2).mono ?_⟩
 rintro e w3 ⟨rfl,ax⟩
 have aX:=aG.trans ax
 have out:∀{wz:World} {b:Bool},Pu w wz->zQQ f p v=b->(Ending.returned (Value.bool b)=Ending.returned (Value.bool (zQQ f p v))/\Pu w wz):=λh1 h2=>⟨by rw[h2],h1⟩
 refine⟨_,rfl,Br.of (λd=>out aX (by unfold zQQ;rw[if_pos (zQ3 d)])) (λd=>?_)⟩
 have hv:=zQs d
 have nr:¬zXk v ≠ 0:=by omega
 obtain⟨hvs,hvn,hv4⟩:=zKS hv
 refine⟨_,cl0 (b2 ax),Br.of (λd0=>⟨_,cl (b1 ax) 3,out aX (by unfold zQQ;rw[if_neg nr,if_pos (zQH d0)])⟩) (λd0=>⟨_,cl (b1 ax) 1,Br.of (λd1=>?_) (λd1=>?_)⟩)⟩
 ·refine⟨_,cl0 (b2 ax),Br.of (λd2=>⟨_,cl (b2 ax) 1,(xZN v.n w3).mono ?_⟩) (λd2=>out aX ?_)⟩
  ·rintro e w4 ⟨rfl,aK⟩
   exact⟨_,rfl,out (aX.trans aK) (by unfold zQQ;rw[if_neg nr,if_neg (zQm d0),if_pos (zQH d1),decide_eq_true (zQH d2)];rfl)⟩
  ·unfold zQQ;rw[if_neg nr,if_neg (zQm d0),if_pos (zQH d1),decide_eq_false (zQm d2)];rfl
 have e0:zQQ f p v=if v.kind ≠ f.kind then false else if f.kind=2 then decide (((zJs v.n).length:Int)<=f.width)else if f.kind=4 then decide ((v.s.size:Int)<=f.width) && decide (zZ4 v.s.data.toList=v.s.data.toList) && zXO v.s.data.toList p else true:=by
  unfold zQQ;rw[if_neg nr,if_neg (zQm d0),if_neg (zQm d1)]
 refine⟨_,cl0 (b2 ax),_,cl (b1 ax) 1,Br.of (λd2=>out aX (by rw[e0,if_pos (zQ3 d2)])) (λd2=>⟨_,cl (b1 ax) 1,Br.of (λd3=>?_) (λd3=>⟨_,cl (b1 ax) 1,Br.of (λd4=>?_) (λd4=>out aX ?_)⟩)⟩)⟩
 ·have d2:=zQs d2
  have d3:=zQH d3
  have hn:zZV v.n:=by rw[d2,d3]at hvn;simp[okN]at hvn;exact⟨by omega,by omega⟩
  refine zQb λw4 aK _=>⟨λu=>Pu w4 u,Pu.refl _,v.n,λu hu=>cl (b2 ((ax.trans aK).trans hu)) 1,f.width,λu hu=>cl (b1 ((ax.trans aK).trans hu)) 2,(yY3 hn w4).mono ?_⟩
  rintro e w5 ⟨rfl,aT⟩
  refine⟨_,rfl,aT,out ((aX.trans aK).trans aT) ?_⟩
  rw[e0,if_neg (by rw[d2];simp),if_pos d3,zQB]
 ·have d2:=zQs d2
  have d3:=zQm d3
  have d4:=zQH d4
  have e1:zQQ f p v=(decide ((v.s.size:Int)<=f.width) && decide (zZ4 v.s.data.toList=v.s.data.toList) && zXO v.s.data.toList p):=by
   rw[e0,if_neg (by rw[d2];simp),if_neg d3,if_pos d4]
  refine zQb λw4 aK _=>⟨λu=>Pu w4 u,Pu.refl _,v.s,λu hu=>cl (b2 ((ax.trans aK).trans hu)) 2,f.width,λu hu=>cl (b1 ((ax.trans aK).trans hu)) 2,Br.of (λd5=>?_) (λd5=>out (aX.trans aK) ?_)⟩
  ·refine⟨v.s,λu hu=>cl (b2 ((ax.trans aK).trans hu)) 2,v.s,λu hu=>cl (b2 ((ax.trans aK).trans hu)) 2,(xXO v.s (by omega) w4).mono ?_⟩
   rintro e w5 ⟨rfl,aT⟩
   refine⟨_,rfl,aT,?_⟩
   rw[zX9]
   have hbe:(bs (zZ4 v.s.data.toList)=v.s) ↔ zZ4 v.s.data.toList=v.s.data.toList:=yZT _ _
   refine Br.of (λd6=>⟨v.s,λu hu=>cl (b2 ((ax.trans aK).trans hu)) 2,(yQN v.s (by omega) p w5).mono ?_⟩) (λd6=>out ((aX.trans aK).trans aT) ?_)
   ·rintro e w6 ⟨rfl,bn⟩
    refine⟨_,rfl,out (((aX.trans aK).trans aT).trans bn) ?_⟩
    rw[e1,decide_eq_true (zQk d5),decide_eq_true (hbe.1 (zQk d6))];rfl
   ·rw[e1,decide_eq_false (λh=>zQe d6 (hbe.2 h))];simp
  ·rw[e1,decide_eq_false (zQe d5)];rfl
 ·rw[e0,if_neg (by rw[zQs d2];simp),if_neg (zQm d3),if_neg (zQm d4)]
theorem xXn(f:Fld)(p:Int)(v:Val)(hfB:zQp f=true)(hvs:v.s.size<=140737488355328)(w:World):Calls prog 139 #[yQn f,.int .i64 p,zJ7 v] w λe w'=>
  e=.returned (.tuple #[zJ7 (zQR f p v).1,.int .i64 (zQR f p v).2])/\Pu w w':=by
 refine yW3 _ _ _ _ _ _ _ _ w _ ?_
 refine alB λw1 aq aB=>alB λw2 ar aM=>alB λw3 ax bp=>?_
 have z1:w1.heap.size<=w2.heap.size:=ar.size
 have z0:w.heap.size<=w1.heap.size:=aq.size
 have aX:Pu w w3:=(aq.trans ar).trans ax
 have out:∀{wz:World} (v':Val) (k:Int) {c:Array Value},Pu w wz->wz.heap[w2.heap.size]?=some (.cells c 73)->c.size=3->zQR f p v=(v',k)->
   stA prog 73 (⟨w2.heap.size,0,none⟩:Addr) #[.int .i64 v'.kind,.int .i64 v'.n,.string v'.s] wz λw'=>∃n0:Int,w'.cell? ((⟨w2.heap.size,0,none⟩:Addr).add 0)=some (.int .i64 n0)/\∃n1:Int,w'.cell? ((⟨w2.heap.size,0,none⟩:Addr).add 1)=some (.int .i64 n1)/\
    ∃s2:ByteArray,w'.cell? ((⟨w2.heap.size,0,none⟩:Addr).add 2)=some (.string s2)/\(Ending.returned (.tuple #[.agg #[.int .i64 n0,.int .i64 n1,.string s2],.int .i64 k])=.returned (.tuple #[zJ7 (zQR f p v).1,.int .i64 (zQR f p v).2])/\Pu w w'):=λ{wz} v' k {c} h1 h2 h3 h4=>
  retV (R:=λe w'=>e=.returned (.tuple #[zJ7 (zQR f p v).1,.int .i64 (zQR f p v).2])/\Pu w w') v' k h2 h3 λw' hf=>⟨by rw[h4],h1.andNew hf λi hi=>by have hi:i=w2.heap.size:=hi;omega⟩
 have b1:∀{wz},Pu w3 wz->wz.heap[w.heap.size]?=some (.cells #[.string f.name,.int .i64 f.kind,.int .i64 f.width,.bool f.null] 129):=λh=>h.blk (ax.blk (ar.blk aB))
 have b2:∀{wz},Pu w3 wz->wz.heap[w1.heap.size]?=some (.cells #[.int .i64 v.kind,.int .i64 v.n,.string v.s] 73):=λh=>h.blk (ax.blk aM)
 have b3:∀{wz},Pu w3 wz->wz.heap[w2.heap.size]?=some (.cells #[.int .i64 0,.int .i64 0,.string ⟨#[]⟩] 73):=λh=>h.blk bp
 have q1:=b1 (Pu.refl w3)
 have q2:=b2 (Pu.refl w3)
 have q3:=b3 (Pu.refl w3)
 refine⟨_,cl0 q2,Br.of (λd0=>⟨_,cl q1 3,Br.of (λd1=>out noV 7 aX q3 rfl ?_) (λd1=>⟨_,cl q2 0,_,cl q2 1,_,cl q2 2,out v 0 aX q3 rfl ?_⟩)⟩) (λd0=>⟨_,cl q1 1,?_⟩)⟩
 ·unfold zQR;rw[if_pos (zQH d0),show f.null=false by simpa using d1];rfl
 ·unfold zQR;rw[if_pos (zQH d0),show f.null=true by simpa using d1];rfl
 have d0:=zQm d0
 -- behind the question for the kind
 have rest:v.kind=(zXo f).kind->∀(m:Int),f.kind=m->
   Br (m == 4) (∃rx:ByteArray,w3.cell? ((⟨w1.heap.size,0,none⟩:Addr).add 2)=some (.string rx)/\∃ud:ByteArray,w3.cell? ((⟨w1.heap.size,0,none⟩:Addr).add 2)=some (.string ud)/\∃j3:Int,w3.cell? ((⟨w.heap.size,0,none⟩:Addr).add 2)=some (.int .i64 j3)/\
    ∃iw:Int,∃aN:World,(Builtin.min_ #[3,3] 3 #[.int .i64 ((ud.size:Nat):Int),.int .i64 j3]).run prog w3=.ok (.int .i64 iw) aN/\0<=iw/\iw.toNat<=rx.size/\0<=iw.toNat/\
    Calls prog 135 #[.string (rx.extract 0 iw.toNat)] aN λe aV=>∃rz:ByteArray,e=.returned (.string rz)/\Calls prog 136 #[.string rz,.int .i64 p] aV λe aO=>∃rm:Bool,e=.returned (.bool rm)/\
    Br (!rm) (stA prog 73 (⟨w2.heap.size,0,none⟩:Addr) #[.int .i64 0,.int .i64 0,.string (⟨#[]⟩:ByteArray)] aO λaI=>∃ag:Int,aI.cell? ((⟨w2.heap.size,0,none⟩:Addr).add 0)=some (.int .i64 ag)/\∃aj:Int,aI.cell? ((⟨w2.heap.size,0,none⟩:Addr).add 1)=some (.int .i64 aj)/\∃ak:ByteArray,aI.cell? ((⟨w2.heap.size,0,none⟩:Addr).add 2)=some (.string ak)/\
      (Ending.returned (.tuple #[.agg #[.int .i64 ag,.int .i64 aj,.string ak],.int .i64 10])=.returned (.tuple #[zJ7 (zQR f p v).1,.int .i64 (zQR f p v).2])/\Pu w aI)) (
     Calls prog 177 #[.string rz] aO λe br=>∃gg:Int,∃gh:Int,∃gi:ByteArray,e=.returned (.agg #[.int .i64 gg,.int .i64 gh,.string gi])/\
     stA prog 73 (⟨w2.heap.size,0,none⟩:Addr) #[.int .i64 gg,.int .i64 gh,.string gi] br λbI=>∃ag:Int,bI.cell? ((⟨w2.heap.size,0,none⟩:Addr).add 0)=some (.int .i64 ag)/\∃aj:Int,bI.cell? ((⟨w2.heap.size,0,none⟩:Addr).add 1)=some (.int .i64 aj)/\∃ak:ByteArray,bI.cell? ((⟨w2.heap.size,0,none⟩:Addr).add 2)=some (.string ak)/\
      (Ending.returned (.tuple #[.agg #[.int .i64 ag,.int .i64 aj,.string ak],.int .i64 0])=.returned (.tuple #[zJ7 (zQR f p v).1,.int .i64 (zQR f p v).2])/\Pu w bI))) (
    ∃jF:ByteArray,w3.cell? ((⟨w.heap.size,0,none⟩:Addr).add 0)=some (.string jF)/\∃cF:Int,w3.cell? ((⟨w.heap.size,0,none⟩:Addr).add 1)=some (.int .i64 cF)/\∃jG:Int,w3.cell? ((⟨w.heap.size,0,none⟩:Addr).add 2)=some (.int .i64 jG)/\∃jH:Bool,w3.cell? ((⟨w.heap.size,0,none⟩:Addr).add 3)=some (.bool jH)/\
    ∃gy:Int,w3.cell? ((⟨w1.heap.size,0,none⟩:Addr).add 0)=some (.int .i64 gy)/\∃jI:Int,w3.cell? ((⟨w1.heap.size,0,none⟩:Addr).add 1)=some (.int .i64 jI)/\∃jJ:ByteArray,w3.cell? ((⟨w1.heap.size,0,none⟩:Addr).add 2)=some (.string jJ)/\
    Calls prog 93 #[.agg #[.string jF,.int .i64 cF,.int .i64 jG,.bool jH],.int .i64 p,.agg #[.int .i64 gy,.int .i64 jI,.string jJ]] w3 λe bR=>∃ue:Bool,e=.returned (.bool ue)/\
    Br (!ue) (stA prog 73 (⟨w2.heap.size,0,none⟩:Addr) #[.int .i64 0,.int .i64 0,.string (⟨#[]⟩:ByteArray)] bR λaI=>∃ag:Int,aI.cell? ((⟨w2.heap.size,0,none⟩:Addr).add 0)=some (.int .i64 ag)/\∃aj:Int,aI.cell? ((⟨w2.heap.size,0,none⟩:Addr).add 1)=some (.int .i64 aj)/\∃ak:ByteArray,aI.cell? ((⟨w2.heap.size,0,none⟩:Addr).add 2)=some (.string ak)/\
      (Ending.returned (.tuple #[.agg #[.int .i64 ag,.int .i64 aj,.string ak],.int .i64 10])=.returned (.tuple #[zJ7 (zQR f p v).1,.int .i64 (zQR f p v).2])/\Pu w aI)) (
     ∃eO:Int,bR.cell? ((⟨w1.heap.size,0,none⟩:Addr).add 0)=some (.int .i64 eO)/\∃eQ:Int,bR.cell? ((⟨w1.heap.size,0,none⟩:Addr).add 1)=some (.int .i64 eQ)/\∃jK:ByteArray,bR.cell? ((⟨w1.heap.size,0,none⟩:Addr).add 2)=some (.string jK)/\
     stA prog 73 (⟨w2.heap.size,0,none⟩:Addr) #[.int .i64 eO,.int .i64 eQ,.string jK] bR λbI=>∃ag:Int,bI.cell? ((⟨w2.heap.size,0,none⟩:Addr).add 0)=some (.int .i64 ag)/\∃aj:Int,bI.cell? ((⟨w2.heap.size,0,none⟩:Addr).add 1)=some (.int .i64 aj)/\∃ak:ByteArray,bI.cell? ((⟨w2.heap.size,0,none⟩:Addr).add 2)=some (.string ak)/\
      (Ending.returned (.tuple #[.agg #[.int .i64 ag,.int .i64 aj,.string ak],.int .i64 0])=.returned (.tuple #[zJ7 (zQR f p v).1,.int .i64 (zQR f p v).2])/\Pu w bI))):=by
  rintro hk m rfl
  have hF:zQR f p v=if f.kind=4 then(if zXO (zZ4 (v.s.data.toList.take f.width.toNat)) p then(⟨4,0,bs (zZ4 (v.s.data.toList.take f.width.toNat))⟩,0)else(noV,10))else if zQQ f p v then(v,0)else(noV,10):=by
   unfold zQR;rw[if_neg d0,if_neg (by rw[hk];simp)]
  refine Br.of (λd2=>?_) (λd2=>?_)
  ·have d2:=zQH d2
   obtain⟨wl,wh⟩:=zYa hfB d2
   rw[if_pos d2]at hF
   refine⟨_,cl q2 2,_,cl q2 2,_,cl q1 2,_,w3,yXp _ _ _ _ _ _,by omega,by omega,by omega,(xXO _ (by have:=zQA v.s 0 (min (v.s.size:Int) f.width).toNat;have:=zQ4 (v.s.extract 0 (min (v.s.size:Int) f.width).toNat);simp at *;omega) w3).mono ?_⟩
   rintro e w9 ⟨rfl,cG⟩
   have et:(v.s.extract 0 (min (v.s.size:Int) f.width).toNat).data.toList=v.s.data.toList.take f.width.toNat:=by
    rw[zQA,List.drop_zero];exact yKv _ _ _ (by simp) (by omega)
   rw[et]
   have hbl:(bs (zZ4 (v.s.data.toList.take f.width.toNat))).size<=140737488355328:=by
    rw[zQB];have:=yXz (v.s.data.toList.take f.width.toNat);have:=List.length_take_le' f.width.toNat v.s.data.toList;rw[zQ4]at this;omega
   generalize hg:zZ4 (v.s.data.toList.take f.width.toNat)=B at *
   refine⟨_,rfl,(yQN _ hbl p w9).mono ?_⟩
   rintro e aN ⟨rfl,dM⟩
   rw[zQP]
   have j2:=cG.trans dM
   refine⟨_,rfl,Br.of (λd3=>out noV 10 (aX.trans j2) (b3 j2) rfl ?_) (λd3=>(kQe (bs B) aN).mono ?_)⟩
   ·rw[hF,show zXO B p=false by simpa using d3];rfl
   ·rintro e aV ⟨rfl,fg⟩
    refine⟨_,_,_,rfl,out ⟨4,0,bs B⟩ 0 (aX.trans (j2.trans fg)) (b3 (j2.trans fg)) rfl ?_⟩
    rw[hF,show zXO B p=true by simpa using d3];rfl
  ·have d2:=zQm d2
   rw[if_neg d2]at hF
   refine⟨_,cl q1 0,_,cl q1 1,_,cl q1 2,_,cl q1 3,_,cl q2 0,_,cl q2 1,_,cl q2 2,(xQ7 f p v w3).mono ?_⟩
   rintro e w9 ⟨rfl,cG⟩
   refine⟨_,rfl,Br.of (λd3=>out noV 10 (aX.trans cG) (b3 cG) rfl ?_) (λd3=>⟨_,cl (b2 cG) 0,_,cl (b2 cG) 1,_,cl (b2 cG) 2,out v 0 (aX.trans cG) (b3 cG) rfl ?_⟩)⟩
   ·rw[hF,show zQQ f p v=false by simpa using d3];rfl
   ·rw[hF,show zQQ f p v=true by simpa using d3];rfl
 have six:v.kind ≠ (zXo f).kind->zQR f p v=(noV,6):=λh=>by unfold zQR;rw[if_neg d0,if_pos h]
 refine Br.of (λd1=>⟨_,cl0 q2,Br.of (λd2=>out noV 6 aX q3 rfl (six ?_)) (λd2=>⟨_,cl q1 1,rest ?_ _ rfl⟩)⟩) (λd1=>⟨_,cl0 q2,Br.of (λd2=>out noV 6 aX q3 rfl (six ?_)) (λd2=>⟨_,cl q1 1,rest ?_ _ rfl⟩)⟩)
 ·unfold zXo;rw[if_pos (zQH d1)];exact zQ3 d2
 ·unfold zXo;rw[if_pos (zQH d1)];exact zQs d2
 ·unfold zXo;rw[if_neg (zQm d1)];exact zQ3 d2
 ·unfold zXo;rw[if_neg (zQm d1)];exact zQs d2
theorem xYd(f:Fld)(p:Int)(v:Val)(w:World):Calls prog 104 #[yQn f,.int .i64 p,zJ7 v] w λe w'=>
  e=.returned (.tuple #[zJ7 (zZS f p v).1,.int .i64 (zZS f p v).2])/\Pu w w':=by
 refine yVB _ _ _ _ _ _ _ _ w _ ?_
 refine alB λw1 aq aB=>alB λw2 ar aM=>alB λw3 ax bp=>?_
 have z1:w1.heap.size<=w2.heap.size:=ar.size
 have z0:w.heap.size<=w1.heap.size:=aq.size
 have aX:Pu w w3:=(aq.trans ar).trans ax
 have out:∀{wz:World} (v':Val) (k:Int) {c:Array Value},Pu w wz->wz.heap[w2.heap.size]?=some (.cells c 73)->c.size=3->zZS f p v=(v',k)->
   stA prog 73 (⟨w2.heap.size,0,none⟩:Addr) #[.int .i64 v'.kind,.int .i64 v'.n,.string v'.s] wz λw'=>∃n0:Int,w'.cell? ((⟨w2.heap.size,0,none⟩:Addr).add 0)=some (.int .i64 n0)/\∃n1:Int,w'.cell? ((⟨w2.heap.size,0,none⟩:Addr).add 1)=some (.int .i64 n1)/\
    ∃s2:ByteArray,w'.cell? ((⟨w2.heap.size,0,none⟩:Addr).add 2)=some (.string s2)/\(Ending.returned (.tuple #[.agg #[.int .i64 n0,.int .i64 n1,.string s2],.int .i64 k])=.returned (.tuple #[zJ7 (zZS f p v).1,.int .i64 (zZS f p v).2])/\Pu w w'):=λ{wz} v' k {c} h1 h2 h3 h4=>
  retV (R:=λe w'=>e=.returned (.tuple #[zJ7 (zZS f p v).1,.int .i64 (zZS f p v).2])/\Pu w w') v' k h2 h3 λw' hf=>⟨by rw[h4],h1.andNew hf λi hi=>by have hi:i=w2.heap.size:=hi;omega⟩
 have b1:∀{wz},Pu w3 wz->wz.heap[w.heap.size]?=some (.cells #[.string f.name,.int .i64 f.kind,.int .i64 f.width,.bool f.null] 129):=λh=>h.blk (ax.blk (ar.blk aB))
 have b2:∀{wz},Pu w3 wz->wz.heap[w1.heap.size]?=some (.cells #[.int .i64 v.kind,.int .i64 v.n,.string v.s] 73):=λh=>h.blk (ax.blk aM)
 have b3:∀{wz},Pu w3 wz->wz.heap[w2.heap.size]?=some (.cells #[.int .i64 0,.int .i64 0,.string ⟨#[]⟩] 73):=λh=>h.blk bp
 have q0:=b1 (Pu.refl w3)
 refine⟨_,cl q0 0,_,cl q0 1,_,cl q0 2,_,cl q0 3,(yQ7 f w3).mono ?_⟩
 rintro e w4 ⟨rfl,aK⟩
 refine⟨_,rfl,Br.of (λd=>out noV 1 (aX.trans aK) (b3 aK) rfl (zJF (by simp at d;simp[d]))) (λd=>(yZP p w4).mono ?_)⟩
 have hfB:zQp f=true:=by simpa using d
 rintro e w5 ⟨rfl,aT⟩
 have bQ:=aK.trans aT
 refine⟨_,rfl,Br.of (λd=>out noV 1 (aX.trans bQ) (b3 bQ) rfl (zJF (by simp at d;simp[d]))) (λd=>?_)⟩
 have hpB:zQY p=true:=by simpa using d
 have hB:(zQp f && zQY p)=true:=by rw[hfB,hpB];rfl
 refine⟨_,cl (b2 bQ) 0,_,cl (b2 bQ) 1,_,cl (b2 bQ) 2,(yKG v w5).mono ?_⟩
 rintro e w6 ⟨rfl,bn⟩
 have cx:=bQ.trans bn
 refine⟨_,rfl,Br.of (λd=>out noV (zXk v) (aX.trans cx) (b3 cx) rfl (zKF hB (zQ3 d))) (λd=>?_)⟩
 have hv:=zQs d
 refine⟨_,cl (b1 cx) 0,_,cl (b1 cx) 1,_,cl (b1 cx) 2,_,cl (b1 cx) 3,_,cl (b2 cx) 0,_,cl (b2 cx) 1,_,cl (b2 cx) 2,(xXn f p v hfB (by have:=(zKS hv).1;omega) w6).mono ?_⟩
 rintro e w7 ⟨rfl,ck⟩
 exact⟨_,_,_,_,rfl,out _ _ (aX.trans (cx.trans ck)) (b3 (cx.trans ck)) rfl (zJT hB hv)⟩
end Go.Proofs.YtaeecpjhfmcliaaGreatDoor
/- Table: rows of fields: which are right, and how wide they are. No condition. -/
namespace Go.Proofs.YtaeecpjhfmcliaaGreatDoor
open Go.Sh Go.RowKit Tryz
theorem zKP{α:Type}[DecidableEq α]{l:List α}{x:α}:(l ++ [x]).Nodup ↔ l.Nodup/\x ∉ l:=by
 rw[List.nodup_append]
 constructor
 ·rintro⟨h1,_,h3⟩;exact⟨h1,λhx=>h3 x hx x (by simp) rfl⟩
 ·rintro⟨h1,h2⟩;exact⟨h1,by simp,λa ha b hb e=>by simp at hb;subst hb;subst e;exact h2 ha⟩
theorem zYd(l:List Fld):(zXr l:Int)<=l.length+1:=by
 unfold zXr
 have:=List.length_filter_le (·.null) l
 omega
theorem yVL {l:List Fld} {k:Nat} {f:Fld} (h:l[k]?=some f):((l.take (k+1)).filter (·.null)).length=((l.take k).filter (·.null)).length+(if f.null then 1 else 0):=by
 rw[zQE h,List.filter_append,List.length_append]
 cases hx:f.null <;> simp[hx]
theorem zW1 {l:List Fld} {k:Nat} {f:Fld} (h:l[k]?=some f):((l.take (k+1)).filter (·.null)).length=if f.null then((l.take k).filter (·.null)).length+1 else((l.take k).filter (·.null)).length:=by
 rw[yVL h];cases f.null <;> rfl
theorem zWm{w:World}{s:SV}{l:List Fld}(h:zX7 w s l):Calls prog 203 #[.slice s.a s.len s.cap] w λe w'=>e=.returned (.int .i64 (zXr l:Nat))/\Pu w w':=by
 refine yV1 _ w _ ?_
 have hlen:=h.len
 have hlim:=h.lim
 refine zQx l.length (λk t w'=>t.2=(k:Int)/\t.1=(((l.take k).filter (·.null)).length:Nat)/\Pu w w') ⟨rfl,rfl,Pu.refl _⟩ ?_
 rintro k J ⟨t1,t2⟩ w2 hk ⟨xA,sw,hp⟩ hJ
 obtain rfl:t2=(k:Int):=xA
 obtain rfl:t1=(((l.take k).filter (·.null)).length:Nat):=sw
 have hle:=List.length_filter_le (·.null) (l.take k)
 have xB:=List.length_take_le k l
 dsimp only
 refine Br.of (λd=>?_) (λd=>?_)
 ·have aH:k<l.length:=by have:=zQk d;omega
  obtain⟨f,hf⟩:=zQL aH
  obtain⟨a,ha,hi,_,_,_,c0,c1,c2,c3⟩:=zJk (h.pu hp) hf
  refine⟨a,ha,by omega,by omega,_,c0,_,c1,_,c2,_,c3,yQv rfl s23.symm rfl λw4 aK sP du=>⟨_,cl du 3,?_⟩⟩
  have e:=zW1 hf
  rw[zQa (n:=(k:Int)+1) (by omega) (by omega)]
  refine Br.of (λd1=>hJ _ _ aH ⟨by dsimp only;omega,?_,hp.trans aK⟩) (λd1=>hJ _ _ aH ⟨by dsimp only;omega,?_,hp.trans aK⟩)
  ·rw[if_pos d1]at e;dsimp only;rw[e,zQa (by omega) (by omega)];omega
  ·rw[if_neg (by rw[d1];simp)]at e;dsimp only;rw[e]
 ·have aH:k=l.length:=by have:=zQe d;omega
  subst aH
  rw[List.take_length]at *
  refine⟨rfl,by omega,?_,hp⟩
  rw[zQa (n:=((l.filter (·.null)).length:Int)+7) (by omega) (by omega),Int.tdiv_eq_ediv_of_nonneg (by omega),zQa (by omega) (by omega)]
  unfold zXr;congr 2
theorem xJ2{w:World}{s:SV}{l:List Fld}(h:zX7 w s l):Calls prog 131 #[.slice s.a s.len s.cap] w λe w'=>e=.returned (.int .i64 (zXr l:Nat))/\Pu w w':=by
 refine yWu _ w _ ?_
 have hlen:=h.len
 have hlim:=h.lim
 refine zQx l.length (λk t w'=>t.2=(k:Int)/\t.1=(((l.take k).filter (·.null)).length:Nat)/\Pu w w') ⟨rfl,rfl,Pu.refl _⟩ ?_
 rintro k J ⟨t1,t2⟩ w2 hk ⟨xA,sw,hp⟩ hJ
 obtain rfl:t2=(k:Int):=xA
 obtain rfl:t1=(((l.take k).filter (·.null)).length:Nat):=sw
 have hle:=List.length_filter_le (·.null) (l.take k)
 have xB:=List.length_take_le k l
 dsimp only
 refine Br.of (λd=>?_) (λd=>?_)
 ·have aH:k<l.length:=by have:=zQk d;omega
  obtain⟨f,hf⟩:=zQL aH
  obtain⟨a,ha,hi,_,_,_,c0,c1,c2,c3⟩:=zJk (h.pu hp) hf
  refine⟨a,ha,by omega,by omega,_,c3,?_⟩
  have e:=zW1 hf
  rw[zQa (n:=(k:Int)+1) (by omega) (by omega)]
  refine Br.of (λd1=>hJ _ _ aH ⟨by dsimp only;omega,?_,hp⟩) (λd1=>hJ _ _ aH ⟨by dsimp only;omega,?_,hp⟩)
  ·rw[if_pos d1]at e;dsimp only;rw[e,zQa (by omega) (by omega)];omega
  ·rw[if_neg (by rw[d1];simp)]at e;dsimp only;rw[e]
 ·have aH:k=l.length:=by have:=zQe d;omega
  subst aH
  rw[List.take_length]at *
  refine⟨rfl,by omega,?_,hp⟩
  rw[zQa (n:=((l.filter (·.null)).length:Int)+7) (by omega) (by omega),Int.tdiv_eq_ediv_of_nonneg (by omega),zQa (by omega) (by omega)]
  unfold zXr;congr 2
def WOk(l:List Fld):Prop:=∀f ∈ l,0<=f.width/\f.width<=254
theorem zXs{f:Fld}(h:zQp f=true):1<=f.width/\f.width<=254:=by
 unfold zQp zWJ at h
 simp only[Bool.and_eq_true]at h
 have h:=h.2
 split at h
 ·simp at h;omega
 ·split at h
  ·simp at h;omega
  ·split at h
   ·simp at h;omega
   ·split at h
    ·simp at h;omega
    ·split at h
     ·simp at h;omega
     ·simp at h
theorem WOk.of{l:List Fld}(h:l.all zQp=true):WOk l:=λf hf=>by have:=zXs (List.all_eq_true.1 h f hf);omega
theorem zWW {l:List Fld} {k:Nat} {f:Fld} (h:l[k]?=some f):((l.take (k+1)).map (·.width)).sum=((l.take k).map (·.width)).sum+f.width:=by
 rw[zQE h,List.map_append,List.sum_append];simp
theorem zJt{l:List Fld}(h:WOk l):0<=(l.map (·.width)).sum/\(l.map (·.width)).sum<=254 * l.length:=by
 induction l with
 | nil=>simp
 | cons f l ih=>
  have h1:=h f (by simp)
  have h2:=ih λg hg=>h g (by simp[hg])
  simp only[List.map_cons,List.sum_cons,List.length_cons];omega
theorem WOk.take{l:List Fld}(h:WOk l)(k:Nat):WOk (l.take k):=λf hf=>h f (List.mem_of_mem_take hf)
theorem zYh{w:World}{s:SV}{l:List Fld}(h:zX7 w s l)(hw:WOk l):Calls prog 161 #[.slice s.a s.len s.cap] w λe w'=>e=.returned (.int .i64 (zXM l))/\Pu w w':=by
 refine yVP _ w _ ((zWm h).mono ?_)
 rintro e w1 ⟨rfl,aq⟩
 have hlen:=h.len
 have hlim:=h.lim
 have hn:=zYd l
 refine⟨_,rfl,?_⟩
 rw[zQa (by omega) (by omega)]
 refine zQx l.length (λk t w'=>t.2=(k:Int)/\t.1=1+((zXr l:Nat):Int)+((l.take k).map (·.width)).sum/\Pu w w') ⟨rfl,by simp,aq⟩ ?_
 rintro k J ⟨t1,t2⟩ w2 hk ⟨xA,sw,hp⟩ hJ
 obtain rfl:t2=(k:Int):=xA
 obtain rfl:t1=1+((zXr l:Nat):Int)+((l.take k).map (·.width)).sum:=sw
 have hs:=zJt (hw.take k)
 have xB:=List.length_take_le k l
 dsimp only
 refine Br.of (λd=>?_) (λd=>?_)
 ·have aH:k<l.length:=by have:=zQk d;omega
  obtain⟨f,hf⟩:=zQL aH
  have hwf:=hw f (List.mem_of_getElem? hf)
  obtain⟨a,ha,hi,_,_,_,c0,c1,c2,c3⟩:=zJk (h.pu hp) hf
  refine⟨a,ha,by omega,by omega,_,c0,_,c1,_,c2,_,c3,yQv rfl s23.symm rfl λw4 aK sP du=>⟨_,cl du 2,?_⟩⟩
  rw[zQa (n:=(k:Int)+1) (by omega) (by omega),zQa (by omega) (by omega)]
  refine hJ _ _ aH ⟨by dsimp only;omega,?_,hp.trans aK⟩
  dsimp only;rw[zWW hf];omega
 ·have aH:k=l.length:=by have:=zQe d;omega
  subst aH
  rw[List.take_length]
  exact⟨rfl,hp⟩
theorem xYu{w:World}{s:SV}{l:List Fld}(h:zX7 w s l)(hw:WOk l):Calls prog 92 #[.slice s.a s.len s.cap] w λe w'=>e=.returned (.int .i64 (zXM l))/\Pu w w':=by
 refine xZg _ w _ ((xJ2 h).mono ?_)
 rintro e w1 ⟨rfl,aq⟩
 have hlen:=h.len
 have hlim:=h.lim
 have hn:=zYd l
 refine⟨_,rfl,?_⟩
 rw[zQa (by omega) (by omega)]
 refine zQx l.length (λk t w'=>t.2=(k:Int)/\t.1=1+((zXr l:Nat):Int)+((l.take k).map (·.width)).sum/\Pu w w') ⟨rfl,by simp,aq⟩ ?_
 rintro k J ⟨t1,t2⟩ w2 hk ⟨xA,sw,hp⟩ hJ
 obtain rfl:t2=(k:Int):=xA
 obtain rfl:t1=1+((zXr l:Nat):Int)+((l.take k).map (·.width)).sum:=sw
 have hs:=zJt (hw.take k)
 have xB:=List.length_take_le k l
 dsimp only
 refine Br.of (λd=>?_) (λd=>?_)
 ·have aH:k<l.length:=by have:=zQk d;omega
  obtain⟨f,hf⟩:=zQL aH
  have hwf:=hw f (List.mem_of_getElem? hf)
  obtain⟨a,ha,hi,_,_,_,c0,c1,c2,c3⟩:=zJk (h.pu hp) hf
  refine⟨a,ha,by omega,by omega,_,c2,?_⟩
  rw[zQa (n:=(k:Int)+1) (by omega) (by omega),zQa (by omega) (by omega)]
  refine hJ _ _ aH ⟨by dsimp only;omega,?_,hp⟩
  dsimp only;rw[zWW hf];omega
 ·have aH:k=l.length:=by have:=zQe d;omega
  subst aH
  rw[List.take_length]
  exact⟨rfl,hp⟩
def yKF(l:List Fld)(g:Nat)(cap:Array Value)(p:Fld->Bool)(w0:World):Prop:=zQ6 prog g=true/\∀f ∈ l,∀w,Pu w0 w->Calls prog g (#[yQn f] ++ cap) w λe w'=>e=.returned (.bool (p f))/\Pu w w'
theorem zVL {p:Fld->Bool} {l:List Fld} {k:Nat} (h:∀f ∈ l.take k,p f=false) {f:Fld} (hf:l[k]?=some f) (hp:p f=true):l.findIdx? p=some k:=by
 have hk:k<l.length:=(List.getElem?_eq_some_iff.1 hf).1
 rw[List.findIdx?_eq_some_iff_getElem]
 refine⟨hk,?_,λj hj=>?_⟩
 ·rw[List.getElem?_eq_getElem hk]at hf;rw[Option.some.inj hf];exact hp
 ·have:=h l[j] (by rw[List.mem_take_iff_getElem];exact⟨j,by omega,rfl⟩)
  simpa using this
theorem zYI{w:World}{s:SV}{l:List Fld}(h:zX7 w s l){g:Nat}{cap:Array Value}{p:Fld->Bool}(hg:yKF l g cap p w):Calls prog 113 #[.slice s.a s.len s.cap,.func (.func g) #[] cap] w
  λe w'=>e=.returned (.int .i64 (match l.findIdx? p with|some k=>(k:Int)|none=>-1))/\Pu w w':=by
 refine yWL _ _ w _ ?_
 have hlen:=h.len
 have hlim:=h.lim
 refine zQx l.length (λk t w'=>t=(k:Int)/\(∀f ∈ l.take k,p f=false)/\Pu w w') ⟨rfl,by simp,Pu.refl _⟩ ?_
 rintro k J t w2 hk ⟨ht,hno,hp⟩ hJ
 obtain rfl:t=(k:Int):=ht
 refine Br.of (λd=>?_) (λd=>?_)
 ·have aH:k<l.length:=by have:=zQk d;omega
  obtain⟨f,hf⟩:=zQL aH
  obtain⟨a,ha,hi,_,_,_,c0,c1,c2,c3⟩:=zJk (h.pu hp) hf
  refine⟨a,ha,by omega,by omega,_,c0,_,c1,_,c2,_,c3,hg.1,?_⟩
  have e1:((#[]:Array Value).toList ++ (([yQn f]:List Value) ++ cap.toList)).toArray=#[yQn f] ++ cap:=by
   apply Array.ext';simp
  rw[e1]
  refine(hg.2 f (List.mem_of_getElem? hf) w2 hp).mono ?_
  rintro e w3 ⟨rfl,ax⟩
  refine⟨_,rfl,Br.of (λd1=>⟨by rw[zVL hno hf d1],hp.trans ax⟩) (λd1=>?_)⟩
  rw[zQa (by omega) (by omega)]
  refine hJ _ _ aH ⟨by omega,λf' hf'=>?_,hp.trans ax⟩
  rw[zQE hf,List.mem_append,List.mem_singleton]at hf'
  rcases hf' with hf'|rfl
  ·exact hno f' hf'
  ·exact d1
 ·have aH:k=l.length:=by have:=zQe d;omega
  subst aH
  rw[List.take_length]at hno
  have:l.findIdx? p=none:=by rw[List.findIdx?_eq_none_iff];exact λx hx=>by rw[hno x hx]
  exact⟨by rw[this],hp⟩
theorem yQq{w:World}{s:SV}{l:List Fld}(h:zX7 w s l){g:Nat}{cap:Array Value}{p:Fld->Bool}(hg:yKF l g cap p w):Calls prog 178 #[.slice s.a s.len s.cap,.func (.func g) #[] cap] w
  λe w'=>e=.returned (.bool (l.any p))/\Pu w w':=by
 refine yVv _ _ w _ ((zYI h hg).mono ?_)
 rintro e w2 ⟨rfl,hp⟩
 refine⟨_,rfl,?_,hp⟩
 cases hx:l.findIdx? p with
 | none=>
  rw[List.findIdx?_eq_none_iff]at hx
  have:l.any p=false:=by rw[List.any_eq_false];exact λx hx'=>by rw[hx x hx'];simp
  rw[this];rfl
 | some k=>
  rw[List.findIdx?_eq_some_iff_getElem]at hx
  obtain⟨h1,h2,_⟩:=hx
  have:l.any p=true:=List.any_eq_true.2 ⟨_,List.getElem_mem h1,h2⟩
  rw[this]
  dsimp only
  rw[decide_eq_true (by omega)]
theorem yVE(f:Fld)(hs:f.name.size<=140737488355328)(w:World):Calls prog 179 #[yQn f] w λe w'=>e=.returned (.bool (!zQp f))/\Pu w w':=by
 refine yWM _ _ _ _ w _ (alB λw1 aq aB=>⟨_,cl aB 0,_,cl aB 1,_,cl aB 2,_,cl aB 3,(yZr f hs w1).mono ?_⟩)
 rintro e w2 ⟨rfl,ar⟩
 exact⟨_,rfl,rfl,aq.trans ar⟩
theorem u88:prog.underlying 206=some (.map 9 4):=by kernel_rfl
abbrev strK(s:ByteArray):Value:=.string s
abbrev xYg(b:Bool):Value:=.bool b
theorem keysS:yK5 prog 9 strK:=xJw (by kernel_rfl)
theorem z4(w:World):(zeroValue 4).run prog w=.ok (.bool false) w:=Tryz.zeroValue4 w
def yXL(l:List Fld):List (ByteArray × Bool):=l.map λf=>(f.name,true)
theorem yXe(l:List Fld):(yXL l).map Prod.fst=l.map (·.name):=by simp[yXL]
noncomputable instance memDec (x : ByteArray) (l : List ByteArray) : Decidable (x ∈ l) := Classical.propDecidable _
theorem xXx(l:List Fld)(x:ByteArray):(AL.get (yXL l) x).elim (.bool false) xYg=.bool (decide (x ∈ l.map (·.name))):=by
 by_cases h:x ∈ l.map (·.name)
 ·rw[decide_eq_true h]
  cases hg:AL.get (yXL l) x with
  | none=>rw[AL.get_none,yXe]at hg;exact absurd h hg
  | some v=>
   have:=AL.get_mem hg
   simp only[yXL,List.mem_map]at this
   obtain⟨f,_,he⟩:=this
   cases he;rfl
 ·rw[decide_eq_false h,(AL.get_none).2 (by rw[yXe];exact h)];rfl
theorem zVI:zQW []=1:=by unfold zQW;rw[if_pos (.inl rfl)]
theorem yQX{l:List Fld}(h:l.all zQp=false):zQW l=1:=by unfold zQW;rw[if_pos (.inr h)]
theorem yQ9 {l:List Fld} (h0:l ≠ []) (h:l.all zQp=true) (h2:¬(l.map (·.name)).Nodup):zQW l=5:=by unfold zQW;rw[if_neg (by simp[h0,h]),if_pos h2]
theorem yQR {l:List Fld} (h0:l ≠ []) (h:l.all zQp=true) (h2:(l.map (·.name)).Nodup):zQW l=if 16<l.length∨2000<zXM l then 3 else 0:=by unfold zQW;rw[if_neg (by simp[h0,h]),if_neg (by simp[h2])]
theorem zJA {l:List Fld} {k:Nat} {f:Fld} (h:l[k]?=some f):(l.take (k+1)).map (·.name)=(l.take k).map (·.name) ++ [f.name]:=by
 rw[zQE h,List.map_append];rfl
theorem zVb {l:List Fld} {k:Nat} (h:¬((l.take k).map (·.name)).Nodup):¬(l.map (·.name)).Nodup:=λhn=>h (by
 rw[List.map_take];exact hn.sublist (List.take_sublist _ _))
theorem zZO{w:World}{s:SV}{l:List Fld}(h:zX7 w s l)(hl:Lim.ok l):Calls prog 141 #[.slice s.a s.len s.cap] w λe w'=>e=.returned (.int .i64 (zQW l))/\Pu w w':=by
 refine yWj _ w _ ?_
 have hlen:=h.len
 have hlim:=h.lim
 have nm:∀f ∈ l,f.name.size<=140737488355328:=λf hf=>hl f hf
 refine Br.of (λd=>?_) (λd=>?_)
 ·have:l=[]:=List.length_eq_zero_iff.1 (by have:=zQH d;omega)
  subst this;exact⟨by rw[zVI],Pu.refl _⟩
 have h0:l ≠ []:=λe=>by subst e;exact zQm d (by rw[hlen];rfl)
 have tells:yKF l 179 #[] (λf=>!zQp f) w:=⟨by kernel_rfl,λf hf w2 _=>yVE f (nm f hf) w2⟩
 refine(yQq h tells).mono ?_
 rintro e w1 ⟨rfl,aq⟩
 have hany:l.any (λf=>!zQp f)=!l.all zQp:=by rw[List.all_eq_not_any_not];simp
 refine⟨_,rfl,?_⟩
 rw[hany]
 refine Br.of (λd1=>⟨by rw[yQX (by simpa using d1)],aq⟩) (λd1=>?_)
 have hall:l.all zQp=true:=by simpa using d1
 refine zYw λw2 nu=>?_
 have ar:Pu w1 w2:=by rw[nu];exact Pu.alloc w1 _
 have yo:zXG w2 strK xYg w1.heap.size ([]:List (ByteArray × Bool)):=by rw[nu];exact zXG.new w1 _ _
 have z1:=aq.size
 refine zQx l.length (λk t w'=>t=(k:Int)/\zXG w' strK xYg w1.heap.size (yXL (l.take k))/\((l.take k).map (·.name)).Nodup/\Pu w w') ⟨rfl,yo,by simp,aq.trans ar⟩ ?_
 rintro k J t w3 hk ⟨ht,hm,hnd,hp⟩ hJ
 obtain rfl:t=(k:Int):=ht
 refine Br.of (λd2=>?_) (λd2=>?_)
 ·have aH:k<l.length:=by have:=zQk d2;omega
  obtain⟨f,hf⟩:=zQL aH
  obtain⟨a,ha,hi,_,_,_,c0,c1,c2,c3⟩:=zJk (h.pu hp) hf
  refine⟨a,ha,by omega,by omega,_,c0,_,c1,_,c2,_,c3,yQv rfl s23.symm rfl λw4 aK sP du=>⟨_,cl0 du,decide (f.name ∈ (l.take k).map (·.name)),w4,?_,?_⟩⟩
  ·have:=(hm.pu aK).look keysS u88 (z4 w4) f.name false
   rw[xXx]at this;exact this
  refine Br.of (λd3=>⟨?_,hp.trans aK⟩) (λd3=>⟨_,cl0 du,?_⟩)
  ·rw[yQ9 h0 hall (zVb (k:=k+1) (by rw[zJA hf,zKP];exact λh=>h.2 (zQk d3)))]
  ·obtain⟨w5,e5,h5,f5,_⟩:=(hm.pu aK).upd keysS u88 f.name true
   refine⟨w5,e5,?_⟩
   rw[zQa (by omega) (by omega)]
   have hput:AL.put (yXL (l.take k)) f.name true=yXL (l.take (k+1)):=by
    rw[AL.put_new ((AL.get_none).2 (by rw[yXe];exact zQe d3))]
    simp only[yXL]
    rw[zQE hf,List.map_append];rfl
   rw[hput]at h5
   refine hJ _ _ aH ⟨by omega,h5,by rw[zJA hf,zKP];exact⟨hnd,zQe d3⟩,(hp.trans aK).andNew f5 λi hi=>by have hi:i=w1.heap.size:=hi;omega⟩
 ·have aH:k=l.length:=by have:=zQe d2;omega
  subst aH
  rw[List.take_length]at hnd
  have he:=yQR h0 hall hnd
  refine Br.of (λd3=>⟨by rw[he,if_pos (.inl (by have:=zQk d3;omega))],hp⟩) (λd3=>(zYh (h.pu hp) (WOk.of hall)).mono ?_)
  rintro e w4 ⟨rfl,aK⟩
  refine⟨_,rfl,Br.of (λd4=>⟨by rw[he,if_pos (.inr (zQk d4))],hp.trans aK⟩) (λd4=>⟨by rw[he,if_neg (by have:=zQe d4;have:=zQe d3;omega)],hp.trans aK⟩)⟩
theorem yQo{w:World}{s:SV}{l:List Fld}(h:zX7 w s l):Calls prog 53 #[.slice s.a s.len s.cap] w λe w'=>e=.returned (.int .i64 (zQW l))/\Pu w w':=by
 refine xQZ _ w _ ?_
 have hlen:=h.len
 have hlim:=h.lim
 refine Br.of (λd=>?_) (λd=>?_)
 ·have:l=[]:=List.length_eq_zero_iff.1 (by have:=zQH d;omega)
  subst this;exact⟨by rw[zVI],Pu.refl _⟩
 have h0:l ≠ []:=λe=>by subst e;exact zQm d (by rw[hlen];rfl)
 refine zQx l.length (λk t w'=>t=(k:Int)/\(l.take k).all zQp=true/\Pu w w') ⟨rfl,rfl,Pu.refl _⟩ ?_
 rintro k J t w2 hk ⟨ht,hal,hp⟩ hJ
 obtain rfl:t=(k:Int):=ht
 refine Br.of (λd1=>?_) (λd1=>?_)
 ·have aH:k<l.length:=by have:=zQk d1;omega
  obtain⟨f,hf⟩:=zQL aH
  obtain⟨a,ha,hi,_,_,_,c0,c1,c2,c3⟩:=zJk (h.pu hp) hf
  refine⟨a,ha,by omega,by omega,_,c0,_,c1,_,c2,_,c3,(yQ7 f w2).mono ?_⟩
  rintro e w3 ⟨rfl,ax⟩
  refine⟨_,rfl,Br.of (λd2=>⟨?_,hp.trans ax⟩) (λd2=>?_)⟩
  ·rw[yQX (by rw[List.all_eq_false];exact⟨f,List.mem_of_getElem? hf,by simpa using d2⟩)]
  ·rw[zQa (by omega) (by omega)]
   exact hJ _ _ aH ⟨by omega,by rw[zJR _ hf,hal,show zQp f=true by simpa using d2];rfl,hp.trans ax⟩
 have aH:k=l.length:=by have:=zQe d1;omega
 subst aH
 rw[List.take_length]at hal
 clear hJ J d1
 refine zQx l.length (λk t w'=>t=(k:Int)/\((l.take k).map (·.name)).Nodup/\Pu w w') ⟨rfl,by simp,hp⟩ ?_
 rintro k J t w3 hk ⟨ht,hnd,hp⟩ hJ
 obtain rfl:t=(k:Int):=ht
 refine Br.of (λd1=>?_) (λd1=>?_)
 ·have aH:k<l.length:=by have:=zQk d1;omega
  obtain⟨f,hf⟩:=zQL aH
  refine zQx k (λj t w'=>t=(j:Int)/\f.name ∉ (l.take j).map (·.name)/\Pu w w') ⟨rfl,by simp,hp⟩ ?_
  rintro j J2 t w4 hj ⟨ht,hno,aK⟩ hJ2
  obtain rfl:t=(j:Int):=ht
  refine Br.of (λd2=>?_) (λd2=>?_)
  ·have ki:j<k:=by have:=zQk d2;omega
   obtain⟨g,hg⟩:=zQL (show j<l.length by omega)
   refine zQb λw5 aT _=>?_
   obtain⟨a,ha,hi,_,_,c,c0,c1,c2,c3⟩:=zJk (h.pu (aK.trans aT)) hf
   obtain⟨a',ha',hi',_,_,c',c0',pj,c2',c3'⟩:=zJk (h.pu (aK.trans aT)) hg
   refine⟨a,ha,by omega,by omega,_,c,a',ha',by omega,by omega,_,c',?_⟩
   rw[zX9]
   refine Br.of (λd3=>⟨?_,aK.trans aT⟩) (λd3=>?_)
   ·rw[yQ9 h0 hal (zVb (k:=k+1) (by
     rw[zJA hf,zKP]
     refine λh=>h.2 ?_
     rw[zQk d3]
     exact List.mem_map.2 ⟨g,by rw[List.mem_take_iff_getElem];exact⟨j,by omega,by rw[List.getElem?_eq_getElem (by omega)]at hg;exact Option.some.inj hg⟩,rfl⟩))]
   ·rw[zQa (by omega) (by omega)]
    refine hJ2 _ _ ki ⟨by omega,?_,aK.trans aT⟩
    rw[zJA hg,List.mem_append,List.mem_singleton]
    exact λh=>h.elim hno (zQe d3)
  ·have ki:j=k:=by have:=zQe d2;omega
   subst ki
   show J (IntKind.i64.wrap ((j:Int)+1)) w4
   rw[zQa (by omega) (by omega)]
   exact hJ _ _ aH ⟨by omega,by rw[zJA hf,zKP];exact⟨hnd,hno⟩,aK⟩
 ·have aH:k=l.length:=by have:=zQe d1;omega
  subst aH
  rw[List.take_length]at hnd
  have he:=yQR h0 hal hnd
  refine Br.of (λd3=>⟨by rw[he,if_pos (.inl (by have:=zQk d3;omega))],hp⟩) (λd3=>(xYu (h.pu hp) (WOk.of hal)).mono ?_)
  rintro e w4 ⟨rfl,aK⟩
  refine⟨_,rfl,Br.of (λd4=>⟨by rw[he,if_pos (.inr (zQk d4))],hp.trans aK⟩) (λd4=>⟨by rw[he,if_neg (by have:=zQe d4;have:=zQe d3;omega)],hp.trans aK⟩)⟩
end Go.Proofs.YtaeecpjhfmcliaaGreatDoor
/- Table: which tables are right. No condition. -/
namespace Go.Proofs.YtaeecpjhfmcliaaGreatDoor
open Go.Sh Go.RowKit Tryz
theorem xJg:yX1 prog 73 [some .i64,some .i64,none]=true:=by kernel_rfl
theorem xQc:prog.eqGuardType prog.depth 73=false:=by kernel_rfl
theorem yK2{a b:Val}(h:zV6 a=zV6 b):a=b:=by
 obtain⟨a1,a2,a3⟩:=a;obtain⟨b1,b2,b3⟩:=b
 simp[zV6]at h;simp[h]
theorem eqVal(x y:Operand)(a b:Val)(w:World):(eqS .eql 73 x y (zJ7 a) (zJ7 b)).run prog w=.ok (.bool (decide (a=b))) w:=by
 refine eqS_row (ks:=[some .i64,some .i64,none]) (xs:=zV6 a) (ys:=zV6 b) xJg xQc rfl rfl ?_ w
 rw[decide_eq_true_iff]
 exact⟨λh=>by rw[h],yK2⟩
theorem xZE {l:List UInt8} {w:Nat} (h:zZ4 (l.take w)=l):l.length<=w/\zZ4 l=l:=by
 have h1:=yXz (l.take w)
 rw[h]at h1
 have h2:=List.length_take_le w l
 have h3:l.length<=w:=by omega
 rw[List.take_of_length_le h3]at h
 exact⟨h3,h⟩
theorem fitted_holds{f:Fld}{p:Int}{v:Val}(hf:zQp f=true)(hv:zXk v=0)(hk:v.kind ≠ 0):(decide ((zQR f p v).2=0) && decide ((zQR f p v).1=v))=zQQ f p v:=by
 have nr:¬zXk v ≠ 0:=by omega
 obtain⟨hvs,hvn,hv4⟩:=zKS hv
 unfold zQR
 rw[if_neg hk]
 by_cases h1:v.kind ≠ (zXo f).kind
 ·rw[if_pos h1]
  have:zQQ f p v=false:=by
   unfold zQQ;rw[if_neg nr,if_neg hk]
   by_cases h5:f.kind=5
   ·have:v.kind ≠ 2:=by unfold zXo at h1;rw[if_pos h5]at h1;exact h1
    rw[if_pos h5,decide_eq_false this];rfl
   ·have:v.kind ≠ f.kind:=by unfold zXo at h1;rw[if_neg h5]at h1;exact h1
    rw[if_neg h5,if_pos this]
  rw[this];simp
 rw[if_neg h1]
 by_cases h4:f.kind=4
 ·rw[if_pos h4]
  have hkv:v.kind=4:=by
   have:v.kind=(zXo f).kind:=by simpa using h1
   rw[this];unfold zXo;rw[if_neg (by omega)];exact h4
  have qn:v.n=0:=by rw[hkv]at hvn;simpa[okN] using hvn
  have hfit:zQQ f p v=(decide ((v.s.size:Int)<=f.width) && decide (zZ4 v.s.data.toList=v.s.data.toList) && zXO v.s.data.toList p):=by
   unfold zQQ;rw[if_neg nr,if_neg hk,if_neg (by omega),if_neg (by rw[hkv,h4];simp),if_neg (by omega),if_pos h4]
  obtain⟨wl,wh⟩:=zYa hf h4
  have key:(zZ4 (v.s.data.toList.take f.width.toNat)=v.s.data.toList) ↔ ((v.s.size:Int)<=f.width/\zZ4 v.s.data.toList=v.s.data.toList):=by
   constructor
   ·intro h;have h2:=xZE h;rw[zQ4]at h2;exact⟨by omega,h2.2⟩
   ·rintro⟨h2,h3⟩;rw[List.take_of_length_le (by rw[zQ4];omega)];exact h3
  have eqv:(⟨4,0,bs (zZ4 (v.s.data.toList.take f.width.toNat))⟩:Val)=v ↔ zZ4 (v.s.data.toList.take f.width.toNat)=v.s.data.toList:=by
   rw[←yZT]
   obtain⟨k,n,s⟩:=v
   simp only at hkv qn
   subst hkv qn
   simp
  have xC:(decide ((v.s.size:Int)<=f.width) && decide (zZ4 v.s.data.toList=v.s.data.toList))=decide (zZ4 (v.s.data.toList.take f.width.toNat)=v.s.data.toList):=by rw[←Bool.decide_and];exact zZG key.symm
  rw[hfit,xC]
  by_cases hb:zZ4 (v.s.data.toList.take f.width.toNat)=v.s.data.toList
  ·rw[decide_eq_true hb,hb]
   cases ht:zXO v.s.data.toList p
   ·simp
   ·rw[if_pos rfl]
    have h9:=eqv.2 hb
    rw[hb]at h9
    simp[h9]
  ·rw[decide_eq_false hb]
   cases ht:zXO (zZ4 (v.s.data.toList.take f.width.toNat)) p
   ·simp
   ·rw[if_pos rfl]
    have h9:¬(⟨4,0,bs (zZ4 (v.s.data.toList.take f.width.toNat))⟩:Val)=v:=λh=>hb (eqv.1 h)
    simp[h9]
 ·rw[if_neg h4]
  cases hfit:zQQ f p v
  ·simp
  ·simp
theorem xYW(f:Fld)(p:Int)(v:Val)(hs:f.name.size<=140737488355328)(hf:zQp f=true)(hpg:zQY p=true)(w:World):Calls prog 142 #[yQn f,.int .i64 p,zJ7 v] w λe w'=>e=.returned (.bool (zQQ f p v))/\Pu w w':=by
 refine yW9 _ _ _ _ _ _ _ _ w _ ?_
 refine alB λw1 aq aB=>alB λw2 ar aM=>?_
 have aG:=aq.trans ar
 have b1:∀{wz},Pu w2 wz->wz.heap[w.heap.size]?=some (.cells #[.string f.name,.int .i64 f.kind,.int .i64 f.width,.bool f.null] 129):=λh=>h.blk (ar.blk aB)
 have b2:∀{wz},Pu w2 wz->wz.heap[w1.heap.size]?=some (.cells #[.int .i64 v.kind,.int .i64 v.n,.string v.s] 73):=λh=>h.blk aM
 have q1:=b1 (Pu.refl w2)
 have q2:=b2 (Pu.refl w2)
 have out:∀{wz:World} {b:Bool},Pu w wz->zQQ f p v=b->(Ending.returned (Value.bool b)=Ending.returned (Value.bool (zQQ f p v))/\Pu w wz):=λh1 h2=>⟨by rw[h2],h1⟩
 have bad:zXk v ≠ 0->zQQ f p v=false:=λh=>by unfold zQQ;rw[if_pos h]
 refine⟨_,cl0 q2,Br.of (λd=>⟨_,cl q1 3,?_⟩) (λd=>⟨_,cl q2 0,_,cl q2 1,_,cl q2 2,(xXz v w2).mono ?_⟩)⟩
 ·have d:=zQH d
  have key:(f.null && decide (v=noV))=zQQ f p v:=by
   by_cases h:zXk v ≠ 0
   ·rw[bad h]
    have:¬v=noV:=λe=>h (by rw[e];rfl)
    rw[decide_eq_false this];simp
   ·have h:zXk v=0:=by simpa using h
    obtain⟨_,h2,h3⟩:=zKS h
    have hn:v.n=0:=by rw[d]at h2;simpa[okN] using h2
    have hz:v.s.size=0:=h3.resolve_left (by omega)
    have:v=noV:=by
     obtain⟨k,n,s⟩:=v
     simp only at d hn hz
     subst d hn
     have:s=⟨#[]⟩:=zQU (by
      have:s.data.toList.length=0:=by rw[zQ4];exact hz
      rw[List.length_eq_zero_iff]at this;rw[this])
     subst this;rfl
    rw[decide_eq_true this]
    unfold zQQ;rw[if_neg (by omega),if_pos d];simp
  refine Br.of (λd1=>⟨_,cl q2 0,_,cl q2 1,_,cl q2 2,_,w2,eqVal _ _ v noV w2,out aG ?_⟩) (λd1=>out aG ?_)
  ·rw[←key,d1];rfl
  ·rw[←key,d1];rfl
 rintro e w3 ⟨rfl,ax⟩
 have aX:=aG.trans ax
 refine⟨_,rfl,Br.of (λd1=>out aX (bad (zQ3 d1))) (λd1=>⟨_,cl (b1 ax) 0,_,cl (b1 ax) 1,_,cl (b1 ax) 2,_,cl (b1 ax) 3,_,cl (b2 ax) 0,_,cl (b2 ax) 1,_,cl (b2 ax) 2,(fit_c f p v hs w3).mono ?_⟩)⟩
 have hv:=zQs d1
 have hF:=zJT (f:=f) (p:=p) (v:=v) (by rw[hf,hpg];rfl) hv
 have key:=fitted_holds (f:=f) (p:=p) hf hv (zQm d)
 rintro e w4 ⟨rfl,aK⟩
 rw[hF]
 refine⟨_,_,_,_,rfl,yQv rfl s25.symm rfl λw5 aT kK bq=>?_⟩
 have bQ:=(ax.trans aK).trans aT
 have cM:=aG.trans bQ
 refine Br.of (λd2=>⟨_,cl bq 0,_,cl bq 1,_,cl bq 2,_,cl (b2 bQ) 0,_,cl (b2 bQ) 1,_,cl (b2 bQ) 2,_,w5,eqVal _ _ (zQR f p v).1 v w5,out cM ?_⟩) (λd2=>out cM ?_)
 ·rw[←key,decide_eq_true (zQH d2)];rfl
 ·rw[←key,decide_eq_false (zQm d2)];rfl
theorem xQj {l:List Fld} {vs:List Val} {i:Nat} {f:Fld} {v:Val} (h:l[i]?=some f) (h2:vs[i]?=some v):(l.zip vs)[i]?=some (f,v):=by
 rw[List.getElem?_zip_eq_some];exact⟨h,h2⟩
def zKo(l:List Fld)(p:Int)(vs:List Val):Bool:=(l.zip vs).all (λx=>zQQ x.1 p x.2)
theorem zVm{l:List Fld}{p:Int}{r:Rec}(h:r.v.length ≠ l.length):zQ1 l p r=10:=by unfold zQ1;rw[if_pos h]
theorem zJ3{l:List Fld}{p:Int}{r:Rec}(h:r.v.length=l.length):zQ1 l p r=if zKo l p r.v then 0 else 1:=by unfold zQ1;rw[if_neg (by simp[h])];rfl
theorem zWz{w:World}{s t:SV}{l:List Fld}{r:Rec}(p:Int)(h:zX7 w s l)(hr:zX7 w t r.v):Calls prog 54 #[.slice s.a s.len s.cap,.int .i64 p,.agg #[.bool r.gone,.slice t.a t.len t.cap]] w λe w'=>e=.returned (.int .i64 (zQ1 l p r))/\Pu w w':=by
 refine xXL _ _ _ _ w _ ?_
 refine alB λw1 aq aB=>⟨t,cl aB 1,?_⟩
 have h1:=h.len
 have h2:=hr.len
 have h3:=h.lim
 refine Br.of (λd=>⟨by rw[zVm (by have:=zQ3 d;omega)],aq⟩) (λd=>?_)
 have hl:r.v.length=l.length:=by have:=zQs d;omega
 refine zQx l.length (λk u w'=>u=(k:Int)/\((l.zip r.v).take k).all (λx=>zQQ x.1 p x.2)=true/\Pu w1 w') ⟨rfl,rfl,Pu.refl _⟩ ?_
 rintro k J u w2 hk ⟨hu,hal,ar⟩ hJ
 obtain rfl:u=(k:Int):=hu
 refine Br.of (λd1=>?_) (λd1=>?_)
 ·have aH:k<l.length:=by have:=zQk d1;omega
  obtain⟨f,hf⟩:=zQL aH
  obtain⟨v,hv⟩:=zQL (show k<r.v.length by omega)
  refine zQb λw3 ax _=>?_
  have bl:=ar.trans ax
  obtain⟨a,ha,hi,_,_,c,c0,c1,c2,c3⟩:=zJk ((h.pu aq).pu bl) hf
  obtain⟨b,hb,hbi,_,_,e0,e1,e2⟩:=yVU ((hr.pu aq).pu bl) hv
  refine⟨a,ha,by omega,by omega,_,c0,_,c1,_,c2,_,c3,t,cl (bl.blk aB) 1,b,hb,by omega,by omega,_,e0,_,e1,_,e2,(xQ7 f p v w3).mono ?_⟩
  rintro e w4 ⟨rfl,aK⟩
  have hz:=xQj hf hv
  refine⟨_,rfl,Br.of (λd2=>⟨?_,aq.trans (bl.trans aK)⟩) (λd2=>?_)⟩
  ·have:zKo l p r.v=false:=by unfold zKo;rw[List.all_eq_false];exact⟨_,List.mem_of_getElem? hz,by simpa using d2⟩
   rw[zJ3 hl,this];rfl
  ·rw[zQa (by omega) (by omega)]
   exact hJ _ _ aH ⟨by omega,by rw[zJR _ hz,hal,show zQQ f p v=true by simpa using d2];rfl,bl.trans aK⟩
 ·have aH:k=l.length:=by have:=zQe d1;omega
  have:zKo l p r.v=true:=by unfold zKo;rw[←hal,List.take_of_length_le (by rw[List.length_zip];omega)]
  exact⟨by rw[zJ3 hl,this];rfl,aq.trans ar⟩
theorem zJP{l:List Fld}{p:Int}:∀{rs:List Rec} {k:Nat} {r:Rec},(∀x ∈ rs.take k,zQ1 l p x=0)->rs[k]?=some r->zQ1 l p r ≠ 0->zXw l p rs=zQ1 l p r
 | [],k,r,_,h,_=>by simp at h
 | x :: rs,0,r,_,h,h2=>by simp at h;subst h;unfold zXw;rw[if_pos h2]
 | x :: rs,k+1,r,h0,h,h2=>by
  unfold zXw
  rw[if_neg (by rw[h0 x (by simp)];simp)]
  exact zJP (k:=k) (λy hy=>h0 y (by simp[hy])) (by simpa using h) h2
theorem zJU{l:List Fld}{p:Int}:∀{rs:List Rec},(∀x ∈ rs,zQ1 l p x=0)->zXw l p rs=0
 | [],_=>rfl
 | x :: rs,h=>by unfold zXw;rw[if_neg (by rw[h x (by simp)];simp)];exact zJU λy hy=>h y (by simp[hy])
theorem zYv{t:Tbl}(h:zQY t.page=false):zQg t=1:=by unfold zQg;rw[h];rfl
theorem zWX{t:Tbl}(h:zQY t.page=true)(h2:zQW t.fields ≠ 0):zQg t=zQW t.fields:=by unfold zQg;rw[h,if_pos rfl,if_pos h2]
theorem zYn{t:Tbl}(h:zQY t.page=true)(h2:zQW t.fields=0)(h3:300<t.recs.length):zQg t=3:=by unfold zQg;rw[h,if_pos rfl,if_neg (by omega),if_pos h3]
theorem zYz{t:Tbl}(h:zQY t.page=true)(h2:zQW t.fields=0)(h3:¬300<t.recs.length):zQg t=zXw t.fields t.page t.recs:=by unfold zQg;rw[h,if_pos rfl,if_neg (by omega),if_neg h3]
theorem zXn{l:List Fld}(h:zQW l=0):l ≠ []/\l.all zQp=true/\(l.map (·.name)).Nodup/\l.length<=16/\zXM l<=2000:=by
 unfold zQW at h
 split at h
 ·omega
 ·rename_i h1
  split at h
  ·omega
  ·rename_i h2
   split at h
   ·omega
   ·rename_i h3
    simp only[not_or]at h1 h3
    exact⟨h1.1,by simpa using h1.2,by simpa using h2,by omega,by omega⟩
abbrev zVe(t:Tbl)(f r:SV):Value:=.agg #[.int .i64 t.page,.slice f.a f.len f.cap,.slice r.a r.len r.cap]
theorem yJw{w:World}{t:Tbl}{f r:SV}(h:zX2 w t f r):Calls prog 13 #[zVe t f r] w λe w'=>e=.returned (.int .i64 (zQg t))/\Pu w w':=by
 refine xQU _ _ _ w _ ?_
 refine alB λw1 aq aB=>⟨_,cl0 aB,(yZP t.page w1).mono ?_⟩
 rintro e w2 ⟨rfl,ar⟩
 have h1:=h.recs.len
 have h3:=h.recs.lim
 refine⟨_,rfl,Br.of (λd=>⟨by rw[zYv (by simpa using d)],aq.trans ar⟩) (λd=>⟨_,cl (ar.blk aB) 1,(yQo (h.fields.pu (aq.trans ar))).mono ?_⟩)⟩
 have hpg:zQY t.page=true:=by simpa using d
 rintro e w3 ⟨rfl,ax⟩
 have bl:=ar.trans ax
 refine⟨_,rfl,Br.of (λd1=>⟨by rw[zWX hpg (zQ3 d1)],aq.trans bl⟩) (λd1=>⟨_,cl (bl.blk aB) 2,Br.of (λd2=>⟨by rw[zYn hpg (zQs d1) (by have:=zQk d2;omega)],aq.trans bl⟩) (λd2=>?_)⟩)⟩
 have hvf:=zQs d1
 have e0:=zYz hpg hvf (by have:=zQe d2;omega)
 refine zQx t.recs.length (λk u w'=>u=(k:Int)/\(∀x ∈ t.recs.take k,zQ1 t.fields t.page x=0)/\Pu w1 w') ⟨rfl,by simp,bl⟩ ?_
 rintro k J u w4 hk ⟨hu,hal,aK⟩ hJ
 obtain rfl:u=(k:Int):=hu
 refine⟨_,cl (aK.blk aB) 2,Br.of (λd3=>zQb λw5 aT _=>?_) (λd3=>?_)⟩
 ·have aH:k<t.recs.length:=by have:=zQk d3;omega
  obtain⟨x,hx⟩:=zQL aH
  have fh:=aK.trans aT
  obtain⟨a,q,ha,hi,hq,c0,c1⟩:=zWo ((h.recs.pu aq).pu fh) hx
  refine⟨_,cl (fh.blk aB) 1,_,cl0 (fh.blk aB),_,cl (fh.blk aB) 2,a,ha,by omega,by omega,_,c0,_,c1,(zWz t.page ((h.fields.pu aq).pu fh) hq).mono ?_⟩
  rintro e w6 ⟨rfl,bn⟩
  refine⟨_,rfl,Br.of (λd4=>⟨by rw[e0,zJP hal hx (zQ3 d4)],aq.trans (fh.trans bn)⟩) (λd4=>?_)⟩
  rw[zQa (by omega) (by omega)]
  refine hJ _ _ aH ⟨by omega,λy hy=>?_,fh.trans bn⟩
  rw[zQE hx,List.mem_append,List.mem_singleton]at hy
  rcases hy with hy|rfl
  ·exact hal y hy
  ·exact zQs d4
 ·have aH:k=t.recs.length:=by have:=zQe d3;omega
  subst aH
  rw[List.take_length]at hal
  exact⟨by rw[e0,zJU hal],aq.trans aK⟩
theorem zZ0{w:World}{t:Tbl}{f r:SV}(h:zX2 w t f r)(hl:Lim.ok t.fields):Calls prog 106 #[zVe t f r] w λe w'=>e=.returned (.int .i64 (zQg t))/\Pu w w':=by
 refine yWb _ _ _ w _ ?_
 refine alB λw1 aq aB=>⟨_,cl0 aB,(yKr t.page w1).mono ?_⟩
 rintro e w2 ⟨rfl,ar⟩
 have h1:=h.recs.len
 have h3:=h.recs.lim
 have h1f:=h.fields.len
 have h3f:=h.fields.lim
 refine⟨_,rfl,Br.of (λd=>⟨by rw[zYv (by simpa using d)],aq.trans ar⟩) (λd=>⟨_,cl (ar.blk aB) 1,(zZO (h.fields.pu (aq.trans ar)) hl).mono ?_⟩)⟩
 have hpg:zQY t.page=true:=by simpa using d
 rintro e w3 ⟨rfl,ax⟩
 have bl:=ar.trans ax
 refine⟨_,rfl,Br.of (λd1=>⟨by rw[zWX hpg (zQ3 d1)],aq.trans bl⟩) (λd1=>⟨_,cl (bl.blk aB) 2,Br.of (λd2=>⟨by rw[zYn hpg (zQs d1) (by have:=zQk d2;omega)],aq.trans bl⟩) (λd2=>⟨_,cl (bl.blk aB) 2,?_⟩)⟩)⟩
 have hvf:=zQs d1
 obtain⟨_,hall,_,_,_⟩:=zXn hvf
 have e0:=zYz hpg hvf (by have:=zQe d2;omega)
 refine zQx t.recs.length (λk u w'=>u=(k:Int)/\(∀x ∈ t.recs.take k,zQ1 t.fields t.page x=0)/\Pu w1 w') ⟨rfl,by simp,bl⟩ ?_
 rintro k J u w4 hk ⟨hu,hal,aK⟩ hJ
 obtain rfl:u=(k:Int):=hu
 refine Br.of (λd3=>?_) (λd3=>?_)
 ·have aH:k<t.recs.length:=by have:=zQk d3;omega
  obtain⟨x,hx⟩:=zQL aH
  obtain⟨a,q,ha,hi,hq,c0,c1⟩:=zWo ((h.recs.pu aq).pu aK) hx
  have next:∀{w6:World},Pu w4 w6->zQ1 t.fields t.page x=0->xXK (λe w'=>e=.returned (.int .i64 (zQg t))/\Pu w w') J (some (⟨w.heap.size,0,none⟩:Addr)) r ((r.len:Nat):Int) (k:Int) [] w6:=λ{w6} bn h0=>by
   show J (IntKind.i64.wrap ((k:Int)+1)) w6
   rw[zQa (by omega) (by omega)]
   refine hJ _ _ aH ⟨by omega,λy hy=>?_,aK.trans bn⟩
   rw[zQE hx,List.mem_append,List.mem_singleton]at hy
   rcases hy with hy|rfl
   ·exact hal y hy
   ·exact h0
  have hql:=hq.len
  refine⟨a,ha,by omega,by omega,_,c0,_,c1,yQv rfl (by kernel_rfl) rfl λw5 aT kK bq=>⟨_,cl bq 1,_,cl ((aK.trans aT).blk aB) 1,Br.of (λd4=>?_) (λd4=>⟨_,cl ((aK.trans aT).blk aB) 1,?_⟩)⟩⟩
  ·have:zQ1 t.fields t.page x=10:=zVm (by have:=zQ3 d4;omega)
   exact⟨by rw[e0,zJP hal hx (by rw[this];omega),this],aq.trans (aK.trans aT)⟩
  have hlen:x.v.length=t.fields.length:=by have:=zQs d4;omega
  have fh:=aK.trans aT
  refine zQx t.fields.length (λj u w'=>u=(j:Int)/\((t.fields.zip x.v).take j).all (λy=>zQQ y.1 t.page y.2)=true/\Pu w5 w') ⟨rfl,rfl,Pu.refl _⟩ ?_
  rintro j J2 u w6 hj ⟨hu,haz,bn⟩ hJ2
  obtain rfl:u=(j:Int):=hu
  have dN:=fh.trans bn
  refine Br.of (λd5=>?_) (λd5=>?_)
  ·have ki:j<t.fields.length:=by have:=zQk d5;omega
   obtain⟨g,hg⟩:=zQL ki
   obtain⟨v,hv⟩:=zQL (show j<x.v.length by omega)
   obtain⟨b,hb,hbi,_,_,c',k0,k1,k2,k3⟩:=zJk ((h.fields.pu aq).pu dN) hg
   refine⟨b,hb,by omega,by omega,_,k0,_,k1,_,k2,_,k3,yQv rfl s23.symm rfl λw7 ck hs7 jw=>zQb λw8 bU _=>?_⟩
   have pk:=ck.trans bU
   have nw:=dN.trans pk
   have j8:=bU.blk jw
   obtain⟨m,hm,hmi,_,_,v0,v1,v2⟩:=yVU (hq.pu ((aT.trans bn).trans pk)) hv
   refine⟨_,cl j8 0,_,cl j8 1,_,cl j8 2,_,cl j8 3,_,cl0 (nw.blk aB),q,cl ((bn.trans pk).blk bq) 1,m,hm,by omega,by omega,_,v0,_,v1,_,v2,(xYW g t.page v (hl g (List.mem_of_getElem? hg)) (List.all_eq_true.1 hall g (List.mem_of_getElem? hg)) hpg w8).mono ?_⟩
   rintro e w9 ⟨rfl,cG⟩
   have hz:=xQj hg hv
   refine⟨_,rfl,Br.of (λd6=>?_) (λd6=>?_)⟩
   ·have:zKo t.fields t.page x.v=false:=by unfold zKo;rw[List.all_eq_false];exact⟨_,List.mem_of_getElem? hz,by simpa using d6⟩
    have h1:zQ1 t.fields t.page x=1:=by rw[zJ3 hlen,this];rfl
    exact⟨by rw[e0,zJP hal hx (by rw[h1];omega),h1],aq.trans (nw.trans cG)⟩
   ·rw[zQa (by omega) (by omega)]
    exact hJ2 _ _ ki ⟨by omega,by rw[zJR _ hz,haz,show zQQ g t.page v=true by simpa using d6];rfl,(bn.trans pk).trans cG⟩
  ·have ki:j=t.fields.length:=by have:=zQe d5;omega
   have:zKo t.fields t.page x.v=true:=by unfold zKo;rw[←haz,List.take_of_length_le (by rw[List.length_zip];omega)]
   exact next (aT.trans bn) (by rw[zJ3 hlen,this];rfl)
 ·have aH:k=t.recs.length:=by have:=zQe d3;omega
  subst aH
  rw[List.take_length]at hal
  exact⟨by rw[e0,zJU hal],aq.trans aK⟩
end Go.Proofs.YtaeecpjhfmcliaaGreatDoor
/- Table: the bytes of a header. No condition. -/
namespace Go.Proofs.YtaeecpjhfmcliaaGreatDoor
open Go.Sh Go.RowKit Tryz
def u8V(b:UInt8):Value:=.int .u8 ((b.toNat:Nat):Int)
def zZE(n:Int):UInt8:=UInt8.ofNat (n % 256).toNat
theorem zJC(n:Int):(Value.int .u8 (IntKind.u8.wrap n))=u8V (zZE n):=by
 unfold u8V zZE
 rw[IntKind.wrap_u8]
 congr 1
 have:(UInt8.ofNat (n % 256).toNat).toNat=(n % 256).toNat:=by simp;omega
 rw[this];omega
theorem yWV:(prog.info? 5).map (λi=>(i.zero,i.size,i.bytes))=some (some (.int .u8 0),1,1):=by kernel_rfl
def zQf(w0 w:World)(s:SV)(l:List UInt8):Prop:=zQl w 5 1 s (l.map u8V)/\∀b ∈ zQd s,w0.heap.size<=b
theorem zQf.len{w0 w:World}{s:SV}{l:List UInt8}(h:zQf w0 w s l):s.len=l.length:=by have:=h.1.1;simp at this;omega
theorem zQf.pu{w0 w w':World}{s:SV}{l:List UInt8}(h:zQf w0 w s l)(hp:Pu w w'):zQf w0 w' s l:=⟨h.1.pu hp,h.2⟩
theorem zQf.nil(w0 w:World):zQf w0 w ⟨none,0,0⟩ []:=⟨zQl.nil w 5 1,by simp[zQd]⟩
theorem zQf.fr{B:Nat->Prop}{w0 w w':World}{s:SV}{l:List UInt8}(h:zQf w0 w s l)(hf:Fr B w w')(hn:∀k ∈ zQd s,¬B k):zQf w0 w' s l:=⟨h.1.fr hf hn,h.2⟩
theorem zQf.low{w0 w1 w:World}{s:SV}{l:List UInt8}(h:zQf w1 w s l)(hz:w0.heap.size<=w1.heap.size):zQf w0 w s l:=⟨h.1,λb hb=>Nat.le_trans hz (h.2 b hb)⟩
theorem zQf.app {w0 w:World} {s m:SV} {l news:List UInt8} (h:zQf w0 w s l) (hz:w0.heap.size<=w.heap.size) (hl:m.len=news.length) (hn:∀(j:Nat) (b:UInt8),news[j]?=some b->∃a,m.a=some a/\w.cell? (a.add j)=some (u8V b)) (hb:l.length+news.length<=70368744177664) :
  ∃(s':SV) (w':World),(Builtin.append_ #[22,22] 22 #[.slice s.a s.len s.cap,.slice m.a m.len m.cap]).run prog w=.ok (.slice s'.a s'.len s'.cap) w'/\zQf w0 w' s' (l ++ news)/\Fr (· ∈ zQd s) w w':=by
 have h1:=h.len
 obtain⟨s',w',hr,hrow,hf,hblk,_⟩:=zK7 (P:=prog) (ty:=22) u37 yWV rfl h.1 (m:=m) (news:=news.map u8V) (by simpa using hl) (λj u hu=>by
  obtain⟨b,hb,rfl⟩:∃b,news[j]?=some b/\u8V b=u:=by simpa using hu
  exact hn j b hb) (λu hu=>by simp at hu;obtain⟨x,_,rfl⟩:=hu;rfl) (by omega)
 refine⟨s',w',hr,⟨by rw[List.map_append];exact hrow,λb hb=>?_⟩,hf⟩
 rcases hblk b hb with h2|h2
 ·exact h.2 b h2
 ·omega
theorem zQf.one {w0 w:World} {s:SV} {l:List UInt8} (h:zQf w0 w s l) (hz:w0.heap.size<=w.heap.size) {r:Nat} {b:UInt8} {c:Array Value} (hr:w.heap[r]?=some (.cells c 5)) (hc:c[0]?=some (u8V b)) (hb:l.length<=70368744177663) :
  ∃(s':SV) (w':World),(Builtin.append_ #[22,22] 22 #[.slice s.a s.len s.cap,.slice (some ⟨r,0,none⟩) 1 1]).run prog w=.ok (.slice s'.a s'.len s'.cap) w'/\zQf w0 w' s' (l ++ [b])/\Fr (· ∈ zQd s) w w':=
 h.app hz (m:=⟨some ⟨r,0,none⟩,1,1⟩) (news:=[b]) rfl (λj b' hj=>by
  cases j with
  | zero=>simp at hj;subst hj;exact⟨_,rfl,by rw[yKR,zQI hr];exact hc⟩
  | succ j=>simp at hj) (by simp;omega)
theorem zQf.box {w0 w:World} {r:Nat} {l:List UInt8} (hr:w.heap[r]?=some (.cells (l.map u8V).toArray 5)) (hz:w0.heap.size<=r) (hl:l.length<=140737488355328):zQf w0 w ⟨some ⟨r,0,none⟩,l.length,l.length⟩ l:=
 ⟨⟨by simp,.inr ⟨r,_,rfl,hr,Nat.le_refl _,by show l.length<=maxLen;unfold maxLen;omega,by simp,by simp[←List.map_take]⟩⟩,λb hb=>by simp[zQd]at hb;omega⟩
theorem zQf.cell {w0 w:World} {s:SV} {l:List UInt8} (h:zQf w0 w s l) {j:Nat} {b:UInt8} (hj:l[j]?=some b):∃a,s.a=some a/\w.cell? (a.add j)=some (u8V b):=by
 obtain⟨a,h1,h2,_⟩:=h.1.cell (j:=j) (v:=u8V b) (by rw[List.getElem?_map,hj];rfl)
 exact⟨a,h1,h2⟩
def zVU(n k:Nat):List UInt8:=(List.range k).map λj=>UInt8.ofNat (n / 256 ^ j % 256)
theorem zXq(n k:Nat):(zVU n k).length=k:=by simp[zVU]
theorem yZC(n k:Nat):zVU n (k+1)=zVU n k ++ [UInt8.ofNat (n / 256 ^ k % 256)]:=by simp[zVU,List.range_succ]
theorem zY6(n:Nat):zZE (n:Int)=UInt8.ofNat (n % 256):=by
 unfold zZE;congr 1
theorem xZW(n k:Nat)(hk:k<=8)(w:World):Calls prog 202 #[.int .i64 (n:Int),.int .i64 (k:Int)] w λe w'=>∃s:SV,e=.returned (.slice s.a s.len s.cap)/\zQf w w' s (zVU n k)/\Pu w w':=by
 refine yWS _ _ w _ ?_
 refine zQx k (λj t w'=>t.1=((n / 256 ^ j:Nat):Int)/\t.2.2=(j:Int)/\zQf w w' t.2.1 (zVU n j)/\Pu w w') ⟨by simp,rfl,zQf.nil w w,Pu.refl _⟩ ?_
 rintro j J ⟨t1,t2,t3⟩ w2 hj ⟨h1,h3,hr,hp⟩ hJ
 obtain rfl:t1=((n / 256 ^ j:Nat):Int):=h1
 obtain rfl:t3=(j:Int):=h3
 have hr:zQf w w2 t2 (zVU n j):=hr
 dsimp only
 refine Br.of (λd=>?_) (λd=>?_)
 ·have ki:j<k:=by have:=zQk d;omega
  refine alB λw3 ax bp=>?_
  have hz:w.heap.size<=w3.heap.size:=(hp.trans ax).size
  obtain⟨s',w4,e4,hr4,gR⟩:=(hr.pu ax).one hz (b:=zZE ((n / 256 ^ j:Nat):Int)) bp (by rw[zJC];rfl) (by rw[zXq];omega)
  refine⟨s',w4,e4,by omega,?_⟩
  rw[zQa (by omega) (by omega)]
  refine hJ _ _ ki ⟨?_,by dsimp only;omega,?_,(hp.trans ax).andNew gR λi hi=>hr.2 i hi⟩
  ·show Int.fdiv ((n / 256 ^ j:Nat):Int) (2 ^ 8)=_
   rw[Int.fdiv_eq_ediv_of_nonneg _ (by decide),Nat.pow_succ,←Nat.div_div_eq_div_mul]
   norm_cast
  ·dsimp only;rw[yZC,←zY6];exact hr4
 ·have ki:j=k:=by have:=zQe d;omega
  subst ki
  exact⟨t2,rfl,hr,hp⟩
def zVw(k:Int):UInt8:=if k=1 then 76 else if k=2 then 78 else if k=3 then 68 else if k=4 then 67 else 77
def yY7(b:Bool):UInt8:=if b then 1 else 0
def zQM(f:Fld):List UInt8:=f.name.data.toList ++ List.replicate (10 - f.name.size) 0 ++ [zVw f.kind,zZE f.width,yY7 f.null,0,0,0]
def zJK(t:Tbl):List UInt8:=[67,zZE t.page] ++ zVU t.recs.length 4 ++ zVU (13+16 * t.fields.length) 2 ++ zVU (zXM t.fields).toNat 2 ++ [zZE t.fields.length,0] ++ t.fields.flatMap zQM ++ [13]
theorem zXc{f:Fld}(h:zQp f=true):1<=f.name.size/\f.name.size<=10/\∃K,zXe f.kind=some K/\K.letter=((zVw f.kind).toNat:Nat):=by
 unfold zQp at h
 simp only[Bool.and_eq_true]at h
 obtain⟨hn,hk⟩:=h
 unfold zZ1 at hn
 simp only[Bool.and_eq_true,decide_eq_true_eq]at hn
 refine⟨hn.1.1.1,hn.1.1.2,?_⟩
 rcases zJY f.kind with⟨e,h1⟩|⟨e,h1⟩|⟨e,h1⟩|⟨e,h1⟩|⟨e,h1⟩|⟨h1,h2,h3,h4,h5,hh⟩
 ·exact⟨_,h1,by rw[e];rfl⟩
 ·exact⟨_,h1,by rw[e];rfl⟩
 ·exact⟨_,h1,by rw[e];rfl⟩
 ·exact⟨_,h1,by rw[e];rfl⟩
 ·exact⟨_,h1,by rw[e];rfl⟩
 ·rw[yQs (by rw[hh];rfl)]at hk;cases hk
theorem zZ3{f:Fld}(h:f.name.size<=10):(zQM f).length=16:=by
 unfold zQM;simp only[List.length_append,List.length_replicate,zQ4,List.length_cons,List.length_nil];omega
theorem yZQ(n:Nat)(hn:n<=1000000)(w:World):Calls prog 159 #[.int .i64 (n:Int)] w λe w'=>e=.returned (.int .i64 ((13+16 * n:Nat):Int))/\Pu w w':=by
 refine yV6 _ w _ ⟨?_,Pu.refl w⟩
 rw[zQa (n:=16 * (n:Int)) (by omega) (by omega),zQa (by omega) (by omega)];norm_cast
theorem u123:prog.underlying 227=some (.array 16 5):=by kernel_rfl
theorem xJ1(r:Nat)(w:World):(Instr.sliceAt 227 (.pointer (some (⟨r,0,none⟩:Addr))) none (some (.int .i64 10)) (some (.int .i64 10))).run prog w=.ok (.slice (some ⟨r,0,none⟩) 10 10) w:=by
 have hs:(sizeOf 5).run prog w=.ok 1 w:=Tryz.sizeOf5 w
 simp[Instr.sliceAt,zQo u123,Instr.sureAddr,hs,Instr.sliceBounds,Instr.sliceBound,asIntOf,Addr.add]
end Go.Proofs.YtaeecpjhfmcliaaGreatDoor
/- Table: the program's header of a table. No condition. -/
namespace Go.Proofs.YtaeecpjhfmcliaaGreatDoor
open Go.Sh Go.RowKit Tryz
def xKW(R:Rt)(r1 dF:Nat)(aW:SV)(ds:Ds)(cr:World):Prop:=
 ∃fe:SV,∃dX:World,(Builtin.append_ #[22,22] 22 #[.slice (some ⟨dF,0,none⟩) 2 2,.slice aW.a aW.len aW.cap]).run prog cr=.ok (.slice fe.a fe.len fe.cap) dX/\
 ∃dr:SV,dX.cell? ((⟨r1,0,none⟩:Addr).add 1)=some (.slice dr.a dr.len dr.cap)/\
 Calls prog 159 #[.int .i64 ((dr.len:Nat):Int)] dX λe dQ=>
 ∃kj:Int,e=.returned (.int .i64 kj)/\
 Calls prog 202 #[.int .i64 kj,.int .i64 2] dQ λe dx=>
 ∃cH:SV,e=.returned (.slice cH.a cH.len cH.cap)/\
 ∃dv:SV,∃gj:World,(Builtin.append_ #[22,22] 22 #[.slice fe.a fe.len fe.cap,.slice cH.a cH.len cH.cap]).run prog dx=.ok (.slice dv.a dv.len dv.cap) gj/\
 ∃dZ:SV,gj.cell? ((⟨r1,0,none⟩:Addr).add 1)=some (.slice dZ.a dZ.len dZ.cap)/\
 Calls prog 161 #[.slice dZ.a dZ.len dZ.cap] gj λe fm=>
 ∃ct:Int,e=.returned (.int .i64 ct)/\
 Calls prog 202 #[.int .i64 ct,.int .i64 2] fm λe gS=>
 ∃bV:SV,e=.returned (.slice bV.a bV.len bV.cap)/\
 ∃eg:SV,∃cy:World,(Builtin.append_ #[22,22] 22 #[.slice dv.a dv.len dv.cap,.slice bV.a bV.len bV.cap]).run prog gS=.ok (.slice eg.a eg.len eg.cap) cy/\
 ∃gD:SV,cy.cell? ((⟨r1,0,none⟩:Addr).add 1)=some (.slice gD.a gD.len gD.cap)/\
 alE (.cells #[.int .u8 (IntKind.u8.wrap ((gD.len:Nat):Int)),.int .u8 0] 5) cy λy6 gb=>
 ∃iz:SV,∃gT:World,(Builtin.append_ #[22,22] 22 #[.slice eg.a eg.len eg.cap,.slice (some ⟨y6,0,none⟩) 2 2]).run prog gb=.ok (.slice iz.a iz.len iz.cap) gT/\
 ∃eR:SV,gT.cell? ((⟨r1,0,none⟩:Addr).add 1)=some (.slice eR.a eR.len eR.cap)/\
 yZ5 R iz eR ((eR.len:Nat):Int) 0 ds gT
theorem yXY {l:List Fld} {k:Nat} {f:Fld} (h:l[k]?=some f):(l.take (k+1)).flatMap zQM=(l.take k).flatMap zQM ++ zQM f:=by
 rw[zQE h,List.flatMap_append];simp
theorem yVS{l:List Fld}(h:∀f ∈ l,f.name.size<=10):(l.flatMap zQM).length<=16 * l.length:=by
 induction l with
 | nil=>simp
 | cons f l ih=>
  rw[List.flatMap_cons,List.length_append,zZ3 (h f (by simp)),List.length_cons]
  have:=ih λg hg=>h g (by simp[hg])
  omega
theorem yX6(l:List UInt8):Lib.byteCells l=l.map u8V:=rfl
def xQB(n:Nat):List Value:=List.replicate n (.int .u8 0)
def zZK(s:ByteArray)(a b c:Value):Array Value:=(s.data.toList.map u8V ++ (List.replicate (10 - s.size) 0).map u8V ++ [a,b,c,.int .u8 0,.int .u8 0,.int .u8 0]).toArray
theorem yJ9{s:ByteArray}(h:s.size<=10)(a b c:Value):(zZK s a b c).size=16:=by
 unfold zZK;simp only[List.size_toArray,List.length_append,List.length_map,zQ4,List.length_replicate,List.length_cons,List.length_nil];omega
theorem yZx{s:ByteArray}(h:s.size<=10)(a b c v:Value):(zZK s a b c).setIfInBounds 10 v=zZK s v b c:=by
 unfold zZK
 apply Array.toList_inj.1
 rw[Array.toList_setIfInBounds]
 simp only
 rw[List.set_append_right _ _ (by simp only[List.length_append,List.length_map,zQ4,List.length_replicate];omega)]
 simp only[List.length_append,List.length_map,zQ4,List.length_replicate]
 rw[show 10 - (s.size+(10 - s.size))=0 by omega];rfl
theorem yZe{s:ByteArray}(h:s.size<=10)(a b c v:Value):(zZK s a b c).setIfInBounds 11 v=zZK s a v c:=by
 unfold zZK
 apply Array.toList_inj.1
 rw[Array.toList_setIfInBounds]
 simp only
 rw[List.set_append_right _ _ (by simp only[List.length_append,List.length_map,zQ4,List.length_replicate];omega)]
 simp only[List.length_append,List.length_map,zQ4,List.length_replicate]
 rw[show 11 - (s.size+(10 - s.size))=1 by omega];rfl
theorem yZ8{s:ByteArray}(h:s.size<=10)(a b c v:Value):(zZK s a b c).setIfInBounds 12 v=zZK s a b v:=by
 unfold zZK
 apply Array.toList_inj.1
 rw[Array.toList_setIfInBounds]
 simp only
 rw[List.set_append_right _ _ (by simp only[List.length_append,List.length_map,zQ4,List.length_replicate];omega)]
 simp only[List.length_append,List.length_map,zQ4,List.length_replicate]
 rw[show 12 - (s.size+(10 - s.size))=2 by omega];rfl
theorem zVG(f:Fld):zZK f.name (u8V (zVw f.kind)) (u8V (zZE f.width)) (u8V (yY7 f.null))=((zQM f).map u8V).toArray:=by
 unfold zZK zQM
 simp only[List.map_append,List.map_cons,List.map_nil];rfl
theorem yY5 {w:World} {r:Nat} {s:ByteArray} (hb:w.heap[r]?=some (.cells (xQB 16).toArray 227)) (hs:s.size<=10) :
  ∃(n:Int) (w':World),(Builtin.copy_ #[22,9] 3 #[.slice (some ⟨r,0,none⟩) 10 10,.string s]).run prog w=.ok (.int .i64 n) w'/\w'.heap[r]?=some (.cells (zZK s (.int .u8 0) (.int .u8 0) (.int .u8 0)) 227)/\Fr (·=r) w w':=by
 have h:=Lib.run_copy_row_string (P:=prog) w 22 9 3 5 r 0 10 10 s (xQB 16).toArray 227 u37 (by have:=yWV;simp only[Option.map_eq_some_iff]at *;obtain⟨i,h1,h2⟩:=this;exact⟨i,h1,by simp at h2;exact h2.2.1⟩) hb (by omega) (by simp[xQB];omega)
 refine⟨_,_,h,?_,?_⟩
 ·rw[setRow_heap w r _ _ 227 (0,0) hb]
  congr 2
  unfold zZK
  rw[yX6]
  simp only[List.take_zero,List.nil_append,Nat.zero_add,xQB]
  rw[List.drop_replicate]
  apply Array.toList_inj.1
  simp only[List.append_assoc]
  congr 1
  have e:(List.replicate (10 - s.size) (0:UInt8)).map u8V=List.replicate (10 - s.size) (.int .u8 0):=by rw[List.map_replicate];rfl
  rw[e,show 16 - s.size=(10 - s.size)+6 by omega,←List.replicate_append_replicate];rfl
 ·exact⟨rfl,rfl,rfl,by simp,λk _ hk=>setRow_other w r k _ hk⟩
theorem yWl{ww w0 w:World}(hww:Pu ww w0){s l:SV}{fs:List Fld}{acc:List UInt8}(hz:w0.heap.size<=w.heap.size)(hp0:Pu w0 w)(h:zX7 w0 s fs)(hr:zQf w0 w l acc)(hall:fs.all zQp=true)(hn:fs.length<=16)(ha:acc.length<=100) :
  yZ5 (λe w'=>∃q:SV,e=.returned (.slice q.a q.len q.cap)/\zQf ww w' q (acc ++ fs.flatMap zQM ++ [13])/\Pu ww w') l s ((s.len:Nat):Int) 0 [] w:=by
 have hlen:=h.len
 have jb:∀f ∈ fs,f.name.size<=10:=λf hf=>(zXc (List.all_eq_true.1 hall f hf)).2.1
 refine zQx fs.length (λk t w'=>t.2=(k:Int)/\zQf w0 w' t.1 (acc ++ (fs.take k).flatMap zQM)/\Pu w0 w') ⟨rfl,by simpa using hr,hp0⟩ ?_
 rintro k J ⟨t1,t2⟩ w2 hk ⟨h2,jx,ar⟩ hJ
 obtain rfl:t2=(k:Int):=h2
 have jx:zQf w0 w2 t1 (acc ++ (fs.take k).flatMap zQM):=jx
 have hfl:=yVS (l:=fs.take k) λf hf=>jb f (List.mem_of_mem_take hf)
 have htl:=List.length_take_le k fs
 dsimp only
 refine Br.of (λd=>?_) (λd=>?_)
 ·have aH:k<fs.length:=by have:=zQk d;omega
  obtain⟨f,hf⟩:=zQL aH
  have hfB:=List.all_eq_true.1 hall f (List.mem_of_getElem? hf)
  obtain⟨f1,f10,K,hK,hKl⟩:=zXc hfB
  obtain⟨a,ha',hi,_,_,_,c0,c1,c2,c3⟩:=zJk (h.pu ar) hf
  refine⟨a,ha',by omega,by omega,_,c0,_,c1,_,c2,_,c3,yQv rfl s23.symm rfl λw3 ax re bp=>alB λw4 aK du=>zQb λw5 aT hh5=>?_⟩
  have hb35:=(aK.trans aT).blk bp
  have hb45:w5.heap[w3.heap.size]?=some (.cells (xQB 16).toArray 227):=aT.blk du
  have hlt:w2.heap.size<w3.heap.size:=zQy bp
  have cM:Pu w0 w5:=((ar.trans ax).trans aK).trans aT
  refine⟨λu=>u=w5,rfl,f.name,λu hu=>by subst hu;exact cl0 hb35,⟨some ⟨w3.heap.size,0,none⟩,10,10⟩,w5,xJ1 _ w5,rfl,?_⟩
  obtain⟨n,w6,e6,fT,iL⟩:=yY5 hb45 f10
  refine⟨n,w6,e6,zQb λw7 ck hh7=>?_⟩
  have hb37:=ck.blk (iL.blk hb35 (show ¬w2.heap.size=w3.heap.size by omega))
  have hb47:=ck.blk fT
  have qh:zQf w0 w7 t1 (acc ++ (fs.take k).flatMap zQM):=((((jx.pu ax).pu aK).pu aT).fr iL λb hb e=>by
   have aM:=jx.1.lt b hb
   have e:b=w3.heap.size:=e
   omega).pu ck
  have fU:Pu w0 w7:=(cM.andNew iL λi hi=>by have hi:i=w3.heap.size:=hi;have:=ar.size;omega).trans ck
  refine⟨λu=>u.heap[w2.heap.size]?=some (.cells #[.string f.name,.int .i64 f.kind,.int .i64 f.width,.bool f.null] 129),hb37,f.kind,λu hu=>cl hu 1,f.width,λu hu=>cl hu 2,(zVr w7).mono ?_⟩
  rintro e w8 ⟨m,rfl,hm,yo,bU⟩
  have hb48:=bU.blk hb47
  have hb38:=bU.blk hb37
  have hsz:∀a b c,(zZK f.name a b c).size=16:=yJ9 f10
  have z3:w3.heap.size<w7.heap.size:=zQy hb47
  refine⟨some m,rfl,λu=>u.heap[w2.heap.size]?=some (.cells #[.string f.name,.int .i64 f.kind,.int .i64 f.width,.bool f.null] 129)/\zXG u yWR zYu m zZs,⟨hb38,hm⟩,λu hu=>hu.1,K.letter,K.least,K.most,.func (.func K.wr) #[] #[],.func (.func K.rd) #[] #[],λu hu=>?_,by omega,by omega,?_⟩
  ·have:=zWF hu.2 f.kind false
   rw[hK]at this;exact this
  ·show st1 ((⟨w3.heap.size,0,none⟩:Addr).add 10) _ w8 _
   rw[zQr,Nat.zero_add]
   refine zQt hb48 (by rw[hsz];omega) λw9 hw9 oM=>?_
   have pm:Fr (·=w3.heap.size) w8 w9:=by rw[hw9];exact Fr.cell w8 _ 10 _
   rw[yZx f10,hKl]at oM
   have hb39:=pm.blk hb38 (show ¬w2.heap.size=w3.heap.size by omega)
   refine⟨λu=>u.heap[w2.heap.size]?=some (.cells #[.string f.name,.int .i64 f.kind,.int .i64 f.width,.bool f.null] 129)/\zXG u yWR zYu m zZs,⟨hb39,hm.fr pm (by omega)⟩,λu hu=>hu,by omega,by omega,?_⟩
   show st1 ((⟨w3.heap.size,0,none⟩:Addr).add 11) _ w9 _
   rw[zQr,Nat.zero_add]
   refine zQt oM (by rw[hsz];omega) λaN xz iG=>?_
   have nt:Fr (·=w3.heap.size) w9 aN:=by rw[xz];exact Fr.cell w9 _ 11 _
   rw[yZe f10,zJC]at iG
   have qg:=nt.blk hb39 (show ¬w2.heap.size=w3.heap.size by omega)
   -- behind the last store
   have fin:∀{aV:World},Fr (·=w3.heap.size) aN aV->aV.heap[w3.heap.size]?=some (.cells ((zQM f).map u8V).toArray 227)->
     ∃jS:SV,∃aO:World,(Builtin.append_ #[22,22] 22 #[.slice t1.a t1.len t1.cap,.slice (some (if 16=0 then(⟨w3.heap.size,0,none⟩:Addr)else(⟨w3.heap.size,0,none⟩:Addr).add (0 * 1))) (16 - 0) (16 - 0)]).run prog aV=.ok (.slice jS.a jS.len jS.cap) aO/\J (jS,(IntKind.i64.wrap ((k:Int)+1))) aO:=λ{aV} nx iu=>by
    have hfa:Fr (·=w3.heap.size) w8 aV:=(pm.trans nt λ_ h _=>h).trans nx λ_ h _=>h
    have sA:zQf w0 aV t1 (acc ++ (fs.take k).flatMap zQM):=(qh.pu bU).fr hfa λb hb e=>by
     have aM:=jx.1.lt b hb
     have e:b=w3.heap.size:=e
     omega
    have wO:Pu w0 aV:=(fU.trans bU).andNew hfa λi hi=>by have hi:i=w3.heap.size:=hi;have:=ar.size;omega
    obtain⟨s',aO,e12,hr12,eH⟩:=sA.app wO.size (m:=⟨some ⟨w3.heap.size,0,none⟩,16,16⟩) (news:=zQM f) (zZ3 f10).symm (λj b hj=>⟨_,rfl,by rw[zQr,zQI iu,Nat.zero_add];simp[hj]⟩) (by rw[zZ3 f10];simp only[List.length_append];omega)
    refine⟨s',aO,e12,?_⟩
    rw[zQa (by omega) (by omega)]
    refine hJ _ _ aH ⟨by dsimp only;omega,?_,wO.andNew eH λi hi=>sA.2 i hi⟩
    rw[yXY hf,←List.append_assoc];exact hr12
   refine⟨_,cl qg 3,Br.of (λd1=>⟨by omega,by omega,?_⟩) (λd1=>⟨by omega,by omega,fin (Fr.refl _ _) ?_⟩)⟩
   ·show st1 ((⟨w3.heap.size,0,none⟩:Addr).add 12) _ aN _
    rw[zQr,Nat.zero_add]
    refine zQt iG (by rw[hsz];omega) λaV hw11 iu=>⟨by omega,by omega,fin (by rw[hw11];exact Fr.cell aN _ 12 _) ?_⟩
    rw[yZ8 f10]at iu
    rw[←zVG,d1];exact iu
   ·rw[←zVG,d1];exact iG
 ·have aH:k=fs.length:=by have:=zQe d;omega
  subst aH
  rw[List.take_length]at jx hfl
  refine alB λw3 ax bp=>?_
  obtain⟨s',w4,e4,hr4,gR⟩:=(jx.pu ax).one (ar.trans ax).size (b:=13) bp rfl (by simp only[List.length_append];omega)
  exact⟨s',w4,e4,s',rfl,hr4.low hww.size,hww.trans ((ar.trans ax).andNew gR λi hi=>jx.2 i hi)⟩
theorem xZY {ww w0 cr:World} (hww:Pu ww w0) {t:Tbl} {f r aW:SV} {r1 dF:Nat} (h:zX2 w0 t f r) (hvf:zQW t.fields=0) (hrl:t.recs.length<=1000000) (hp:Pu w0 cr) (aB:w0.heap[r1]?=some (.cells #[.int .i64 t.page,.slice f.a f.len f.cap,.slice r.a r.len r.cap] 35)) (oT:w0.heap.size<=dF)
  (iG:cr.heap[dF]?=some (.cells #[.int .u8 67,.int .u8 (IntKind.u8.wrap t.page)] 5)) (hl:zQf w0 cr aW (zVU t.recs.length 4)) :
  xKW (λe w'=>∃q:SV,e=.returned (.slice q.a q.len q.cap)/\zQf ww w' q (zJK t)/\Pu ww w') r1 dF aW [] cr:=by
 obtain⟨hne0,hall,hnd,hn16,hw⟩:=zXn hvf
 have hfl:=h.fields.len
 rw[zJC]at iG
 have box:zQf w0 cr ⟨some ⟨dF,0,none⟩,2,2⟩ [67,zZE t.page]:=zQf.box (l:=[67,zZE t.page]) iG oT (by simp)
 obtain⟨fe,dX,e22,r15,f22⟩:=box.app hp.size (m:=aW) (news:=zVU t.recs.length 4) hl.len (λj b hj=>hl.cell hj) (by rw[zXq];simp)
 have hp22:Pu w0 dX:=hp.andNew f22 λi hi=>box.2 i hi
 refine⟨fe,dX,e22,f,cl (hp22.blk aB) 1,?_⟩
 rw[hfl]
 refine(yZQ t.fields.length (by omega) dX).mono ?_
 rintro e dQ ⟨rfl,iY⟩
 refine⟨_,rfl,(xZW (13+16 * t.fields.length) 2 (by omega) dQ).mono ?_⟩
 rintro e dx ⟨cH,rfl,r21,fV⟩
 have wP:=hp22.trans (iY.trans fV)
 have r15':=r15.pu (iY.trans fV)
 obtain⟨dv,gj,e25,r22,f25⟩:=r15'.app wP.size (m:=cH) (news:=zVU (13+16 * t.fields.length) 2) r21.len (λj b hj=>r21.cell hj) (by simp only[List.length_append,zXq];simp)
 have nq:Pu w0 gj:=wP.andNew f25 λi hi=>r15'.2 i hi
 refine⟨cH,rfl,dv,gj,e25,f,cl (nq.blk aB) 1,(zYh (h.fields.pu nq) (WOk.of hall)).mono ?_⟩
 rintro e fm ⟨rfl,hp26⟩
 have hs:=zJt (WOk.of hall)
 have wQ:zXM t.fields=((zXM t.fields).toNat:Int):=by unfold zXM at *;omega
 refine⟨_,rfl,?_⟩
 rw[show(Value.int .i64 (zXM t.fields))=.int .i64 (((zXM t.fields).toNat:Nat):Int)by rw[←wQ]]
 refine(xZW (zXM t.fields).toNat 2 (by omega) fm).mono ?_
 rintro e gS ⟨bV,rfl,r27,hp27⟩
 have wR:=nq.trans (hp26.trans hp27)
 have r22':=r22.pu (hp26.trans hp27)
 obtain⟨eg,cy,e28,r28,f28⟩:=r22'.app wR.size (m:=bV) (news:=zVU (zXM t.fields).toNat 2) r27.len (λj b hj=>r27.cell hj) (by simp only[List.length_append,zXq];simp)
 have iv:Pu w0 cy:=wR.andNew f28 λi hi=>r22'.2 i hi
 refine⟨bV,rfl,eg,cy,e28,f,cl (iv.blk aB) 1,alB λgb qL hb29=>?_⟩
 rw[zJC,hfl]at hb29
 have wS:=iv.trans qL
 have box2:zQf w0 gb ⟨some ⟨cy.heap.size,0,none⟩,2,2⟩ [zZE (t.fields.length:Int),0]:=zQf.box (l:=[zZE (t.fields.length:Int),0]) hb29 iv.size (by simp)
 have r28':=r28.pu qL
 obtain⟨iz,gT,e30,r35,f30⟩:=r28'.app wS.size (m:=⟨some ⟨cy.heap.size,0,none⟩,2,2⟩) (news:=[zZE (t.fields.length:Int),0]) rfl (λj b hj=>box2.cell hj) (by simp only[List.length_append,zXq];simp)
 have xD:Pu w0 gT:=wS.andNew f30 λi hi=>r28'.2 i hi
 refine⟨iz,gT,e30,f,cl (xD.blk aB) 1,?_⟩
 exact yWl hww xD.size xD h.fields r35 hall hn16 (by simp only[List.length_append,zXq,List.length_cons,List.length_nil];omega)
theorem yKA{w:World}{t:Tbl}{f r:SV}(h:zX2 w t f r)(hvf:zQW t.fields=0)(hrl:t.recs.length<=1000000):Calls prog 157 #[zVe t f r] w λe w'=>∃q:SV,e=.returned (.slice q.a q.len q.cap)/\zQf w w' q (zJK t)/\Pu w w':=by
 refine yW8 _ _ _ w _ ?_
 refine alB λw1 aq aB=>zQb λw2 ar hh2=>?_
 have dL:=aq.trans ar
 have aM:=ar.blk aB
 have hrlen:=h.recs.len
 have z1:=dL.size
 have up:∀{cr dF aW},Pu w2 cr->w2.heap.size<=dF->cr.heap[dF]?=some (.cells #[.int .u8 67,.int .u8 (IntKind.u8.wrap t.page)] 5)->zQf w2 cr aW (zVU t.recs.length 4)->
   xKW (λe w'=>∃q:SV,e=.returned (.slice q.a q.len q.cap)/\zQf w w' q (zJK t)/\Pu w w') w.heap.size dF aW [] cr:=λ{cr dF aW} q1 q2 q3 q4=>by
  exact xZY dL (h.pu dL) hvf hrl q1 aM q2 q3 q4
 refine⟨λu=>Pu w2 u,Pu.refl _,t.page,λu hu=>cl0 (hu.blk aM),r,λu hu=>cl (hu.blk aM) 2,?_⟩
 rw[hrlen]
 constructor
 ·refine alB λcj iZ hb20=>⟨iZ,(xZW t.recs.length 4 (by omega) cj).mono ?_⟩
  rintro e cr ⟨aW,rfl,aL,sB⟩
  exact⟨aW,rfl,iZ.trans sB,up (iZ.trans sB) (Nat.le_refl _) (sB.blk hb20) (aL.low iZ.size)⟩
 ·refine(xZW t.recs.length 4 (by omega) w2).mono ?_
  rintro e fX ⟨aW,rfl,aL,oN⟩
  refine⟨aW,rfl,oN,alB λgz xE hb32=>⟨oN.trans xE,up (oN.trans xE) oN.size hb32 (aL.pu xE)⟩⟩
theorem zWb{t:Tbl}(h:zQg t=0):zQY t.page=true/\zQW t.fields=0/\t.recs.length<=300/\zXw t.fields t.page t.recs=0:=by
 unfold zQg at h
 split at h
 ·rename_i hp
  split at h
  ·omega
  ·rename_i hf
   split at h
   ·omega
   ·rename_i hr
    exact⟨hp,by omega,by omega,h⟩
 ·omega
theorem yYR{w:World}{t:Tbl}{f r:SV}(h:zX2 w t f r)(hl:Lim.ok t.fields):Calls prog 165 #[zVe t f r] w λe w'=>∃q:SV,e=.returned (.tuple #[.slice q.a q.len q.cap,.int .i64 (zQg t)])/\zQf w w' q (if zQg t=0 then zJK t else [])/\Pu w w':=by
 refine yWD _ _ _ w _ ?_
 refine alB λw1 aq aB=>⟨_,cl aB 0,_,cl aB 1,_,cl aB 2,(zZ0 (h.pu aq) hl).mono ?_⟩
 rintro e w2 ⟨rfl,ar⟩
 have dL:=aq.trans ar
 refine⟨_,rfl,Br.of (λd=>⟨⟨none,0,0⟩,rfl,by rw[if_neg (zQ3 d)];exact zQf.nil w w2,dL⟩) (λd=>⟨_,cl (ar.blk aB) 0,_,cl (ar.blk aB) 1,_,cl (ar.blk aB) 2,?_⟩)⟩
 have d:=zQs d
 obtain⟨h1,h2,h3,_⟩:=zWb d
 refine(yKA (h.pu dL) h2 (by omega)).mono ?_
 rintro e w3 ⟨q,rfl,hq,ax⟩
 exact⟨q,rfl,q,by rw[d],by rw[if_pos d];exact hq.low dL.size,dL.trans ax⟩
end Go.Proofs.YtaeecpjhfmcliaaGreatDoor
/- Table: the null flags of a record, as bytes. No condition. -/
namespace Go.Proofs.YtaeecpjhfmcliaaGreatDoor
open Go.Sh Go.RowKit Tryz
def zKm(bs:List Bool)(i j:Nat):Nat:=if bs[8 * i+j]?=some true then 2 ^ j else 0
def zZw(bs:List Bool)(i:Nat):Nat:=zKm bs i 0+zKm bs i 1+zKm bs i 2+zKm bs i 3+zKm bs i 4+zKm bs i 5+zKm bs i 6+zKm bs i 7
def flN(N:Nat)(bs:List Bool):List UInt8:=(List.range N).map λi=>UInt8.ofNat (zZw bs i)
theorem zV4(N:Nat)(bs:List Bool):(flN N bs).length=N:=by simp[flN]
theorem xYH(N:Nat):flN N []=List.replicate N 0:=by
 unfold flN
 apply List.ext_getElem?
 intro i
 simp only[List.getElem?_map,List.getElem?_replicate]
 by_cases h:i<N
 ·rw[List.getElem?_range h,if_pos h];rfl
 ·rw[if_neg h,List.getElem?_eq_none (by simp;omega)];rfl
theorem yQj(bs:List Bool)(k:Nat):((bs ++ [false])[k]?=some true) ↔ (bs[k]?=some true):=by
 rcases Nat.lt_trichotomy k bs.length with h|h|h
 ·rw[List.getElem?_append_left h]
 ·subst h;simp
 ·rw[List.getElem?_eq_none (by simp;omega),List.getElem?_eq_none (by omega)]
theorem zJZ(bs:List Bool)(k:Nat):((bs ++ [true])[k]?=some true) ↔ (bs[k]?=some true∨k=bs.length):=by
 rcases Nat.lt_trichotomy k bs.length with h|h|h
 ·rw[List.getElem?_append_left h];constructor
  ·exact .inl
  ·rintro(h1|h1)
   ·exact h1
   ·omega
 ·subst h;simp
 ·rw[List.getElem?_eq_none (by simp;omega),List.getElem?_eq_none (by omega)];simp;omega
theorem xXe(N:Nat)(bs:List Bool):flN N (bs ++ [false])=flN N bs:=by
 unfold flN zZw zKm
 simp only[yQj]
theorem zZh{bs:List Bool}{q r:Nat}(hm:bs.length=8 * q+r)(hr:r<8)(i j:Nat)(hj:j<8):zKm (bs ++ [true]) i j=zKm bs i j+(if i=q/\j=r then 2 ^ j else 0):=by
 unfold zKm
 by_cases h:8 * i+j=bs.length
 ·have h1:i=q/\j=r:=by omega
  have h2:¬bs[8 * i+j]?=some true:=by rw[List.getElem?_eq_none (by omega)];simp
  rw[if_pos ((zJZ _ _).2 (.inr h)),if_neg h2,if_pos h1];omega
 ·have h1:¬(i=q/\j=r):=by omega
  rw[if_neg h1,Nat.add_zero]
  by_cases h2:bs[8 * i+j]?=some true
  ·rw[if_pos ((zJZ _ _).2 (.inl h2)),if_pos h2]
  ·rw[if_neg (λh3=>((zJZ _ _).1 h3).elim h2 h),if_neg h2]
theorem yJG{bs:List Bool}{q r:Nat}(hm:bs.length=8 * q+r)(hr:r<8)(i:Nat):zZw (bs ++ [true]) i=zZw bs i+(if i=q then 2 ^ r else 0):=by
 unfold zZw
 rw[zZh hm hr i 0 (by omega),zZh hm hr i 1 (by omega),zZh hm hr i 2 (by omega),zZh hm hr i 3 (by omega),zZh hm hr i 4 (by omega),zZh hm hr i 5 (by omega),zZh hm hr i 6 (by omega),zZh hm hr i 7 (by omega)]
 by_cases h:i=q
 ·simp only[h,true_and,if_true]
  rcases(by omega:r=0∨r=1∨r=2∨r=3∨r=4∨r=5∨r=6∨r=7)with rfl|rfl|rfl|rfl|rfl|rfl|rfl|rfl <;> simp <;> omega
 ·simp[h]
theorem zJQ(bs:List Bool)(i j:Nat):zKm bs i j<=2 ^ j:=by
 unfold zKm;split
 ·exact Nat.le_refl _
 ·exact Nat.zero_le _
theorem yVJ{bs:List Bool}{q r j:Nat}(hm:bs.length=8 * q+r)(hj:r<=j):zKm bs q j=0:=by
 unfold zKm;rw[if_neg];rw[List.getElem?_eq_none (by omega)];simp
theorem xXR{bs:List Bool}{q r:Nat}(hm:bs.length=8 * q+r)(hr:r<8):zZw bs q<2 ^ r:=by
 have z:∀j,r<=j->zKm bs q j=0:=λj hj=>yVJ hm hj
 have l0:=zJQ bs q 0
 have l1:=zJQ bs q 1
 have l2:=zJQ bs q 2
 have l3:=zJQ bs q 3
 have l4:=zJQ bs q 4
 have l5:=zJQ bs q 5
 have l6:=zJQ bs q 6
 unfold zZw
 rcases(by omega:r=0∨r=1∨r=2∨r=3∨r=4∨r=5∨r=6∨r=7)with rfl|rfl|rfl|rfl|rfl|rfl|rfl|rfl
 ·rw[z 0 (by omega),z 1 (by omega),z 2 (by omega),z 3 (by omega),z 4 (by omega),z 5 (by omega),z 6 (by omega),z 7 (by omega)];omega
 ·rw[z 1 (by omega),z 2 (by omega),z 3 (by omega),z 4 (by omega),z 5 (by omega),z 6 (by omega),z 7 (by omega)];omega
 ·rw[z 2 (by omega),z 3 (by omega),z 4 (by omega),z 5 (by omega),z 6 (by omega),z 7 (by omega)];omega
 ·rw[z 3 (by omega),z 4 (by omega),z 5 (by omega),z 6 (by omega),z 7 (by omega)];omega
 ·rw[z 4 (by omega),z 5 (by omega),z 6 (by omega),z 7 (by omega)];omega
 ·rw[z 5 (by omega),z 6 (by omega),z 7 (by omega)];omega
 ·rw[z 6 (by omega),z 7 (by omega)];omega
 ·rw[z 7 (by omega)];omega
theorem xJj{N:Nat}{bs:List Bool}{q r:Nat}(hm:bs.length=8 * q+r)(hr:r<8)(hq:q<N):flN N (bs ++ [true])=(flN N bs).set q (UInt8.ofNat (zZw bs q+2 ^ r)):=by
 apply List.ext_getElem?
 intro i
 rw[List.getElem?_set]
 unfold flN
 simp only[List.length_map,List.length_range,List.getElem?_map]
 by_cases hi:i<N
 ·rw[List.getElem?_range hi]
  simp only[Option.map_some,yJG hm hr]
  by_cases h:q=i
  ·subst h;rw[if_pos rfl,if_pos rfl,if_pos hi]
  ·rw[if_neg (λe=>h e.symm),if_neg h,Nat.add_zero]
 ·rw[List.getElem?_eq_none (by simp;omega)]
  by_cases h:q=i
  ·omega
  ·rw[if_neg h];rfl
theorem xVD{N:Nat}{bs:List Bool}{q:Nat}(hq:q<N):(flN N bs)[q]?=some (UInt8.ofNat (zZw bs q)):=by
 unfold flN;rw[List.getElem?_map,List.getElem?_range hq];rfl
theorem or_bit:∀r:Nat,r<8->∀x:Nat,x<2 ^ r->(BitVec.ofInt 8 (x:Int) ||| BitVec.ofInt 8 (IntKind.u8.wrap ((1:Int) * 2 ^ (min r 8)))).toNat=x+2 ^ r:=by decide +kernel
def zXv:List Fld->List Val->List Bool
 | [],_=>[]
 | _,[]=>[]
 | f :: fs,v :: vs=>if f.null then decide (v.kind=0) :: zXv fs vs else zXv fs vs
theorem yQ4:∀{l:List Fld} {vs:List Val} {k:Nat} {f:Fld} {v:Val},l[k]?=some f->vs[k]?=some v->zXv (l.take (k+1)) (vs.take (k+1))=zXv (l.take k) (vs.take k) ++ (if f.null then [decide (v.kind=0)]else [])
 | [],_,_,_,_,h,_=>by simp at h
 | _ :: _,[],_,_,_,_,h=>by simp at h
 | a :: l,b :: vs,0,f,v,h,h2=>by
  simp at h h2;subst h h2
  simp only[List.take_succ_cons,List.take_zero,zXv]
  split <;> simp
 | a :: l,b :: vs,k+1,f,v,h,h2=>by
  have ih:=yQ4 (l:=l) (vs:=vs) (k:=k) (f:=f) (v:=v) (by simpa using h) (by simpa using h2)
  simp only[List.take_succ_cons,zXv]
  by_cases hn:a.null=true
  ·rw[if_pos hn,if_pos hn];rw[ih];rfl
  ·rw[if_neg hn,if_neg hn];exact ih
theorem zWP:∀(l:List Fld) (vs:List Val),(zXv l vs).length<=(l.filter (·.null)).length
 | [],_=>by simp[zXv]
 | _ :: _,[]=>by simp[zXv]
 | f :: l,v :: vs=>by
  have:=zWP l vs
  unfold zXv
  rw[List.filter_cons]
  by_cases hn:f.null=true
  ·rw[if_pos hn,if_pos hn];simp only[List.length_cons];omega
  ·rw[if_neg hn,if_neg hn];exact this
end Go.Proofs.YtaeecpjhfmcliaaGreatDoor
