import Derived.Test.YtaeecpjhfmcliaaGreatDoorLgOwA
import Derived.Test.YtaeecpjhfmcliaaGreatDoorLgPrA
import Derived.Test.YtaeecpjhfmcliaaGreatDoorShSixteen
import Derived.Lib.BufferWrite
import Derived.Lib.AppendStr
/- Table: what a value becomes in a field, the reference. No condition. -/
set_option maxRecDepth 100000
set_option linter.unusedVariables false
set_option linter.unusedSimpArgs false
namespace Go.Proofs.YtaeecpjhfmcliaaGreatDoor
open Go.Sh Go.RowKit Tryz
theorem yZd(l:List UInt8)(s:ByteArray):bs l=s ↔ l=s.data.toList:=by
 constructor
 ·intro h;rw[←h]
 ·intro h;rw[h]
theorem xJL(n:Int)(w:World):Calls prog 133 #[.int .i64 n] w λe w'=>e=.returned (.bool (zVR n))/\Pu w w':=by
 refine yVm _ w _ (Br.of (λd=>?_) (λd=>?_))
 ·exact⟨by rw[zVR,decide_eq_true (show 0<=n from zQk d)];rfl,Pu.refl w⟩
 ·exact⟨by rw[zVR,decide_eq_false (show ¬0<=n from zQd d)];rfl,Pu.refl w⟩
theorem yYt(f:Fld)(p:Int)(v:Val)(w:World):Calls prog 93 #[yQk f,.int .i64 p,zJ6 v] w λe w'=>e=.returned (.bool (zQR f p v))/\Pu w w':=by
 refine yYx _ _ _ _ _ _ _ _ w _ ?_
 refine alB λw1 ar aB=>alB λw2 aq aM=>?_
 have aG:=ar.trans aq
 have b1:∀{wz},Pu w2 wz->wz.heap[w.heap.size]?=some (.cells #[.string f.name,.int .i64 f.kind,.int .i64 f.width,.bool f.null] 129):=λh=>h.blk (aq.blk aB)
 have b2:∀{wz},Pu w2 wz->wz.heap[w1.heap.size]?=some (.cells #[.int .i64 v.kind,.int .i64 v.n,.string v.s] 73):=λh=>h.blk aM
 have q0:=b2 (Pu.refl w2)
 refine⟨_,cl q0 0,_,cl q0 1,_,cl q0 2,(yKi v w2).mono ?_⟩
 rintro e w3 ⟨rfl,au⟩
 have aU:=aG.trans au
 have out:∀{wz:World} {b:Bool},Pu w wz->zQR f p v=b->(Ending.returned (Value.bool b)=Ending.returned (Value.bool (zQR f p v))/\Pu w wz):=λh1 h2=>⟨by rw[h2],h1⟩
 refine⟨_,rfl,Br.of (λd=>out aU (by unfold zQR;rw[if_pos (zQ2 d)])) (λd=>?_)⟩
 have hv:=zQs d
 have nw:¬zXk v ≠ 0:=by omega
 obtain⟨hvs,hvn,hv4⟩:=zKH hv
 refine⟨_,cl0 (b2 au),Br.of (λd0=>⟨_,cl (b1 au) 3,out aU (by unfold zQR;rw[if_neg nw,if_pos (zQG d0)])⟩) (λd0=>⟨_,cl (b1 au) 1,Br.of (λd1=>?_) (λd1=>?_)⟩)⟩
 ·refine⟨_,cl0 (b2 au),Br.of (λd2=>⟨_,cl (b2 au) 1,(xJL v.n w3).mono ?_⟩) (λd2=>out aU ?_)⟩
  ·rintro e w4 ⟨rfl,aK⟩
   exact⟨_,rfl,out (aU.trans aK) (by unfold zQR;rw[if_neg nw,if_neg (zQm d0),if_pos (zQG d1),decide_eq_true (zQG d2)];rfl)⟩
  ·unfold zQR;rw[if_neg nw,if_neg (zQm d0),if_pos (zQG d1),decide_eq_false (zQm d2)];rfl
 have e0:zQR f p v=if v.kind ≠ f.kind then false else if f.kind=2 then decide (((zJq v.n).length:Int)<=f.width)else if f.kind=4 then decide ((v.s.size:Int)<=f.width) && decide (zZ4 v.s.data.toList=v.s.data.toList) && zXN v.s.data.toList p else true:=by
  unfold zQR;rw[if_neg nw,if_neg (zQm d0),if_neg (zQm d1)]
 refine⟨_,cl0 (b2 au),_,cl (b1 au) 1,Br.of (λd2=>out aU (by rw[e0,if_pos (zQ2 d2)])) (λd2=>⟨_,cl (b1 au) 1,Br.of (λd3=>?_) (λd3=>⟨_,cl (b1 au) 1,Br.of (λd4=>?_) (λd4=>out aU ?_)⟩)⟩)⟩
 ·have d2:=zQs d2
  have d3:=zQG d3
  have hn:zZR v.n:=by rw[d2,d3]at hvn;simp[okN]at hvn;exact⟨by omega,by omega⟩
  refine zQc λw4 aK _=>⟨λu=>Pu w4 u,Pu.refl _,v.n,λu hu=>cl (b2 ((au.trans aK).trans hu)) 1,f.width,λu hu=>cl (b1 ((au.trans aK).trans hu)) 2,(xZi hn w4).mono ?_⟩
  rintro e w5 ⟨rfl,aR⟩
  refine⟨_,rfl,aR,out ((aU.trans aK).trans aR) ?_⟩
  rw[e0,if_neg (by rw[d2];simp),if_pos d3,zQ9]
 ·have d2:=zQs d2
  have d3:=zQm d3
  have d4:=zQG d4
  have e1:zQR f p v=(decide ((v.s.size:Int)<=f.width) && decide (zZ4 v.s.data.toList=v.s.data.toList) && zXN v.s.data.toList p):=by
   rw[e0,if_neg (by rw[d2];simp),if_neg d3,if_pos d4]
  refine zQc λw4 aK _=>⟨λu=>Pu w4 u,Pu.refl _,v.s,λu hu=>cl (b2 ((au.trans aK).trans hu)) 2,f.width,λu hu=>cl (b1 ((au.trans aK).trans hu)) 2,Br.of (λd5=>?_) (λd5=>out (aU.trans aK) ?_)⟩
  ·refine⟨v.s,λu hu=>cl (b2 ((au.trans aK).trans hu)) 2,v.s,λu hu=>cl (b2 ((au.trans aK).trans hu)) 2,(xZl v.s (by omega) w4).mono ?_⟩
   rintro e w5 ⟨rfl,aR⟩
   refine⟨_,rfl,aR,?_⟩
   rw[zX8]
   have hbe:(bs (zZ4 v.s.data.toList)=v.s) ↔ zZ4 v.s.data.toList=v.s.data.toList:=yZd _ _
   refine Br.of (λd6=>⟨v.s,λu hu=>cl (b2 ((au.trans aK).trans hu)) 2,(yQv v.s (by omega) p w5).mono ?_⟩) (λd6=>out ((aU.trans aK).trans aR) ?_)
   ·rintro e w6 ⟨rfl,bB⟩
    refine⟨_,rfl,out (((aU.trans aK).trans aR).trans bB) ?_⟩
    rw[e1,decide_eq_true (zQk d5),decide_eq_true (hbe.1 (zQk d6))];rfl
   ·rw[e1,decide_eq_false (λh=>zQd d6 (hbe.2 h))];simp
  ·rw[e1,decide_eq_false (zQd d5)];rfl
 ·rw[e0,if_neg (by rw[zQs d2];simp),if_neg (zQm d3),if_neg (zQm d4)]
theorem xXy(f:Fld)(p:Int)(v:Val)(hfB:zQo f=true)(hvs:v.s.size<=140737488355328)(w:World):Calls prog 139 #[yQk f,.int .i64 p,zJ6 v] w λe w'=>
  e=.returned (.tuple #[zJ6 (zQS f p v).1,.int .i64 (zQS f p v).2])/\Pu w w':=by
 refine yWj _ _ _ _ _ _ _ _ w _ ?_
 refine alB λw1 ar aB=>alB λw2 aq aM=>alB λw3 au bn=>?_
 have z1:w1.heap.size<=w2.heap.size:=aq.size
 have z0:w.heap.size<=w1.heap.size:=ar.size
 have aU:Pu w w3:=(ar.trans aq).trans au
 have out:∀{wz:World} (v':Val) (k:Int) {c:Array Value},Pu w wz->wz.heap[w2.heap.size]?=some (.cells c 73)->c.size=3->zQS f p v=(v',k)->
   stA prog 73 (⟨w2.heap.size,0,none⟩:Addr) #[.int .i64 v'.kind,.int .i64 v'.n,.string v'.s] wz λw'=>∃n0:Int,w'.cell? ((⟨w2.heap.size,0,none⟩:Addr).add 0)=some (.int .i64 n0)/\∃n1:Int,w'.cell? ((⟨w2.heap.size,0,none⟩:Addr).add 1)=some (.int .i64 n1)/\
    ∃s2:ByteArray,w'.cell? ((⟨w2.heap.size,0,none⟩:Addr).add 2)=some (.string s2)/\(Ending.returned (.tuple #[.agg #[.int .i64 n0,.int .i64 n1,.string s2],.int .i64 k])=.returned (.tuple #[zJ6 (zQS f p v).1,.int .i64 (zQS f p v).2])/\Pu w w'):=λ{wz} v' k {c} h1 h2 h3 h4=>
  retV (R:=λe w'=>e=.returned (.tuple #[zJ6 (zQS f p v).1,.int .i64 (zQS f p v).2])/\Pu w w') v' k h2 h3 λw' hf=>⟨by rw[h4],h1.andNew hf λi hi=>by have hi:i=w2.heap.size:=hi;omega⟩
 have b1:∀{wz},Pu w3 wz->wz.heap[w.heap.size]?=some (.cells #[.string f.name,.int .i64 f.kind,.int .i64 f.width,.bool f.null] 129):=λh=>h.blk (au.blk (aq.blk aB))
 have b2:∀{wz},Pu w3 wz->wz.heap[w1.heap.size]?=some (.cells #[.int .i64 v.kind,.int .i64 v.n,.string v.s] 73):=λh=>h.blk (au.blk aM)
 have b3:∀{wz},Pu w3 wz->wz.heap[w2.heap.size]?=some (.cells #[.int .i64 0,.int .i64 0,.string ⟨#[]⟩] 73):=λh=>h.blk bn
 have q1:=b1 (Pu.refl w3)
 have q2:=b2 (Pu.refl w3)
 have q3:=b3 (Pu.refl w3)
 refine⟨_,cl0 q2,Br.of (λd0=>⟨_,cl q1 3,Br.of (λd1=>out noV 7 aU q3 rfl ?_) (λd1=>⟨_,cl q2 0,_,cl q2 1,_,cl q2 2,out v 0 aU q3 rfl ?_⟩)⟩) (λd0=>⟨_,cl q1 1,?_⟩)⟩
 ·unfold zQS;rw[if_pos (zQG d0),show f.null=false by simpa using d1];rfl
 ·unfold zQS;rw[if_pos (zQG d0),show f.null=true by simpa using d1];rfl
 have d0:=zQm d0
 -- behind the question for the kind
 have rest:v.kind=(zXr f).kind->∀(m:Int),f.kind=m->
   Br (m == 4) (∃rk:ByteArray,w3.cell? ((⟨w1.heap.size,0,none⟩:Addr).add 2)=some (.string rk)/\∃ue:ByteArray,w3.cell? ((⟨w1.heap.size,0,none⟩:Addr).add 2)=some (.string ue)/\∃iU:Int,w3.cell? ((⟨w.heap.size,0,none⟩:Addr).add 2)=some (.int .i64 iU)/\
    ∃iq:Int,∃aN:World,(Builtin.min_ #[3,3] 3 #[.int .i64 ((ue.size:Nat):Int),.int .i64 iU]).run prog w3=.ok (.int .i64 iq) aN/\0<=iq/\iq.toNat<=rk.size/\0<=iq.toNat/\
    Calls prog 135 #[.string (rk.extract 0 iq.toNat)] aN λe aV=>∃rm:ByteArray,e=.returned (.string rm)/\Calls prog 136 #[.string rm,.int .i64 p] aV λe aO=>∃pC:Bool,e=.returned (.bool pC)/\
    Br (!pC) (stA prog 73 (⟨w2.heap.size,0,none⟩:Addr) #[.int .i64 0,.int .i64 0,.string (⟨#[]⟩:ByteArray)] aO λaH=>∃ag:Int,aH.cell? ((⟨w2.heap.size,0,none⟩:Addr).add 0)=some (.int .i64 ag)/\∃aj:Int,aH.cell? ((⟨w2.heap.size,0,none⟩:Addr).add 1)=some (.int .i64 aj)/\∃ak:ByteArray,aH.cell? ((⟨w2.heap.size,0,none⟩:Addr).add 2)=some (.string ak)/\
      (Ending.returned (.tuple #[.agg #[.int .i64 ag,.int .i64 aj,.string ak],.int .i64 10])=.returned (.tuple #[zJ6 (zQS f p v).1,.int .i64 (zQS f p v).2])/\Pu w aH)) (
     Calls prog 177 #[.string rm] aO λe bp=>∃gd:Int,∃gf:Int,∃gg:ByteArray,e=.returned (.agg #[.int .i64 gd,.int .i64 gf,.string gg])/\
     stA prog 73 (⟨w2.heap.size,0,none⟩:Addr) #[.int .i64 gd,.int .i64 gf,.string gg] bp λbG=>∃ag:Int,bG.cell? ((⟨w2.heap.size,0,none⟩:Addr).add 0)=some (.int .i64 ag)/\∃aj:Int,bG.cell? ((⟨w2.heap.size,0,none⟩:Addr).add 1)=some (.int .i64 aj)/\∃ak:ByteArray,bG.cell? ((⟨w2.heap.size,0,none⟩:Addr).add 2)=some (.string ak)/\
      (Ending.returned (.tuple #[.agg #[.int .i64 ag,.int .i64 aj,.string ak],.int .i64 0])=.returned (.tuple #[zJ6 (zQS f p v).1,.int .i64 (zQS f p v).2])/\Pu w bG))) (
    ∃jE:ByteArray,w3.cell? ((⟨w.heap.size,0,none⟩:Addr).add 0)=some (.string jE)/\∃cJ:Int,w3.cell? ((⟨w.heap.size,0,none⟩:Addr).add 1)=some (.int .i64 cJ)/\∃jF:Int,w3.cell? ((⟨w.heap.size,0,none⟩:Addr).add 2)=some (.int .i64 jF)/\∃jG:Bool,w3.cell? ((⟨w.heap.size,0,none⟩:Addr).add 3)=some (.bool jG)/\
    ∃gy:Int,w3.cell? ((⟨w1.heap.size,0,none⟩:Addr).add 0)=some (.int .i64 gy)/\∃jH:Int,w3.cell? ((⟨w1.heap.size,0,none⟩:Addr).add 1)=some (.int .i64 jH)/\∃jI:ByteArray,w3.cell? ((⟨w1.heap.size,0,none⟩:Addr).add 2)=some (.string jI)/\
    Calls prog 93 #[.agg #[.string jE,.int .i64 cJ,.int .i64 jF,.bool jG],.int .i64 p,.agg #[.int .i64 gy,.int .i64 jH,.string jI]] w3 λe bO=>∃uf:Bool,e=.returned (.bool uf)/\
    Br (!uf) (stA prog 73 (⟨w2.heap.size,0,none⟩:Addr) #[.int .i64 0,.int .i64 0,.string (⟨#[]⟩:ByteArray)] bO λaH=>∃ag:Int,aH.cell? ((⟨w2.heap.size,0,none⟩:Addr).add 0)=some (.int .i64 ag)/\∃aj:Int,aH.cell? ((⟨w2.heap.size,0,none⟩:Addr).add 1)=some (.int .i64 aj)/\∃ak:ByteArray,aH.cell? ((⟨w2.heap.size,0,none⟩:Addr).add 2)=some (.string ak)/\
      (Ending.returned (.tuple #[.agg #[.int .i64 ag,.int .i64 aj,.string ak],.int .i64 10])=.returned (.tuple #[zJ6 (zQS f p v).1,.int .i64 (zQS f p v).2])/\Pu w aH)) (
     ∃eR:Int,bO.cell? ((⟨w1.heap.size,0,none⟩:Addr).add 0)=some (.int .i64 eR)/\∃eV:Int,bO.cell? ((⟨w1.heap.size,0,none⟩:Addr).add 1)=some (.int .i64 eV)/\∃jJ:ByteArray,bO.cell? ((⟨w1.heap.size,0,none⟩:Addr).add 2)=some (.string jJ)/\
     stA prog 73 (⟨w2.heap.size,0,none⟩:Addr) #[.int .i64 eR,.int .i64 eV,.string jJ] bO λbG=>∃ag:Int,bG.cell? ((⟨w2.heap.size,0,none⟩:Addr).add 0)=some (.int .i64 ag)/\∃aj:Int,bG.cell? ((⟨w2.heap.size,0,none⟩:Addr).add 1)=some (.int .i64 aj)/\∃ak:ByteArray,bG.cell? ((⟨w2.heap.size,0,none⟩:Addr).add 2)=some (.string ak)/\
      (Ending.returned (.tuple #[.agg #[.int .i64 ag,.int .i64 aj,.string ak],.int .i64 0])=.returned (.tuple #[zJ6 (zQS f p v).1,.int .i64 (zQS f p v).2])/\Pu w bG))):=by
  rintro hk m rfl
  have hF:zQS f p v=if f.kind=4 then(if zXN (zZ4 (v.s.data.toList.take f.width.toNat)) p then(⟨4,0,bs (zZ4 (v.s.data.toList.take f.width.toNat))⟩,0)else(noV,10))else if zQR f p v then(v,0)else(noV,10):=by
   unfold zQS;rw[if_neg d0,if_neg (by rw[hk];simp)]
  refine Br.of (λd2=>?_) (λd2=>?_)
  ·have d2:=zQG d2
   obtain⟨wl,wh⟩:=zYa hfB d2
   rw[if_pos d2]at hF
   refine⟨_,cl q2 2,_,cl q2 2,_,cl q1 2,_,w3,yX8 _ _ _ _ _ _,by omega,by omega,by omega,(xZl _ (by have:=zQ8 v.s 0 (min (v.s.size:Int) f.width).toNat;have:=zQ3 (v.s.extract 0 (min (v.s.size:Int) f.width).toNat);simp at *;omega) w3).mono ?_⟩
   rintro e w9 ⟨rfl,cx⟩
   have et:(v.s.extract 0 (min (v.s.size:Int) f.width).toNat).data.toList=v.s.data.toList.take f.width.toNat:=by
    rw[zQ8,List.drop_zero];exact yKN _ _ _ (by simp) (by omega)
   rw[et]
   have hbl:(bs (zZ4 (v.s.data.toList.take f.width.toNat))).size<=140737488355328:=by
    rw[zQ9];have:=yXu (v.s.data.toList.take f.width.toNat);have:=List.length_take_le' f.width.toNat v.s.data.toList;rw[zQ3]at this;omega
   generalize hg:zZ4 (v.s.data.toList.take f.width.toNat)=B at *
   refine⟨_,rfl,(yQv _ hbl p w9).mono ?_⟩
   rintro e aN ⟨rfl,dk⟩
   rw[zQQ]
   have j3:=cx.trans dk
   refine⟨_,rfl,Br.of (λd3=>out noV 10 (aU.trans j3) (b3 j3) rfl ?_) (λd3=>(kQj (bs B) aN).mono ?_)⟩
   ·rw[hF,show zXN B p=false by simpa using d3];rfl
   ·rintro e aV ⟨rfl,eI⟩
    refine⟨_,_,_,rfl,out ⟨4,0,bs B⟩ 0 (aU.trans (j3.trans eI)) (b3 (j3.trans eI)) rfl ?_⟩
    rw[hF,show zXN B p=true by simpa using d3];rfl
  ·have d2:=zQm d2
   rw[if_neg d2]at hF
   refine⟨_,cl q1 0,_,cl q1 1,_,cl q1 2,_,cl q1 3,_,cl q2 0,_,cl q2 1,_,cl q2 2,(yYt f p v w3).mono ?_⟩
   rintro e w9 ⟨rfl,cx⟩
   refine⟨_,rfl,Br.of (λd3=>out noV 10 (aU.trans cx) (b3 cx) rfl ?_) (λd3=>⟨_,cl (b2 cx) 0,_,cl (b2 cx) 1,_,cl (b2 cx) 2,out v 0 (aU.trans cx) (b3 cx) rfl ?_⟩)⟩
   ·rw[hF,show zQR f p v=false by simpa using d3];rfl
   ·rw[hF,show zQR f p v=true by simpa using d3];rfl
 have six:v.kind ≠ (zXr f).kind->zQS f p v=(noV,6):=λh=>by unfold zQS;rw[if_neg d0,if_pos h]
 refine Br.of (λd1=>⟨_,cl0 q2,Br.of (λd2=>out noV 6 aU q3 rfl (six ?_)) (λd2=>⟨_,cl q1 1,rest ?_ _ rfl⟩)⟩) (λd1=>⟨_,cl0 q2,Br.of (λd2=>out noV 6 aU q3 rfl (six ?_)) (λd2=>⟨_,cl q1 1,rest ?_ _ rfl⟩)⟩)
 ·unfold zXr;rw[if_pos (zQG d1)];exact zQ2 d2
 ·unfold zXr;rw[if_pos (zQG d1)];exact zQs d2
 ·unfold zXr;rw[if_neg (zQm d1)];exact zQ2 d2
 ·unfold zXr;rw[if_neg (zQm d1)];exact zQs d2
theorem xKN(f:Fld)(p:Int)(v:Val)(w:World):Calls prog 104 #[yQk f,.int .i64 p,zJ6 v] w λe w'=>
  e=.returned (.tuple #[zJ6 (zZT f p v).1,.int .i64 (zZT f p v).2])/\Pu w w':=by
 refine yV4 _ _ _ _ _ _ _ _ w _ ?_
 refine alB λw1 ar aB=>alB λw2 aq aM=>alB λw3 au bn=>?_
 have z1:w1.heap.size<=w2.heap.size:=aq.size
 have z0:w.heap.size<=w1.heap.size:=ar.size
 have aU:Pu w w3:=(ar.trans aq).trans au
 have out:∀{wz:World} (v':Val) (k:Int) {c:Array Value},Pu w wz->wz.heap[w2.heap.size]?=some (.cells c 73)->c.size=3->zZT f p v=(v',k)->
   stA prog 73 (⟨w2.heap.size,0,none⟩:Addr) #[.int .i64 v'.kind,.int .i64 v'.n,.string v'.s] wz λw'=>∃n0:Int,w'.cell? ((⟨w2.heap.size,0,none⟩:Addr).add 0)=some (.int .i64 n0)/\∃n1:Int,w'.cell? ((⟨w2.heap.size,0,none⟩:Addr).add 1)=some (.int .i64 n1)/\
    ∃s2:ByteArray,w'.cell? ((⟨w2.heap.size,0,none⟩:Addr).add 2)=some (.string s2)/\(Ending.returned (.tuple #[.agg #[.int .i64 n0,.int .i64 n1,.string s2],.int .i64 k])=.returned (.tuple #[zJ6 (zZT f p v).1,.int .i64 (zZT f p v).2])/\Pu w w'):=λ{wz} v' k {c} h1 h2 h3 h4=>
  retV (R:=λe w'=>e=.returned (.tuple #[zJ6 (zZT f p v).1,.int .i64 (zZT f p v).2])/\Pu w w') v' k h2 h3 λw' hf=>⟨by rw[h4],h1.andNew hf λi hi=>by have hi:i=w2.heap.size:=hi;omega⟩
 have b1:∀{wz},Pu w3 wz->wz.heap[w.heap.size]?=some (.cells #[.string f.name,.int .i64 f.kind,.int .i64 f.width,.bool f.null] 129):=λh=>h.blk (au.blk (aq.blk aB))
 have b2:∀{wz},Pu w3 wz->wz.heap[w1.heap.size]?=some (.cells #[.int .i64 v.kind,.int .i64 v.n,.string v.s] 73):=λh=>h.blk (au.blk aM)
 have b3:∀{wz},Pu w3 wz->wz.heap[w2.heap.size]?=some (.cells #[.int .i64 0,.int .i64 0,.string ⟨#[]⟩] 73):=λh=>h.blk bn
 have q0:=b1 (Pu.refl w3)
 refine⟨_,cl q0 0,_,cl q0 1,_,cl q0 2,_,cl q0 3,(yQF f w3).mono ?_⟩
 rintro e w4 ⟨rfl,aK⟩
 refine⟨_,rfl,Br.of (λd=>out noV 1 (aU.trans aK) (b3 aK) rfl (zJE (by simp at d;simp[d]))) (λd=>(yZw p w4).mono ?_)⟩
 have hfB:zQo f=true:=by simpa using d
 rintro e w5 ⟨rfl,aR⟩
 have co:=aK.trans aR
 refine⟨_,rfl,Br.of (λd=>out noV 1 (aU.trans co) (b3 co) rfl (zJE (by simp at d;simp[d]))) (λd=>?_)⟩
 have hpB:zQX p=true:=by simpa using d
 have hB:(zQo f && zQX p)=true:=by rw[hfB,hpB];rfl
 refine⟨_,cl (b2 co) 0,_,cl (b2 co) 1,_,cl (b2 co) 2,(yKi v w5).mono ?_⟩
 rintro e w6 ⟨rfl,bB⟩
 have cB:=co.trans bB
 refine⟨_,rfl,Br.of (λd=>out noV (zXk v) (aU.trans cB) (b3 cB) rfl (zK7 hB (zQ2 d))) (λd=>?_)⟩
 have hv:=zQs d
 refine⟨_,cl (b1 cB) 0,_,cl (b1 cB) 1,_,cl (b1 cB) 2,_,cl (b1 cB) 3,_,cl (b2 cB) 0,_,cl (b2 cB) 1,_,cl (b2 cB) 2,(xXy f p v hfB (by have:=(zKH hv).1;omega) w6).mono ?_⟩
 rintro e w7 ⟨rfl,cv⟩
 exact⟨_,_,_,_,rfl,out _ _ (aU.trans (cB.trans cv)) (b3 (cB.trans cv)) rfl (zJU hB hv)⟩
end Go.Proofs.YtaeecpjhfmcliaaGreatDoor
/- Table: rows of fields: which are right, and how wide they are. No condition. -/
namespace Go.Proofs.YtaeecpjhfmcliaaGreatDoor
open Go.Sh Go.RowKit Tryz
theorem zKQ{α:Type}[DecidableEq α]{l:List α}{x:α}:(l ++ [x]).Nodup ↔ l.Nodup/\x ∉ l:=by
 rw[List.nodup_append]
 constructor
 ·rintro⟨h1,_,h3⟩;exact⟨h1,λhx=>h3 x hx x (by simp) rfl⟩
 ·rintro⟨h1,h2⟩;exact⟨h1,by simp,λa ha b hb e=>by simp at hb;subst hb;subst e;exact h2 ha⟩
theorem zYe(l:List Fld):(zXo l:Int)<=l.length+1:=by
 unfold zXo
 have:=List.length_filter_le (·.null) l
 omega
theorem yWu {l:List Fld} {k:Nat} {f:Fld} (h:l[k]?=some f):((l.take (k+1)).filter (·.null)).length=((l.take k).filter (·.null)).length+(if f.null then 1 else 0):=by
 rw[zQD h,List.filter_append,List.length_append]
 cases hx:f.null <;> simp[hx]
theorem zWw {l:List Fld} {k:Nat} {f:Fld} (h:l[k]?=some f):((l.take (k+1)).filter (·.null)).length=if f.null then((l.take k).filter (·.null)).length+1 else((l.take k).filter (·.null)).length:=by
 rw[yWu h];cases f.null <;> rfl
theorem zWv{w:World}{s:SV}{l:List Fld}(h:zX3 w s l):Calls prog 203 #[.slice s.a s.len s.cap] w λe w'=>e=.returned (.int .i64 (zXo l:Nat))/\Pu w w':=by
 refine yWb _ w _ ?_
 have hlen:=h.len
 have hlim:=h.lim
 refine zQw l.length (λk t w'=>t.2=(k:Int)/\t.1=(((l.take k).filter (·.null)).length:Nat)/\Pu w w') ⟨rfl,rfl,Pu.refl _⟩ ?_
 rintro k J ⟨t1,t2⟩ w2 hk ⟨xI,sw,hp⟩ hJ
 obtain rfl:t2=(k:Int):=xI
 obtain rfl:t1=(((l.take k).filter (·.null)).length:Nat):=sw
 have hle:=List.length_filter_le (·.null) (l.take k)
 have xJ:=List.length_take_le k l
 dsimp only
 refine Br.of (λd=>?_) (λd=>?_)
 ·have aJ:k<l.length:=by have:=zQk d;omega
  obtain⟨f,hf⟩:=zQM aJ
  obtain⟨a,ha,hi,_,_,_,c0,c1,c2,c3⟩:=zJl (h.pu hp) hf
  refine⟨a,ha,by omega,by omega,_,c0,_,c1,_,c2,_,c3,yQA rfl s23.symm rfl λw4 aK yt dm=>⟨_,cl dm 3,?_⟩⟩
  have e:=zWw hf
  rw[zQa (n:=(k:Int)+1) (by omega) (by omega)]
  refine Br.of (λd1=>hJ _ _ aJ ⟨by dsimp only;omega,?_,hp.trans aK⟩) (λd1=>hJ _ _ aJ ⟨by dsimp only;omega,?_,hp.trans aK⟩)
  ·rw[if_pos d1]at e;dsimp only;rw[e,zQa (by omega) (by omega)];omega
  ·rw[if_neg (by rw[d1];simp)]at e;dsimp only;rw[e]
 ·have aJ:k=l.length:=by have:=zQd d;omega
  subst aJ
  rw[List.take_length]at *
  refine⟨rfl,by omega,?_,hp⟩
  rw[zQa (n:=((l.filter (·.null)).length:Int)+7) (by omega) (by omega),Int.tdiv_eq_ediv_of_nonneg (by omega),zQa (by omega) (by omega)]
  unfold zXo;congr 2
theorem xJ6{w:World}{s:SV}{l:List Fld}(h:zX3 w s l):Calls prog 131 #[.slice s.a s.len s.cap] w λe w'=>e=.returned (.int .i64 (zXo l:Nat))/\Pu w w':=by
 refine yWw _ w _ ?_
 have hlen:=h.len
 have hlim:=h.lim
 refine zQw l.length (λk t w'=>t.2=(k:Int)/\t.1=(((l.take k).filter (·.null)).length:Nat)/\Pu w w') ⟨rfl,rfl,Pu.refl _⟩ ?_
 rintro k J ⟨t1,t2⟩ w2 hk ⟨xI,sw,hp⟩ hJ
 obtain rfl:t2=(k:Int):=xI
 obtain rfl:t1=(((l.take k).filter (·.null)).length:Nat):=sw
 have hle:=List.length_filter_le (·.null) (l.take k)
 have xJ:=List.length_take_le k l
 dsimp only
 refine Br.of (λd=>?_) (λd=>?_)
 ·have aJ:k<l.length:=by have:=zQk d;omega
  obtain⟨f,hf⟩:=zQM aJ
  obtain⟨a,ha,hi,_,_,_,c0,c1,c2,c3⟩:=zJl (h.pu hp) hf
  refine⟨a,ha,by omega,by omega,_,c3,?_⟩
  have e:=zWw hf
  rw[zQa (n:=(k:Int)+1) (by omega) (by omega)]
  refine Br.of (λd1=>hJ _ _ aJ ⟨by dsimp only;omega,?_,hp⟩) (λd1=>hJ _ _ aJ ⟨by dsimp only;omega,?_,hp⟩)
  ·rw[if_pos d1]at e;dsimp only;rw[e,zQa (by omega) (by omega)];omega
  ·rw[if_neg (by rw[d1];simp)]at e;dsimp only;rw[e]
 ·have aJ:k=l.length:=by have:=zQd d;omega
  subst aJ
  rw[List.take_length]at *
  refine⟨rfl,by omega,?_,hp⟩
  rw[zQa (n:=((l.filter (·.null)).length:Int)+7) (by omega) (by omega),Int.tdiv_eq_ediv_of_nonneg (by omega),zQa (by omega) (by omega)]
  unfold zXo;congr 2
def WOk(l:List Fld):Prop:=∀f ∈ l,0<=f.width/\f.width<=254
theorem zXt{f:Fld}(h:zQo f=true):1<=f.width/\f.width<=254:=by
 unfold zQo zWI at h
 simp only[Bool.and_eq_true]at h
 have h:=h.2
 split at h
 ·simp at h;omega
 ·split at h
  ·simp at h;omega
  ·split at h
   ·simp at h;omega
   ·split at h
    ·simp at h;omega
    ·split at h
     ·simp at h;omega
     ·simp at h
theorem WOk.of{l:List Fld}(h:l.all zQo=true):WOk l:=λf hf=>by have:=zXt (List.all_eq_true.1 h f hf);omega
theorem zWF {l:List Fld} {k:Nat} {f:Fld} (h:l[k]?=some f):((l.take (k+1)).map (·.width)).sum=((l.take k).map (·.width)).sum+f.width:=by
 rw[zQD h,List.map_append,List.sum_append];simp
theorem zJs{l:List Fld}(h:WOk l):0<=(l.map (·.width)).sum/\(l.map (·.width)).sum<=254 * l.length:=by
 induction l with
 | nil=>simp
 | cons f l ih=>
  have h1:=h f (by simp)
  have h2:=ih λg hg=>h g (by simp[hg])
  simp only[List.map_cons,List.sum_cons,List.length_cons];omega
theorem WOk.take{l:List Fld}(h:WOk l)(k:Nat):WOk (l.take k):=λf hf=>h f (List.mem_of_mem_take hf)
theorem zYh{w:World}{s:SV}{l:List Fld}(h:zX3 w s l)(hw:WOk l):Calls prog 161 #[.slice s.a s.len s.cap] w λe w'=>e=.returned (.int .i64 (zXK l))/\Pu w w':=by
 refine yVO _ w _ ((zWv h).mono ?_)
 rintro e w1 ⟨rfl,ar⟩
 have hlen:=h.len
 have hlim:=h.lim
 have hn:=zYe l
 refine⟨_,rfl,?_⟩
 rw[zQa (by omega) (by omega)]
 refine zQw l.length (λk t w'=>t.2=(k:Int)/\t.1=1+((zXo l:Nat):Int)+((l.take k).map (·.width)).sum/\Pu w w') ⟨rfl,by simp,ar⟩ ?_
 rintro k J ⟨t1,t2⟩ w2 hk ⟨xI,sw,hp⟩ hJ
 obtain rfl:t2=(k:Int):=xI
 obtain rfl:t1=1+((zXo l:Nat):Int)+((l.take k).map (·.width)).sum:=sw
 have hs:=zJs (hw.take k)
 have xJ:=List.length_take_le k l
 dsimp only
 refine Br.of (λd=>?_) (λd=>?_)
 ·have aJ:k<l.length:=by have:=zQk d;omega
  obtain⟨f,hf⟩:=zQM aJ
  have hwf:=hw f (List.mem_of_getElem? hf)
  obtain⟨a,ha,hi,_,_,_,c0,c1,c2,c3⟩:=zJl (h.pu hp) hf
  refine⟨a,ha,by omega,by omega,_,c0,_,c1,_,c2,_,c3,yQA rfl s23.symm rfl λw4 aK yt dm=>⟨_,cl dm 2,?_⟩⟩
  rw[zQa (n:=(k:Int)+1) (by omega) (by omega),zQa (by omega) (by omega)]
  refine hJ _ _ aJ ⟨by dsimp only;omega,?_,hp.trans aK⟩
  dsimp only;rw[zWF hf];omega
 ·have aJ:k=l.length:=by have:=zQd d;omega
  subst aJ
  rw[List.take_length]
  exact⟨rfl,hp⟩
theorem xYx{w:World}{s:SV}{l:List Fld}(h:zX3 w s l)(hw:WOk l):Calls prog 92 #[.slice s.a s.len s.cap] w λe w'=>e=.returned (.int .i64 (zXK l))/\Pu w w':=by
 refine xQP _ w _ ((xJ6 h).mono ?_)
 rintro e w1 ⟨rfl,ar⟩
 have hlen:=h.len
 have hlim:=h.lim
 have hn:=zYe l
 refine⟨_,rfl,?_⟩
 rw[zQa (by omega) (by omega)]
 refine zQw l.length (λk t w'=>t.2=(k:Int)/\t.1=1+((zXo l:Nat):Int)+((l.take k).map (·.width)).sum/\Pu w w') ⟨rfl,by simp,ar⟩ ?_
 rintro k J ⟨t1,t2⟩ w2 hk ⟨xI,sw,hp⟩ hJ
 obtain rfl:t2=(k:Int):=xI
 obtain rfl:t1=1+((zXo l:Nat):Int)+((l.take k).map (·.width)).sum:=sw
 have hs:=zJs (hw.take k)
 have xJ:=List.length_take_le k l
 dsimp only
 refine Br.of (λd=>?_) (λd=>?_)
 ·have aJ:k<l.length:=by have:=zQk d;omega
  obtain⟨f,hf⟩:=zQM aJ
  have hwf:=hw f (List.mem_of_getElem? hf)
  obtain⟨a,ha,hi,_,_,_,c0,c1,c2,c3⟩:=zJl (h.pu hp) hf
  refine⟨a,ha,by omega,by omega,_,c2,?_⟩
  rw[zQa (n:=(k:Int)+1) (by omega) (by omega),zQa (by omega) (by omega)]
  refine hJ _ _ aJ ⟨by dsimp only;omega,?_,hp⟩
  dsimp only;rw[zWF hf];omega
 ·have aJ:k=l.length:=by have:=zQd d;omega
  subst aJ
  rw[List.take_length]
  exact⟨rfl,hp⟩
def yKt(l:List Fld)(g:Nat)(cap:Array Value)(p:Fld->Bool)(w0:World):Prop:=zQ6 prog g=true/\∀f ∈ l,∀w,Pu w0 w->Calls prog g (#[yQk f] ++ cap) w λe w'=>e=.returned (.bool (p f))/\Pu w w'
theorem zVG {p:Fld->Bool} {l:List Fld} {k:Nat} (h:∀f ∈ l.take k,p f=false) {f:Fld} (hf:l[k]?=some f) (hp:p f=true):l.findIdx? p=some k:=by
 have hk:k<l.length:=(List.getElem?_eq_some_iff.1 hf).1
 rw[List.findIdx?_eq_some_iff_getElem]
 refine⟨hk,?_,λj hj=>?_⟩
 ·rw[List.getElem?_eq_getElem hk]at hf;rw[Option.some.inj hf];exact hp
 ·have:=h l[j] (by rw[List.mem_take_iff_getElem];exact⟨j,by omega,rfl⟩)
  simpa using this
theorem zYS{w:World}{s:SV}{l:List Fld}(h:zX3 w s l){g:Nat}{cap:Array Value}{p:Fld->Bool}(hg:yKt l g cap p w):Calls prog 113 #[.slice s.a s.len s.cap,.func (.func g) #[] cap] w
  λe w'=>e=.returned (.int .i64 (match l.findIdx? p with|some k=>(k:Int)|none=>-1))/\Pu w w':=by
 refine yVk _ _ w _ ?_
 have hlen:=h.len
 have hlim:=h.lim
 refine zQw l.length (λk t w'=>t=(k:Int)/\(∀f ∈ l.take k,p f=false)/\Pu w w') ⟨rfl,by simp,Pu.refl _⟩ ?_
 rintro k J t w2 hk ⟨ht,hno,hp⟩ hJ
 obtain rfl:t=(k:Int):=ht
 refine Br.of (λd=>?_) (λd=>?_)
 ·have aJ:k<l.length:=by have:=zQk d;omega
  obtain⟨f,hf⟩:=zQM aJ
  obtain⟨a,ha,hi,_,_,_,c0,c1,c2,c3⟩:=zJl (h.pu hp) hf
  refine⟨a,ha,by omega,by omega,_,c0,_,c1,_,c2,_,c3,hg.1,?_⟩
  have e1:((#[]:Array Value).toList ++ (([yQk f]:List Value) ++ cap.toList)).toArray=#[yQk f] ++ cap:=by
   apply Array.ext';simp
  rw[e1]
  refine(hg.2 f (List.mem_of_getElem? hf) w2 hp).mono ?_
  rintro e w3 ⟨rfl,au⟩
  refine⟨_,rfl,Br.of (λd1=>⟨by rw[zVG hno hf d1],hp.trans au⟩) (λd1=>?_)⟩
  rw[zQa (by omega) (by omega)]
  refine hJ _ _ aJ ⟨by omega,λf' hf'=>?_,hp.trans au⟩
  rw[zQD hf,List.mem_append,List.mem_singleton]at hf'
  rcases hf' with hf'|rfl
  ·exact hno f' hf'
  ·exact d1
 ·have aJ:k=l.length:=by have:=zQd d;omega
  subst aJ
  rw[List.take_length]at hno
  have:l.findIdx? p=none:=by rw[List.findIdx?_eq_none_iff];exact λx hx=>by rw[hno x hx]
  exact⟨by rw[this],hp⟩
theorem yQh{w:World}{s:SV}{l:List Fld}(h:zX3 w s l){g:Nat}{cap:Array Value}{p:Fld->Bool}(hg:yKt l g cap p w):Calls prog 178 #[.slice s.a s.len s.cap,.func (.func g) #[] cap] w
  λe w'=>e=.returned (.bool (l.any p))/\Pu w w':=by
 refine yW2 _ _ w _ ((zYS h hg).mono ?_)
 rintro e w2 ⟨rfl,hp⟩
 refine⟨_,rfl,?_,hp⟩
 cases hx:l.findIdx? p with
 | none=>
  rw[List.findIdx?_eq_none_iff]at hx
  have:l.any p=false:=by rw[List.any_eq_false];exact λx hx'=>by rw[hx x hx'];simp
  rw[this];rfl
 | some k=>
  rw[List.findIdx?_eq_some_iff_getElem]at hx
  obtain⟨h1,h2,_⟩:=hx
  have:l.any p=true:=List.any_eq_true.2 ⟨_,List.getElem_mem h1,h2⟩
  rw[this]
  dsimp only
  rw[decide_eq_true (by omega)]
theorem yWi(f:Fld)(hs:f.name.size<=140737488355328)(w:World):Calls prog 179 #[yQk f] w λe w'=>e=.returned (.bool (!zQo f))/\Pu w w':=by
 refine yWh _ _ _ _ w _ (alB λw1 ar aB=>⟨_,cl aB 0,_,cl aB 1,_,cl aB 2,_,cl aB 3,(yXP f hs w1).mono ?_⟩)
 rintro e w2 ⟨rfl,aq⟩
 exact⟨_,rfl,rfl,ar.trans aq⟩
theorem u88:prog.underlying 206=some (.map 9 4):=by kernel_rfl
abbrev strK(s:ByteArray):Value:=.string s
abbrev xYO(b:Bool):Value:=.bool b
theorem keysS:yKB prog 9 strK:=xJb (by kernel_rfl)
theorem z4(w:World):(zeroValue 4).run prog w=.ok (.bool false) w:=Tryz.zeroValue4 w
def yQZ(l:List Fld):List (ByteArray × Bool):=l.map λf=>(f.name,true)
theorem yQX(l:List Fld):(yQZ l).map Prod.fst=l.map (·.name):=by simp[yQZ]
noncomputable instance memDec (x : ByteArray) (l : List ByteArray) : Decidable (x ∈ l) := Classical.propDecidable _
theorem xQX(l:List Fld)(x:ByteArray):(AL.get (yQZ l) x).elim (.bool false) xYO=.bool (decide (x ∈ l.map (·.name))):=by
 by_cases h:x ∈ l.map (·.name)
 ·rw[decide_eq_true h]
  cases hg:AL.get (yQZ l) x with
  | none=>rw[AL.get_none,yQX]at hg;exact absurd h hg
  | some v=>
   have:=AL.get_mem hg
   simp only[yQZ,List.mem_map]at this
   obtain⟨f,_,he⟩:=this
   cases he;rfl
 ·rw[decide_eq_false h,(AL.get_none).2 (by rw[yQX];exact h)];rfl
theorem zVK:zQV []=1:=by unfold zQV;rw[if_pos (.inl rfl)]
theorem yQU{l:List Fld}(h:l.all zQo=false):zQV l=1:=by unfold zQV;rw[if_pos (.inr h)]
theorem yQG {l:List Fld} (h0:l ≠ []) (h:l.all zQo=true) (h2:¬(l.map (·.name)).Nodup):zQV l=5:=by unfold zQV;rw[if_neg (by simp[h0,h]),if_pos h2]
theorem yQt {l:List Fld} (h0:l ≠ []) (h:l.all zQo=true) (h2:(l.map (·.name)).Nodup):zQV l=if 16<l.length∨2000<zXK l then 3 else 0:=by unfold zQV;rw[if_neg (by simp[h0,h]),if_neg (by simp[h2])]
theorem zJ1 {l:List Fld} {k:Nat} {f:Fld} (h:l[k]?=some f):(l.take (k+1)).map (·.name)=(l.take k).map (·.name) ++ [f.name]:=by
 rw[zQD h,List.map_append];rfl
theorem zWR {l:List Fld} {k:Nat} (h:¬((l.take k).map (·.name)).Nodup):¬(l.map (·.name)).Nodup:=λhn=>h (by
 rw[List.map_take];exact hn.sublist (List.take_sublist _ _))
theorem zZP{w:World}{s:SV}{l:List Fld}(h:zX3 w s l)(hl:Lim.ok l):Calls prog 141 #[.slice s.a s.len s.cap] w λe w'=>e=.returned (.int .i64 (zQV l))/\Pu w w':=by
 refine yKY _ w _ ?_
 have hlen:=h.len
 have hlim:=h.lim
 have nm:∀f ∈ l,f.name.size<=140737488355328:=λf hf=>hl f hf
 refine Br.of (λd=>?_) (λd=>?_)
 ·have:l=[]:=List.length_eq_zero_iff.1 (by have:=zQG d;omega)
  subst this;exact⟨by rw[zVK],Pu.refl _⟩
 have h0:l ≠ []:=λe=>by subst e;exact zQm d (by rw[hlen];rfl)
 have tells:yKt l 179 #[] (λf=>!zQo f) w:=⟨by kernel_rfl,λf hf w2 _=>yWi f (nm f hf) w2⟩
 refine(yQh h tells).mono ?_
 rintro e w1 ⟨rfl,ar⟩
 have hany:l.any (λf=>!zQo f)=!l.all zQo:=by rw[List.all_eq_not_any_not];simp
 refine⟨_,rfl,?_⟩
 rw[hany]
 refine Br.of (λd1=>⟨by rw[yQU (by simpa using d1)],ar⟩) (λd1=>?_)
 have hall:l.all zQo=true:=by simpa using d1
 refine zY2 λw2 nA=>?_
 have aq:Pu w1 w2:=by rw[nA];exact Pu.alloc w1 _
 have yu:zXE w2 strK xYO w1.heap.size ([]:List (ByteArray × Bool)):=by rw[nA];exact zXE.new w1 _ _
 have z1:=ar.size
 refine zQw l.length (λk t w'=>t=(k:Int)/\zXE w' strK xYO w1.heap.size (yQZ (l.take k))/\((l.take k).map (·.name)).Nodup/\Pu w w') ⟨rfl,yu,by simp,ar.trans aq⟩ ?_
 rintro k J t w3 hk ⟨ht,hm,hnd,hp⟩ hJ
 obtain rfl:t=(k:Int):=ht
 refine Br.of (λd2=>?_) (λd2=>?_)
 ·have aJ:k<l.length:=by have:=zQk d2;omega
  obtain⟨f,hf⟩:=zQM aJ
  obtain⟨a,ha,hi,_,_,_,c0,c1,c2,c3⟩:=zJl (h.pu hp) hf
  refine⟨a,ha,by omega,by omega,_,c0,_,c1,_,c2,_,c3,yQA rfl s23.symm rfl λw4 aK yt dm=>⟨_,cl0 dm,decide (f.name ∈ (l.take k).map (·.name)),w4,?_,?_⟩⟩
  ·have:=(hm.pu aK).look keysS u88 (z4 w4) f.name false
   rw[xQX]at this;exact this
  refine Br.of (λd3=>⟨?_,hp.trans aK⟩) (λd3=>⟨_,cl0 dm,?_⟩)
  ·rw[yQG h0 hall (zWR (k:=k+1) (by rw[zJ1 hf,zKQ];exact λh=>h.2 (zQk d3)))]
  ·obtain⟨w5,e5,h5,f5,_⟩:=(hm.pu aK).upd keysS u88 f.name true
   refine⟨w5,e5,?_⟩
   rw[zQa (by omega) (by omega)]
   have hput:AL.put (yQZ (l.take k)) f.name true=yQZ (l.take (k+1)):=by
    rw[AL.put_new ((AL.get_none).2 (by rw[yQX];exact zQd d3))]
    simp only[yQZ]
    rw[zQD hf,List.map_append];rfl
   rw[hput]at h5
   refine hJ _ _ aJ ⟨by omega,h5,by rw[zJ1 hf,zKQ];exact⟨hnd,zQd d3⟩,(hp.trans aK).andNew f5 λi hi=>by have hi:i=w1.heap.size:=hi;omega⟩
 ·have aJ:k=l.length:=by have:=zQd d2;omega
  subst aJ
  rw[List.take_length]at hnd
  have he:=yQt h0 hall hnd
  refine Br.of (λd3=>⟨by rw[he,if_pos (.inl (by have:=zQk d3;omega))],hp⟩) (λd3=>(zYh (h.pu hp) (WOk.of hall)).mono ?_)
  rintro e w4 ⟨rfl,aK⟩
  refine⟨_,rfl,Br.of (λd4=>⟨by rw[he,if_pos (.inr (zQk d4))],hp.trans aK⟩) (λd4=>⟨by rw[he,if_neg (by have:=zQd d4;have:=zQd d3;omega)],hp.trans aK⟩)⟩
theorem yQn{w:World}{s:SV}{l:List Fld}(h:zX3 w s l):Calls prog 53 #[.slice s.a s.len s.cap] w λe w'=>e=.returned (.int .i64 (zQV l))/\Pu w w':=by
 refine xXr _ w _ ?_
 have hlen:=h.len
 have hlim:=h.lim
 refine Br.of (λd=>?_) (λd=>?_)
 ·have:l=[]:=List.length_eq_zero_iff.1 (by have:=zQG d;omega)
  subst this;exact⟨by rw[zVK],Pu.refl _⟩
 have h0:l ≠ []:=λe=>by subst e;exact zQm d (by rw[hlen];rfl)
 refine zQw l.length (λk t w'=>t=(k:Int)/\(l.take k).all zQo=true/\Pu w w') ⟨rfl,rfl,Pu.refl _⟩ ?_
 rintro k J t w2 hk ⟨ht,hal,hp⟩ hJ
 obtain rfl:t=(k:Int):=ht
 refine Br.of (λd1=>?_) (λd1=>?_)
 ·have aJ:k<l.length:=by have:=zQk d1;omega
  obtain⟨f,hf⟩:=zQM aJ
  obtain⟨a,ha,hi,_,_,_,c0,c1,c2,c3⟩:=zJl (h.pu hp) hf
  refine⟨a,ha,by omega,by omega,_,c0,_,c1,_,c2,_,c3,(yQF f w2).mono ?_⟩
  rintro e w3 ⟨rfl,au⟩
  refine⟨_,rfl,Br.of (λd2=>⟨?_,hp.trans au⟩) (λd2=>?_)⟩
  ·rw[yQU (by rw[List.all_eq_false];exact⟨f,List.mem_of_getElem? hf,by simpa using d2⟩)]
  ·rw[zQa (by omega) (by omega)]
   exact hJ _ _ aJ ⟨by omega,by rw[zJX _ hf,hal,show zQo f=true by simpa using d2];rfl,hp.trans au⟩
 have aJ:k=l.length:=by have:=zQd d1;omega
 subst aJ
 rw[List.take_length]at hal
 clear hJ J d1
 refine zQw l.length (λk t w'=>t=(k:Int)/\((l.take k).map (·.name)).Nodup/\Pu w w') ⟨rfl,by simp,hp⟩ ?_
 rintro k J t w3 hk ⟨ht,hnd,hp⟩ hJ
 obtain rfl:t=(k:Int):=ht
 refine Br.of (λd1=>?_) (λd1=>?_)
 ·have aJ:k<l.length:=by have:=zQk d1;omega
  obtain⟨f,hf⟩:=zQM aJ
  refine zQw k (λj t w'=>t=(j:Int)/\f.name ∉ (l.take j).map (·.name)/\Pu w w') ⟨rfl,by simp,hp⟩ ?_
  rintro j J2 t w4 hj ⟨ht,hno,aK⟩ hJ2
  obtain rfl:t=(j:Int):=ht
  refine Br.of (λd2=>?_) (λd2=>?_)
  ·have kj:j<k:=by have:=zQk d2;omega
   obtain⟨g,hg⟩:=zQM (show j<l.length by omega)
   refine zQc λw5 aR _=>?_
   obtain⟨a,ha,hi,_,_,c,c0,c1,c2,c3⟩:=zJl (h.pu (aK.trans aR)) hf
   obtain⟨a',ha',hi',_,_,c',c0',pk,c2',c3'⟩:=zJl (h.pu (aK.trans aR)) hg
   refine⟨a,ha,by omega,by omega,_,c,a',ha',by omega,by omega,_,c',?_⟩
   rw[zX8]
   refine Br.of (λd3=>⟨?_,aK.trans aR⟩) (λd3=>?_)
   ·rw[yQG h0 hal (zWR (k:=k+1) (by
     rw[zJ1 hf,zKQ]
     refine λh=>h.2 ?_
     rw[zQk d3]
     exact List.mem_map.2 ⟨g,by rw[List.mem_take_iff_getElem];exact⟨j,by omega,by rw[List.getElem?_eq_getElem (by omega)]at hg;exact Option.some.inj hg⟩,rfl⟩))]
   ·rw[zQa (by omega) (by omega)]
    refine hJ2 _ _ kj ⟨by omega,?_,aK.trans aR⟩
    rw[zJ1 hg,List.mem_append,List.mem_singleton]
    exact λh=>h.elim hno (zQd d3)
  ·have kj:j=k:=by have:=zQd d2;omega
   subst kj
   show J (IntKind.i64.wrap ((j:Int)+1)) w4
   rw[zQa (by omega) (by omega)]
   exact hJ _ _ aJ ⟨by omega,by rw[zJ1 hf,zKQ];exact⟨hnd,hno⟩,aK⟩
 ·have aJ:k=l.length:=by have:=zQd d1;omega
  subst aJ
  rw[List.take_length]at hnd
  have he:=yQt h0 hal hnd
  refine Br.of (λd3=>⟨by rw[he,if_pos (.inl (by have:=zQk d3;omega))],hp⟩) (λd3=>(xYx (h.pu hp) (WOk.of hal)).mono ?_)
  rintro e w4 ⟨rfl,aK⟩
  refine⟨_,rfl,Br.of (λd4=>⟨by rw[he,if_pos (.inr (zQk d4))],hp.trans aK⟩) (λd4=>⟨by rw[he,if_neg (by have:=zQd d4;have:=zQd d3;omega)],hp.trans aK⟩)⟩
end Go.Proofs.YtaeecpjhfmcliaaGreatDoor
/- Table: which tables are right. No condition. -/
namespace Go.Proofs.YtaeecpjhfmcliaaGreatDoor
open Go.Sh Go.RowKit Tryz
theorem xZE:yXd prog 73 [some .i64,some .i64,none]=true:=by kernel_rfl
theorem xQ0:prog.eqGuardType prog.depth 73=false:=by kernel_rfl
theorem yKc{a b:Val}(h:zVN a=zVN b):a=b:=by
 obtain⟨a1,a2,a3⟩:=a;obtain⟨b1,b2,b3⟩:=b
 simp[zVN]at h;simp[h]
theorem eqVal(x y:Operand)(a b:Val)(w:World):(eqS .eql 73 x y (zJ6 a) (zJ6 b)).run prog w=.ok (.bool (decide (a=b))) w:=by
 refine eqS_row (ks:=[some .i64,some .i64,none]) (xs:=zVN a) (ys:=zVN b) xZE xQ0 rfl rfl ?_ w
 rw[decide_eq_true_iff]
 exact⟨λh=>by rw[h],yKc⟩
theorem xZ5 {l:List UInt8} {w:Nat} (h:zZ4 (l.take w)=l):l.length<=w/\zZ4 l=l:=by
 have h1:=yXu (l.take w)
 rw[h]at h1
 have h2:=List.length_take_le w l
 have h3:l.length<=w:=by omega
 rw[List.take_of_length_le h3]at h
 exact⟨h3,h⟩
theorem fitted_holds{f:Fld}{p:Int}{v:Val}(hf:zQo f=true)(hv:zXk v=0)(hk:v.kind ≠ 0):(decide ((zQS f p v).2=0) && decide ((zQS f p v).1=v))=zQR f p v:=by
 have nw:¬zXk v ≠ 0:=by omega
 obtain⟨hvs,hvn,hv4⟩:=zKH hv
 unfold zQS
 rw[if_neg hk]
 by_cases h1:v.kind ≠ (zXr f).kind
 ·rw[if_pos h1]
  have:zQR f p v=false:=by
   unfold zQR;rw[if_neg nw,if_neg hk]
   by_cases h5:f.kind=5
   ·have:v.kind ≠ 2:=by unfold zXr at h1;rw[if_pos h5]at h1;exact h1
    rw[if_pos h5,decide_eq_false this];rfl
   ·have:v.kind ≠ f.kind:=by unfold zXr at h1;rw[if_neg h5]at h1;exact h1
    rw[if_neg h5,if_pos this]
  rw[this];simp
 rw[if_neg h1]
 by_cases h4:f.kind=4
 ·rw[if_pos h4]
  have hkv:v.kind=4:=by
   have:v.kind=(zXr f).kind:=by simpa using h1
   rw[this];unfold zXr;rw[if_neg (by omega)];exact h4
  have qm:v.n=0:=by rw[hkv]at hvn;simpa[okN] using hvn
  have hfit:zQR f p v=(decide ((v.s.size:Int)<=f.width) && decide (zZ4 v.s.data.toList=v.s.data.toList) && zXN v.s.data.toList p):=by
   unfold zQR;rw[if_neg nw,if_neg hk,if_neg (by omega),if_neg (by rw[hkv,h4];simp),if_neg (by omega),if_pos h4]
  obtain⟨wl,wh⟩:=zYa hf h4
  have key:(zZ4 (v.s.data.toList.take f.width.toNat)=v.s.data.toList) ↔ ((v.s.size:Int)<=f.width/\zZ4 v.s.data.toList=v.s.data.toList):=by
   constructor
   ·intro h;have h2:=xZ5 h;rw[zQ3]at h2;exact⟨by omega,h2.2⟩
   ·rintro⟨h2,h3⟩;rw[List.take_of_length_le (by rw[zQ3];omega)];exact h3
  have eqv:(⟨4,0,bs (zZ4 (v.s.data.toList.take f.width.toNat))⟩:Val)=v ↔ zZ4 (v.s.data.toList.take f.width.toNat)=v.s.data.toList:=by
   rw[←yZd]
   obtain⟨k,n,s⟩:=v
   simp only at hkv qm
   subst hkv qm
   simp
  have sA:(decide ((v.s.size:Int)<=f.width) && decide (zZ4 v.s.data.toList=v.s.data.toList))=decide (zZ4 (v.s.data.toList.take f.width.toNat)=v.s.data.toList):=by rw[←Bool.decide_and];exact zZ9 key.symm
  rw[hfit,sA]
  by_cases hb:zZ4 (v.s.data.toList.take f.width.toNat)=v.s.data.toList
  ·rw[decide_eq_true hb,hb]
   cases ht:zXN v.s.data.toList p
   ·simp
   ·rw[if_pos rfl]
    have h9:=eqv.2 hb
    rw[hb]at h9
    simp[h9]
  ·rw[decide_eq_false hb]
   cases ht:zXN (zZ4 (v.s.data.toList.take f.width.toNat)) p
   ·simp
   ·rw[if_pos rfl]
    have h9:¬(⟨4,0,bs (zZ4 (v.s.data.toList.take f.width.toNat))⟩:Val)=v:=λh=>hb (eqv.1 h)
    simp[h9]
 ·rw[if_neg h4]
  cases hfit:zQR f p v
  ·simp
  ·simp
theorem kQr(f:Fld)(p:Int)(v:Val)(hs:f.name.size<=140737488355328)(hf:zQo f=true)(hpg:zQX p=true)(w:World):Calls prog 142 #[yQk f,.int .i64 p,zJ6 v] w λe w'=>e=.returned (.bool (zQR f p v))/\Pu w w':=by
 refine yWz _ _ _ _ _ _ _ _ w _ ?_
 refine alB λw1 ar aB=>alB λw2 aq aM=>?_
 have aG:=ar.trans aq
 have b1:∀{wz},Pu w2 wz->wz.heap[w.heap.size]?=some (.cells #[.string f.name,.int .i64 f.kind,.int .i64 f.width,.bool f.null] 129):=λh=>h.blk (aq.blk aB)
 have b2:∀{wz},Pu w2 wz->wz.heap[w1.heap.size]?=some (.cells #[.int .i64 v.kind,.int .i64 v.n,.string v.s] 73):=λh=>h.blk aM
 have q1:=b1 (Pu.refl w2)
 have q2:=b2 (Pu.refl w2)
 have out:∀{wz:World} {b:Bool},Pu w wz->zQR f p v=b->(Ending.returned (Value.bool b)=Ending.returned (Value.bool (zQR f p v))/\Pu w wz):=λh1 h2=>⟨by rw[h2],h1⟩
 have bad:zXk v ≠ 0->zQR f p v=false:=λh=>by unfold zQR;rw[if_pos h]
 refine⟨_,cl0 q2,Br.of (λd=>⟨_,cl q1 3,?_⟩) (λd=>⟨_,cl q2 0,_,cl q2 1,_,cl q2 2,(xQD v w2).mono ?_⟩)⟩
 ·have d:=zQG d
  have key:(f.null && decide (v=noV))=zQR f p v:=by
   by_cases h:zXk v ≠ 0
   ·rw[bad h]
    have:¬v=noV:=λe=>h (by rw[e];rfl)
    rw[decide_eq_false this];simp
   ·have h:zXk v=0:=by simpa using h
    obtain⟨_,h2,h3⟩:=zKH h
    have hn:v.n=0:=by rw[d]at h2;simpa[okN] using h2
    have hz:v.s.size=0:=h3.resolve_left (by omega)
    have:v=noV:=by
     obtain⟨k,n,s⟩:=v
     simp only at d hn hz
     subst d hn
     have:s=⟨#[]⟩:=zQU (by
      have:s.data.toList.length=0:=by rw[zQ3];exact hz
      rw[List.length_eq_zero_iff]at this;rw[this])
     subst this;rfl
    rw[decide_eq_true this]
    unfold zQR;rw[if_neg (by omega),if_pos d];simp
  refine Br.of (λd1=>⟨_,cl q2 0,_,cl q2 1,_,cl q2 2,_,w2,eqVal _ _ v noV w2,out aG ?_⟩) (λd1=>out aG ?_)
  ·rw[←key,d1];rfl
  ·rw[←key,d1];rfl
 rintro e w3 ⟨rfl,au⟩
 have aU:=aG.trans au
 refine⟨_,rfl,Br.of (λd1=>out aU (bad (zQ2 d1))) (λd1=>⟨_,cl (b1 au) 0,_,cl (b1 au) 1,_,cl (b1 au) 2,_,cl (b1 au) 3,_,cl (b2 au) 0,_,cl (b2 au) 1,_,cl (b2 au) 2,(fit_c f p v hs w3).mono ?_⟩)⟩
 have hv:=zQs d1
 have hF:=zJU (f:=f) (p:=p) (v:=v) (by rw[hf,hpg];rfl) hv
 have key:=fitted_holds (f:=f) (p:=p) hf hv (zQm d)
 rintro e w4 ⟨rfl,aK⟩
 rw[hF]
 refine⟨_,_,_,_,rfl,yQA rfl s25.symm rfl λw5 aR oL bo=>?_⟩
 have co:=(au.trans aK).trans aR
 have cI:=aG.trans co
 refine Br.of (λd2=>⟨_,cl bo 0,_,cl bo 1,_,cl bo 2,_,cl (b2 co) 0,_,cl (b2 co) 1,_,cl (b2 co) 2,_,w5,eqVal _ _ (zQS f p v).1 v w5,out cI ?_⟩) (λd2=>out cI ?_)
 ·rw[←key,decide_eq_true (zQG d2)];rfl
 ·rw[←key,decide_eq_false (zQm d2)];rfl
theorem xXF {l:List Fld} {vs:List Val} {i:Nat} {f:Fld} {v:Val} (h:l[i]?=some f) (h2:vs[i]?=some v):(l.zip vs)[i]?=some (f,v):=by
 rw[List.getElem?_zip_eq_some];exact⟨h,h2⟩
def zKq(l:List Fld)(p:Int)(vs:List Val):Bool:=(l.zip vs).all (λx=>zQR x.1 p x.2)
theorem zVk{l:List Fld}{p:Int}{r:Rec}(h:r.v.length ≠ l.length):zQ0 l p r=10:=by unfold zQ0;rw[if_pos h]
theorem zJz{l:List Fld}{p:Int}{r:Rec}(h:r.v.length=l.length):zQ0 l p r=if zKq l p r.v then 0 else 1:=by unfold zQ0;rw[if_neg (by simp[h])];rfl
theorem zWl{w:World}{s t:SV}{l:List Fld}{r:Rec}(p:Int)(h:zX3 w s l)(hr:zX3 w t r.v):Calls prog 54 #[.slice s.a s.len s.cap,.int .i64 p,.agg #[.bool r.gone,.slice t.a t.len t.cap]] w λe w'=>e=.returned (.int .i64 (zQ0 l p r))/\Pu w w':=by
 refine xQv _ _ _ _ w _ ?_
 refine alB λw1 ar aB=>⟨t,cl aB 1,?_⟩
 have h1:=h.len
 have h2:=hr.len
 have h3:=h.lim
 refine Br.of (λd=>⟨by rw[zVk (by have:=zQ2 d;omega)],ar⟩) (λd=>?_)
 have hl:r.v.length=l.length:=by have:=zQs d;omega
 refine zQw l.length (λk u w'=>u=(k:Int)/\((l.zip r.v).take k).all (λx=>zQR x.1 p x.2)=true/\Pu w1 w') ⟨rfl,rfl,Pu.refl _⟩ ?_
 rintro k J u w2 hk ⟨hu,hal,aq⟩ hJ
 obtain rfl:u=(k:Int):=hu
 refine Br.of (λd1=>?_) (λd1=>?_)
 ·have aJ:k<l.length:=by have:=zQk d1;omega
  obtain⟨f,hf⟩:=zQM aJ
  obtain⟨v,hv⟩:=zQM (show k<r.v.length by omega)
  refine zQc λw3 au _=>?_
  have bj:=aq.trans au
  obtain⟨a,ha,hi,_,_,c,c0,c1,c2,c3⟩:=zJl ((h.pu ar).pu bj) hf
  obtain⟨b,hb,hbi,_,_,e0,e1,e2⟩:=yWl ((hr.pu ar).pu bj) hv
  refine⟨a,ha,by omega,by omega,_,c0,_,c1,_,c2,_,c3,t,cl (bj.blk aB) 1,b,hb,by omega,by omega,_,e0,_,e1,_,e2,(yYt f p v w3).mono ?_⟩
  rintro e w4 ⟨rfl,aK⟩
  have hz:=xXF hf hv
  refine⟨_,rfl,Br.of (λd2=>⟨?_,ar.trans (bj.trans aK)⟩) (λd2=>?_)⟩
  ·have:zKq l p r.v=false:=by unfold zKq;rw[List.all_eq_false];exact⟨_,List.mem_of_getElem? hz,by simpa using d2⟩
   rw[zJz hl,this];rfl
  ·rw[zQa (by omega) (by omega)]
   exact hJ _ _ aJ ⟨by omega,by rw[zJX _ hz,hal,show zQR f p v=true by simpa using d2];rfl,bj.trans aK⟩
 ·have aJ:k=l.length:=by have:=zQd d1;omega
  have:zKq l p r.v=true:=by unfold zKq;rw[←hal,List.take_of_length_le (by rw[List.length_zip];omega)]
  exact⟨by rw[zJz hl,this];rfl,ar.trans aq⟩
theorem zJN{l:List Fld}{p:Int}:∀{rs:List Rec} {k:Nat} {r:Rec},(∀x ∈ rs.take k,zQ0 l p x=0)->rs[k]?=some r->zQ0 l p r ≠ 0->zXw l p rs=zQ0 l p r
 | [],k,r,_,h,_=>by simp at h
 | x :: rs,0,r,_,h,h2=>by simp at h;subst h;unfold zXw;rw[if_pos h2]
 | x :: rs,k+1,r,h0,h,h2=>by
  unfold zXw
  rw[if_neg (by rw[h0 x (by simp)];simp)]
  exact zJN (k:=k) (λy hy=>h0 y (by simp[hy])) (by simpa using h) h2
theorem zJV{l:List Fld}{p:Int}:∀{rs:List Rec},(∀x ∈ rs,zQ0 l p x=0)->zXw l p rs=0
 | [],_=>rfl
 | x :: rs,h=>by unfold zXw;rw[if_neg (by rw[h x (by simp)];simp)];exact zJV λy hy=>h y (by simp[hy])
theorem zYY{t:Tbl}(h:zQX t.page=false):zQf t=1:=by unfold zQf;rw[h];rfl
theorem zWH{t:Tbl}(h:zQX t.page=true)(h2:zQV t.fields ≠ 0):zQf t=zQV t.fields:=by unfold zQf;rw[h,if_pos rfl,if_pos h2]
theorem zY6{t:Tbl}(h:zQX t.page=true)(h2:zQV t.fields=0)(h3:300<t.recs.length):zQf t=3:=by unfold zQf;rw[h,if_pos rfl,if_neg (by omega),if_pos h3]
theorem zYC{t:Tbl}(h:zQX t.page=true)(h2:zQV t.fields=0)(h3:¬300<t.recs.length):zQf t=zXw t.fields t.page t.recs:=by unfold zQf;rw[h,if_pos rfl,if_neg (by omega),if_neg h3]
theorem zXn{l:List Fld}(h:zQV l=0):l ≠ []/\l.all zQo=true/\(l.map (·.name)).Nodup/\l.length<=16/\zXK l<=2000:=by
 unfold zQV at h
 split at h
 ·omega
 ·rename_i h1
  split at h
  ·omega
  ·rename_i h2
   split at h
   ·omega
   ·rename_i h3
    simp only[not_or]at h1 h3
    exact⟨h1.1,by simpa using h1.2,by simpa using h2,by omega,by omega⟩
abbrev zVb(t:Tbl)(f r:SV):Value:=.agg #[.int .i64 t.page,.slice f.a f.len f.cap,.slice r.a r.len r.cap]
theorem yJs{w:World}{t:Tbl}{f r:SV}(h:zX2 w t f r):Calls prog 13 #[zVb t f r] w λe w'=>e=.returned (.int .i64 (zQf t))/\Pu w w':=by
 refine xXb _ _ _ w _ ?_
 refine alB λw1 ar aB=>⟨_,cl0 aB,(yZw t.page w1).mono ?_⟩
 rintro e w2 ⟨rfl,aq⟩
 have h1:=h.recs.len
 have h3:=h.recs.lim
 refine⟨_,rfl,Br.of (λd=>⟨by rw[zYY (by simpa using d)],ar.trans aq⟩) (λd=>⟨_,cl (aq.blk aB) 1,(yQn (h.fields.pu (ar.trans aq))).mono ?_⟩)⟩
 have hpg:zQX t.page=true:=by simpa using d
 rintro e w3 ⟨rfl,au⟩
 have bj:=aq.trans au
 refine⟨_,rfl,Br.of (λd1=>⟨by rw[zWH hpg (zQ2 d1)],ar.trans bj⟩) (λd1=>⟨_,cl (bj.blk aB) 2,Br.of (λd2=>⟨by rw[zY6 hpg (zQs d1) (by have:=zQk d2;omega)],ar.trans bj⟩) (λd2=>?_)⟩)⟩
 have hvf:=zQs d1
 have e0:=zYC hpg hvf (by have:=zQd d2;omega)
 refine zQw t.recs.length (λk u w'=>u=(k:Int)/\(∀x ∈ t.recs.take k,zQ0 t.fields t.page x=0)/\Pu w1 w') ⟨rfl,by simp,bj⟩ ?_
 rintro k J u w4 hk ⟨hu,hal,aK⟩ hJ
 obtain rfl:u=(k:Int):=hu
 refine⟨_,cl (aK.blk aB) 2,Br.of (λd3=>zQc λw5 aR _=>?_) (λd3=>?_)⟩
 ·have aJ:k<t.recs.length:=by have:=zQk d3;omega
  obtain⟨x,hx⟩:=zQM aJ
  have fj:=aK.trans aR
  obtain⟨a,q,ha,hi,hq,c0,c1⟩:=zWk ((h.recs.pu ar).pu fj) hx
  refine⟨_,cl (fj.blk aB) 1,_,cl0 (fj.blk aB),_,cl (fj.blk aB) 2,a,ha,by omega,by omega,_,c0,_,c1,(zWl t.page ((h.fields.pu ar).pu fj) hq).mono ?_⟩
  rintro e w6 ⟨rfl,bB⟩
  refine⟨_,rfl,Br.of (λd4=>⟨by rw[e0,zJN hal hx (zQ2 d4)],ar.trans (fj.trans bB)⟩) (λd4=>?_)⟩
  rw[zQa (by omega) (by omega)]
  refine hJ _ _ aJ ⟨by omega,λy hy=>?_,fj.trans bB⟩
  rw[zQD hx,List.mem_append,List.mem_singleton]at hy
  rcases hy with hy|rfl
  ·exact hal y hy
  ·exact zQs d4
 ·have aJ:k=t.recs.length:=by have:=zQd d3;omega
  subst aJ
  rw[List.take_length]at hal
  exact⟨by rw[e0,zJV hal],ar.trans aK⟩
theorem zZ7{w:World}{t:Tbl}{f r:SV}(h:zX2 w t f r)(hl:Lim.ok t.fields):Calls prog 106 #[zVb t f r] w λe w'=>e=.returned (.int .i64 (zQf t))/\Pu w w':=by
 refine yWW _ _ _ w _ ?_
 refine alB λw1 ar aB=>⟨_,cl0 aB,(yKp t.page w1).mono ?_⟩
 rintro e w2 ⟨rfl,aq⟩
 have h1:=h.recs.len
 have h3:=h.recs.lim
 have h1f:=h.fields.len
 have h3f:=h.fields.lim
 refine⟨_,rfl,Br.of (λd=>⟨by rw[zYY (by simpa using d)],ar.trans aq⟩) (λd=>⟨_,cl (aq.blk aB) 1,(zZP (h.fields.pu (ar.trans aq)) hl).mono ?_⟩)⟩
 have hpg:zQX t.page=true:=by simpa using d
 rintro e w3 ⟨rfl,au⟩
 have bj:=aq.trans au
 refine⟨_,rfl,Br.of (λd1=>⟨by rw[zWH hpg (zQ2 d1)],ar.trans bj⟩) (λd1=>⟨_,cl (bj.blk aB) 2,Br.of (λd2=>⟨by rw[zY6 hpg (zQs d1) (by have:=zQk d2;omega)],ar.trans bj⟩) (λd2=>⟨_,cl (bj.blk aB) 2,?_⟩)⟩)⟩
 have hvf:=zQs d1
 obtain⟨_,hall,_,_,_⟩:=zXn hvf
 have e0:=zYC hpg hvf (by have:=zQd d2;omega)
 refine zQw t.recs.length (λk u w'=>u=(k:Int)/\(∀x ∈ t.recs.take k,zQ0 t.fields t.page x=0)/\Pu w1 w') ⟨rfl,by simp,bj⟩ ?_
 rintro k J u w4 hk ⟨hu,hal,aK⟩ hJ
 obtain rfl:u=(k:Int):=hu
 refine Br.of (λd3=>?_) (λd3=>?_)
 ·have aJ:k<t.recs.length:=by have:=zQk d3;omega
  obtain⟨x,hx⟩:=zQM aJ
  obtain⟨a,q,ha,hi,hq,c0,c1⟩:=zWk ((h.recs.pu ar).pu aK) hx
  have next:∀{w6:World},Pu w4 w6->zQ0 t.fields t.page x=0->xX2 (λe w'=>e=.returned (.int .i64 (zQf t))/\Pu w w') J (some (⟨w.heap.size,0,none⟩:Addr)) r ((r.len:Nat):Int) (k:Int) [] w6:=λ{w6} bB h0=>by
   show J (IntKind.i64.wrap ((k:Int)+1)) w6
   rw[zQa (by omega) (by omega)]
   refine hJ _ _ aJ ⟨by omega,λy hy=>?_,aK.trans bB⟩
   rw[zQD hx,List.mem_append,List.mem_singleton]at hy
   rcases hy with hy|rfl
   ·exact hal y hy
   ·exact h0
  have hql:=hq.len
  refine⟨a,ha,by omega,by omega,_,c0,_,c1,yQA rfl (by kernel_rfl) rfl λw5 aR oL bo=>⟨_,cl bo 1,_,cl ((aK.trans aR).blk aB) 1,Br.of (λd4=>?_) (λd4=>⟨_,cl ((aK.trans aR).blk aB) 1,?_⟩)⟩⟩
  ·have:zQ0 t.fields t.page x=10:=zVk (by have:=zQ2 d4;omega)
   exact⟨by rw[e0,zJN hal hx (by rw[this];omega),this],ar.trans (aK.trans aR)⟩
  have hlen:x.v.length=t.fields.length:=by have:=zQs d4;omega
  have fj:=aK.trans aR
  refine zQw t.fields.length (λj u w'=>u=(j:Int)/\((t.fields.zip x.v).take j).all (λy=>zQR y.1 t.page y.2)=true/\Pu w5 w') ⟨rfl,rfl,Pu.refl _⟩ ?_
  rintro j J2 u w6 hj ⟨hu,haz,bB⟩ hJ2
  obtain rfl:u=(j:Int):=hu
  have dQ:=fj.trans bB
  refine Br.of (λd5=>?_) (λd5=>?_)
  ·have kj:j<t.fields.length:=by have:=zQk d5;omega
   obtain⟨g,hg⟩:=zQM kj
   obtain⟨v,hv⟩:=zQM (show j<x.v.length by omega)
   obtain⟨b,hb,hbi,_,_,c',k0,k1,k2,k3⟩:=zJl ((h.fields.pu ar).pu dQ) hg
   refine⟨b,hb,by omega,by omega,_,k0,_,k1,_,k2,_,k3,yQA rfl s23.symm rfl λw7 cv hs7 j8=>zQc λw8 bP _=>?_⟩
   have pm:=cv.trans bP
   have nB:=dQ.trans pm
   have j9:=bP.blk j8
   obtain⟨m,hm,hmi,_,_,v0,v1,v2⟩:=yWl (hq.pu ((aR.trans bB).trans pm)) hv
   refine⟨_,cl j9 0,_,cl j9 1,_,cl j9 2,_,cl j9 3,_,cl0 (nB.blk aB),q,cl ((bB.trans pm).blk bo) 1,m,hm,by omega,by omega,_,v0,_,v1,_,v2,(kQr g t.page v (hl g (List.mem_of_getElem? hg)) (List.all_eq_true.1 hall g (List.mem_of_getElem? hg)) hpg w8).mono ?_⟩
   rintro e w9 ⟨rfl,cx⟩
   have hz:=xXF hg hv
   refine⟨_,rfl,Br.of (λd6=>?_) (λd6=>?_)⟩
   ·have:zKq t.fields t.page x.v=false:=by unfold zKq;rw[List.all_eq_false];exact⟨_,List.mem_of_getElem? hz,by simpa using d6⟩
    have h1:zQ0 t.fields t.page x=1:=by rw[zJz hlen,this];rfl
    exact⟨by rw[e0,zJN hal hx (by rw[h1];omega),h1],ar.trans (nB.trans cx)⟩
   ·rw[zQa (by omega) (by omega)]
    exact hJ2 _ _ kj ⟨by omega,by rw[zJX _ hz,haz,show zQR g t.page v=true by simpa using d6];rfl,(bB.trans pm).trans cx⟩
  ·have kj:j=t.fields.length:=by have:=zQd d5;omega
   have:zKq t.fields t.page x.v=true:=by unfold zKq;rw[←haz,List.take_of_length_le (by rw[List.length_zip];omega)]
   exact next (aR.trans bB) (by rw[zJz hlen,this];rfl)
 ·have aJ:k=t.recs.length:=by have:=zQd d3;omega
  subst aJ
  rw[List.take_length]at hal
  exact⟨by rw[e0,zJV hal],ar.trans aK⟩
end Go.Proofs.YtaeecpjhfmcliaaGreatDoor
/- Table: the bytes of a header. No condition. -/
namespace Go.Proofs.YtaeecpjhfmcliaaGreatDoor
open Go.Sh Go.RowKit Tryz
def u8V(b:UInt8):Value:=.int .u8 ((b.toNat:Nat):Int)
def zZI(n:Int):UInt8:=UInt8.ofNat (n % 256).toNat
theorem zJ2(n:Int):(Value.int .u8 (IntKind.u8.wrap n))=u8V (zZI n):=by
 unfold u8V zZI
 rw[IntKind.wrap_u8]
 congr 1
 have:(UInt8.ofNat (n % 256).toNat).toNat=(n % 256).toNat:=by simp;omega
 rw[this];omega
theorem yVo:(prog.info? 5).map (λi=>(i.zero,i.size,i.bytes))=some (some (.int .u8 0),1,1):=by kernel_rfl
def zQh(w0 w:World)(s:SV)(l:List UInt8):Prop:=zQl w 5 1 s (l.map u8V)/\∀b ∈ zQe s,w0.heap.size<=b
theorem zQh.len{w0 w:World}{s:SV}{l:List UInt8}(h:zQh w0 w s l):s.len=l.length:=by have:=h.1.1;simp at this;omega
theorem zQh.pu{w0 w w':World}{s:SV}{l:List UInt8}(h:zQh w0 w s l)(hp:Pu w w'):zQh w0 w' s l:=⟨h.1.pu hp,h.2⟩
theorem zQh.nil(w0 w:World):zQh w0 w ⟨none,0,0⟩ []:=⟨zQl.nil w 5 1,by simp[zQe]⟩
theorem zQh.fr{B:Nat->Prop}{w0 w w':World}{s:SV}{l:List UInt8}(h:zQh w0 w s l)(hf:Fr B w w')(hn:∀k ∈ zQe s,¬B k):zQh w0 w' s l:=⟨h.1.fr hf hn,h.2⟩
theorem zQh.low{w0 w1 w:World}{s:SV}{l:List UInt8}(h:zQh w1 w s l)(hz:w0.heap.size<=w1.heap.size):zQh w0 w s l:=⟨h.1,λb hb=>Nat.le_trans hz (h.2 b hb)⟩
theorem zQh.app {w0 w:World} {s m:SV} {l news:List UInt8} (h:zQh w0 w s l) (hz:w0.heap.size<=w.heap.size) (hl:m.len=news.length) (hn:∀(j:Nat) (b:UInt8),news[j]?=some b->∃a,m.a=some a/\w.cell? (a.add j)=some (u8V b)) (hb:l.length+news.length<=70368744177664) :
  ∃(s':SV) (w':World),(Builtin.append_ #[22,22] 22 #[.slice s.a s.len s.cap,.slice m.a m.len m.cap]).run prog w=.ok (.slice s'.a s'.len s'.cap) w'/\zQh w0 w' s' (l ++ news)/\Fr (· ∈ zQe s) w w':=by
 have h1:=h.len
 obtain⟨s',w',hr,hrow,hf,hblk,_⟩:=zK6 (P:=prog) (ty:=22) u37 yVo rfl h.1 (m:=m) (news:=news.map u8V) (by simpa using hl) (λj u hu=>by
  obtain⟨b,hb,rfl⟩:∃b,news[j]?=some b/\u8V b=u:=by simpa using hu
  exact hn j b hb) (λu hu=>by simp at hu;obtain⟨x,_,rfl⟩:=hu;rfl) (by omega)
 refine⟨s',w',hr,⟨by rw[List.map_append];exact hrow,λb hb=>?_⟩,hf⟩
 rcases hblk b hb with h2|h2
 ·exact h.2 b h2
 ·omega
theorem zQh.one {w0 w:World} {s:SV} {l:List UInt8} (h:zQh w0 w s l) (hz:w0.heap.size<=w.heap.size) {r:Nat} {b:UInt8} {c:Array Value} (hr:w.heap[r]?=some (.cells c 5)) (hc:c[0]?=some (u8V b)) (hb:l.length<=70368744177663) :
  ∃(s':SV) (w':World),(Builtin.append_ #[22,22] 22 #[.slice s.a s.len s.cap,.slice (some ⟨r,0,none⟩) 1 1]).run prog w=.ok (.slice s'.a s'.len s'.cap) w'/\zQh w0 w' s' (l ++ [b])/\Fr (· ∈ zQe s) w w':=
 h.app hz (m:=⟨some ⟨r,0,none⟩,1,1⟩) (news:=[b]) rfl (λj b' hj=>by
  cases j with
  | zero=>simp at hj;subst hj;exact⟨_,rfl,by rw[yYf,zQI hr];exact hc⟩
  | succ j=>simp at hj) (by simp;omega)
theorem zQh.box {w0 w:World} {r:Nat} {l:List UInt8} (hr:w.heap[r]?=some (.cells (l.map u8V).toArray 5)) (hz:w0.heap.size<=r) (hl:l.length<=140737488355328):zQh w0 w ⟨some ⟨r,0,none⟩,l.length,l.length⟩ l:=
 ⟨⟨by simp,.inr ⟨r,_,rfl,hr,Nat.le_refl _,by show l.length<=maxLen;unfold maxLen;omega,by simp,by simp[←List.map_take]⟩⟩,λb hb=>by simp[zQe]at hb;omega⟩
theorem zQh.cell {w0 w:World} {s:SV} {l:List UInt8} (h:zQh w0 w s l) {j:Nat} {b:UInt8} (hj:l[j]?=some b):∃a,s.a=some a/\w.cell? (a.add j)=some (u8V b):=by
 obtain⟨a,h1,h2,_⟩:=h.1.cell (j:=j) (v:=u8V b) (by rw[List.getElem?_map,hj];rfl)
 exact⟨a,h1,h2⟩
def zVS(n k:Nat):List UInt8:=(List.range k).map λj=>UInt8.ofNat (n / 256 ^ j % 256)
theorem zXp(n k:Nat):(zVS n k).length=k:=by simp[zVS]
theorem yXQ(n k:Nat):zVS n (k+1)=zVS n k ++ [UInt8.ofNat (n / 256 ^ k % 256)]:=by simp[zVS,List.range_succ]
theorem zYZ(n:Nat):zZI (n:Int)=UInt8.ofNat (n % 256):=by
 unfold zZI;congr 1
theorem xJK(n k:Nat)(hk:k<=8)(w:World):Calls prog 202 #[.int .i64 (n:Int),.int .i64 (k:Int)] w λe w'=>∃s:SV,e=.returned (.slice s.a s.len s.cap)/\zQh w w' s (zVS n k)/\Pu w w':=by
 refine yV7 _ _ w _ ?_
 refine zQw k (λj t w'=>t.1=((n / 256 ^ j:Nat):Int)/\t.2.2=(j:Int)/\zQh w w' t.2.1 (zVS n j)/\Pu w w') ⟨by simp,rfl,zQh.nil w w,Pu.refl _⟩ ?_
 rintro j J ⟨t1,t2,t3⟩ w2 hj ⟨h1,h3,hr,hp⟩ hJ
 obtain rfl:t1=((n / 256 ^ j:Nat):Int):=h1
 obtain rfl:t3=(j:Int):=h3
 have hr:zQh w w2 t2 (zVS n j):=hr
 dsimp only
 refine Br.of (λd=>?_) (λd=>?_)
 ·have kj:j<k:=by have:=zQk d;omega
  refine alB λw3 au bn=>?_
  have hz:w.heap.size<=w3.heap.size:=(hp.trans au).size
  obtain⟨s',w4,e4,hr4,gi⟩:=(hr.pu au).one hz (b:=zZI ((n / 256 ^ j:Nat):Int)) bn (by rw[zJ2];rfl) (by rw[zXp];omega)
  refine⟨s',w4,e4,by omega,?_⟩
  rw[zQa (by omega) (by omega)]
  refine hJ _ _ kj ⟨?_,by dsimp only;omega,?_,(hp.trans au).andNew gi λi hi=>hr.2 i hi⟩
  ·show Int.fdiv ((n / 256 ^ j:Nat):Int) (2 ^ 8)=_
   rw[Int.fdiv_eq_ediv_of_nonneg _ (by decide),Nat.pow_succ,←Nat.div_div_eq_div_mul]
   norm_cast
  ·dsimp only;rw[yXQ,←zYZ];exact hr4
 ·have kj:j=k:=by have:=zQd d;omega
  subst kj
  exact⟨t2,rfl,hr,hp⟩
def zVv(k:Int):UInt8:=if k=1 then 76 else if k=2 then 78 else if k=3 then 68 else if k=4 then 67 else 77
def yY6(b:Bool):UInt8:=if b then 1 else 0
def zQN(f:Fld):List UInt8:=f.name.data.toList ++ List.replicate (10 - f.name.size) 0 ++ [zVv f.kind,zZI f.width,yY6 f.null,0,0,0]
def zJA(t:Tbl):List UInt8:=[67,zZI t.page] ++ zVS t.recs.length 4 ++ zVS (13+16 * t.fields.length) 2 ++ zVS (zXK t.fields).toNat 2 ++ [zZI t.fields.length,0] ++ t.fields.flatMap zQN ++ [13]
theorem zXb{f:Fld}(h:zQo f=true):1<=f.name.size/\f.name.size<=10/\∃K,zXd f.kind=some K/\K.letter=((zVv f.kind).toNat:Nat):=by
 unfold zQo at h
 simp only[Bool.and_eq_true]at h
 obtain⟨hn,hk⟩:=h
 unfold zZ3 at hn
 simp only[Bool.and_eq_true,decide_eq_true_eq]at hn
 refine⟨hn.1.1.1,hn.1.1.2,?_⟩
 rcases zJZ f.kind with⟨e,h1⟩|⟨e,h1⟩|⟨e,h1⟩|⟨e,h1⟩|⟨e,h1⟩|⟨h1,h2,h3,h4,h5,hh⟩
 ·exact⟨_,h1,by rw[e];rfl⟩
 ·exact⟨_,h1,by rw[e];rfl⟩
 ·exact⟨_,h1,by rw[e];rfl⟩
 ·exact⟨_,h1,by rw[e];rfl⟩
 ·exact⟨_,h1,by rw[e];rfl⟩
 ·rw[yQ9 (by rw[hh];rfl)]at hk;cases hk
theorem zZ6{f:Fld}(h:f.name.size<=10):(zQN f).length=16:=by
 unfold zQN;simp only[List.length_append,List.length_replicate,zQ3,List.length_cons,List.length_nil];omega
theorem yZ7(n:Nat)(hn:n<=1000000)(w:World):Calls prog 159 #[.int .i64 (n:Int)] w λe w'=>e=.returned (.int .i64 ((13+16 * n:Nat):Int))/\Pu w w':=by
 refine yWI _ w _ ⟨?_,Pu.refl w⟩
 rw[zQa (n:=16 * (n:Int)) (by omega) (by omega),zQa (by omega) (by omega)];norm_cast
theorem u123:prog.underlying 227=some (.array 16 5):=by kernel_rfl
theorem xJm(r:Nat)(w:World):(Instr.sliceAt 227 (.pointer (some (⟨r,0,none⟩:Addr))) none (some (.int .i64 10)) (some (.int .i64 10))).run prog w=.ok (.slice (some ⟨r,0,none⟩) 10 10) w:=by
 have hs:(sizeOf 5).run prog w=.ok 1 w:=Tryz.sizeOf5 w
 simp[Instr.sliceAt,zQn u123,Instr.sureAddr,hs,Instr.sliceBounds,Instr.sliceBound,asIntOf,Addr.add]
end Go.Proofs.YtaeecpjhfmcliaaGreatDoor
/- Table: the program's header of a table. No condition. -/
namespace Go.Proofs.YtaeecpjhfmcliaaGreatDoor
open Go.Sh Go.RowKit Tryz
def xKr(R:Rt)(r1 dJ:Nat)(bR:SV)(ds:Ds)(ct:World):Prop:=
 ∃fh:SV,∃dX:World,(Builtin.append_ #[22,22] 22 #[.slice (some ⟨dJ,0,none⟩) 2 2,.slice bR.a bR.len bR.cap]).run prog ct=.ok (.slice fh.a fh.len fh.cap) dX/\
 ∃dv:SV,dX.cell? ((⟨r1,0,none⟩:Addr).add 1)=some (.slice dv.a dv.len dv.cap)/\
 Calls prog 159 #[.int .i64 ((dv.len:Nat):Int)] dX λe dV=>
 ∃km:Int,e=.returned (.int .i64 km)/\
 Calls prog 202 #[.int .i64 km,.int .i64 2] dV λe dy=>
 ∃cK:SV,e=.returned (.slice cK.a cK.len cK.cap)/\
 ∃dw:SV,∃gj:World,(Builtin.append_ #[22,22] 22 #[.slice fh.a fh.len fh.cap,.slice cK.a cK.len cK.cap]).run prog dy=.ok (.slice dw.a dw.len dw.cap) gj/\
 ∃eg:SV,gj.cell? ((⟨r1,0,none⟩:Addr).add 1)=some (.slice eg.a eg.len eg.cap)/\
 Calls prog 161 #[.slice eg.a eg.len eg.cap] gj λe fe=>
 ∃cu:Int,e=.returned (.int .i64 cu)/\
 Calls prog 202 #[.int .i64 cu,.int .i64 2] fe λe gQ=>
 ∃bV:SV,e=.returned (.slice bV.a bV.len bV.cap)/\
 ∃eD:SV,∃dW:World,(Builtin.append_ #[22,22] 22 #[.slice dw.a dw.len dw.cap,.slice bV.a bV.len bV.cap]).run prog gQ=.ok (.slice eD.a eD.len eD.cap) dW/\
 ∃kf:SV,dW.cell? ((⟨r1,0,none⟩:Addr).add 1)=some (.slice kf.a kf.len kf.cap)/\
 alE (.cells #[.int .u8 (IntKind.u8.wrap ((kf.len:Nat):Int)),.int .u8 0] 5) dW λzh fo=>
 ∃iv:SV,∃iu:World,(Builtin.append_ #[22,22] 22 #[.slice eD.a eD.len eD.cap,.slice (some ⟨zh,0,none⟩) 2 2]).run prog fo=.ok (.slice iv.a iv.len iv.cap) iu/\
 ∃eW:SV,iu.cell? ((⟨r1,0,none⟩:Addr).add 1)=some (.slice eW.a eW.len eW.cap)/\
 yZa R iv eW ((eW.len:Nat):Int) 0 ds iu
theorem yZj {l:List Fld} {k:Nat} {f:Fld} (h:l[k]?=some f):(l.take (k+1)).flatMap zQN=(l.take k).flatMap zQN ++ zQN f:=by
 rw[zQD h,List.flatMap_append];simp
theorem yYd{l:List Fld}(h:∀f ∈ l,f.name.size<=10):(l.flatMap zQN).length<=16 * l.length:=by
 induction l with
 | nil=>simp
 | cons f l ih=>
  rw[List.flatMap_cons,List.length_append,zZ6 (h f (by simp)),List.length_cons]
  have:=ih λg hg=>h g (by simp[hg])
  omega
theorem yXk(l:List UInt8):Lib.byteCells l=l.map u8V:=rfl
def xQz(n:Nat):List Value:=List.replicate n (.int .u8 0)
def zZM(s:ByteArray)(a b c:Value):Array Value:=(s.data.toList.map u8V ++ (List.replicate (10 - s.size) 0).map u8V ++ [a,b,c,.int .u8 0,.int .u8 0,.int .u8 0]).toArray
theorem yJL{s:ByteArray}(h:s.size<=10)(a b c:Value):(zZM s a b c).size=16:=by
 unfold zZM;simp only[List.size_toArray,List.length_append,List.length_map,zQ3,List.length_replicate,List.length_cons,List.length_nil];omega
theorem yZJ{s:ByteArray}(h:s.size<=10)(a b c v:Value):(zZM s a b c).setIfInBounds 10 v=zZM s v b c:=by
 unfold zZM
 apply Array.toList_inj.1
 rw[Array.toList_setIfInBounds]
 simp only
 rw[List.set_append_right _ _ (by simp only[List.length_append,List.length_map,zQ3,List.length_replicate];omega)]
 simp only[List.length_append,List.length_map,zQ3,List.length_replicate]
 rw[show 10 - (s.size+(10 - s.size))=0 by omega];rfl
theorem yXZ{s:ByteArray}(h:s.size<=10)(a b c v:Value):(zZM s a b c).setIfInBounds 11 v=zZM s a v c:=by
 unfold zZM
 apply Array.toList_inj.1
 rw[Array.toList_setIfInBounds]
 simp only
 rw[List.set_append_right _ _ (by simp only[List.length_append,List.length_map,zQ3,List.length_replicate];omega)]
 simp only[List.length_append,List.length_map,zQ3,List.length_replicate]
 rw[show 11 - (s.size+(10 - s.size))=1 by omega];rfl
theorem yZz{s:ByteArray}(h:s.size<=10)(a b c v:Value):(zZM s a b c).setIfInBounds 12 v=zZM s a b v:=by
 unfold zZM
 apply Array.toList_inj.1
 rw[Array.toList_setIfInBounds]
 simp only
 rw[List.set_append_right _ _ (by simp only[List.length_append,List.length_map,zQ3,List.length_replicate];omega)]
 simp only[List.length_append,List.length_map,zQ3,List.length_replicate]
 rw[show 12 - (s.size+(10 - s.size))=2 by omega];rfl
theorem zVI(f:Fld):zZM f.name (u8V (zVv f.kind)) (u8V (zZI f.width)) (u8V (yY6 f.null))=((zQN f).map u8V).toArray:=by
 unfold zZM zQN
 simp only[List.map_append,List.map_cons,List.map_nil];rfl
theorem yYO {w:World} {r:Nat} {s:ByteArray} (hb:w.heap[r]?=some (.cells (xQz 16).toArray 227)) (hs:s.size<=10) :
  ∃(n:Int) (w':World),(Builtin.copy_ #[22,9] 3 #[.slice (some ⟨r,0,none⟩) 10 10,.string s]).run prog w=.ok (.int .i64 n) w'/\w'.heap[r]?=some (.cells (zZM s (.int .u8 0) (.int .u8 0) (.int .u8 0)) 227)/\Fr (·=r) w w':=by
 have h:=Lib.run_copy_row_string (P:=prog) w 22 9 3 5 r 0 10 10 s (xQz 16).toArray 227 u37 (by have:=yVo;simp only[Option.map_eq_some_iff]at *;obtain⟨i,h1,h2⟩:=this;exact⟨i,h1,by simp at h2;exact h2.2.1⟩) hb (by omega) (by simp[xQz];omega)
 refine⟨_,_,h,?_,?_⟩
 ·rw[setRow_heap w r _ _ 227 (0,0) hb]
  congr 2
  unfold zZM
  rw[yXk]
  simp only[List.take_zero,List.nil_append,Nat.zero_add,xQz]
  rw[List.drop_replicate]
  apply Array.toList_inj.1
  simp only[List.append_assoc]
  congr 1
  have e:(List.replicate (10 - s.size) (0:UInt8)).map u8V=List.replicate (10 - s.size) (.int .u8 0):=by rw[List.map_replicate];rfl
  rw[e,show 16 - s.size=(10 - s.size)+6 by omega,←List.replicate_append_replicate];rfl
 ·exact⟨rfl,rfl,rfl,by simp,λk _ hk=>setRow_other w r k _ hk⟩
theorem yWV{ww w0 w:World}(hww:Pu ww w0){s l:SV}{fs:List Fld}{acc:List UInt8}(hz:w0.heap.size<=w.heap.size)(hp0:Pu w0 w)(h:zX3 w0 s fs)(hr:zQh w0 w l acc)(hall:fs.all zQo=true)(hn:fs.length<=16)(ha:acc.length<=100) :
  yZa (λe w'=>∃q:SV,e=.returned (.slice q.a q.len q.cap)/\zQh ww w' q (acc ++ fs.flatMap zQN ++ [13])/\Pu ww w') l s ((s.len:Nat):Int) 0 [] w:=by
 have hlen:=h.len
 have i6:∀f ∈ fs,f.name.size<=10:=λf hf=>(zXb (List.all_eq_true.1 hall f hf)).2.1
 refine zQw fs.length (λk t w'=>t.2=(k:Int)/\zQh w0 w' t.1 (acc ++ (fs.take k).flatMap zQN)/\Pu w0 w') ⟨rfl,by simpa using hr,hp0⟩ ?_
 rintro k J ⟨t1,t2⟩ w2 hk ⟨h2,jw,aq⟩ hJ
 obtain rfl:t2=(k:Int):=h2
 have jw:zQh w0 w2 t1 (acc ++ (fs.take k).flatMap zQN):=jw
 have hfl:=yYd (l:=fs.take k) λf hf=>i6 f (List.mem_of_mem_take hf)
 have htl:=List.length_take_le k fs
 dsimp only
 refine Br.of (λd=>?_) (λd=>?_)
 ·have aJ:k<fs.length:=by have:=zQk d;omega
  obtain⟨f,hf⟩:=zQM aJ
  have hfB:=List.all_eq_true.1 hall f (List.mem_of_getElem? hf)
  obtain⟨f1,f10,K,hK,hKl⟩:=zXb hfB
  obtain⟨a,ha',hi,_,_,_,c0,c1,c2,c3⟩:=zJl (h.pu aq) hf
  refine⟨a,ha',by omega,by omega,_,c0,_,c1,_,c2,_,c3,yQA rfl s23.symm rfl λw3 au qU bn=>alB λw4 aK dm=>zQc λw5 aR hh5=>?_⟩
  have hb35:=(aK.trans aR).blk bn
  have hb45:w5.heap[w3.heap.size]?=some (.cells (xQz 16).toArray 227):=aR.blk dm
  have hlt:w2.heap.size<w3.heap.size:=zQx bn
  have cI:Pu w0 w5:=((aq.trans au).trans aK).trans aR
  refine⟨λu=>u=w5,rfl,f.name,λu hu=>by subst hu;exact cl0 hb35,⟨some ⟨w3.heap.size,0,none⟩,10,10⟩,w5,xJm _ w5,rfl,?_⟩
  obtain⟨n,w6,e6,fU,iJ⟩:=yYO hb45 f10
  refine⟨n,w6,e6,zQc λw7 cv hh7=>?_⟩
  have hb37:=cv.blk (iJ.blk hb35 (show ¬w2.heap.size=w3.heap.size by omega))
  have hb47:=cv.blk fU
  have qh:zQh w0 w7 t1 (acc ++ (fs.take k).flatMap zQN):=((((jw.pu au).pu aK).pu aR).fr iJ λb hb e=>by
   have aM:=jw.1.lt b hb
   have e:b=w3.heap.size:=e
   omega).pu cv
  have gm:Pu w0 w7:=(cI.andNew iJ λi hi=>by have hi:i=w3.heap.size:=hi;have:=aq.size;omega).trans cv
  refine⟨λu=>u.heap[w2.heap.size]?=some (.cells #[.string f.name,.int .i64 f.kind,.int .i64 f.width,.bool f.null] 129),hb37,f.kind,λu hu=>cl hu 1,f.width,λu hu=>cl hu 2,(zVi w7).mono ?_⟩
  rintro e w8 ⟨m,rfl,hm,yu,bP⟩
  have hb48:=bP.blk hb47
  have hb38:=bP.blk hb37
  have hsz:∀a b c,(zZM f.name a b c).size=16:=yJL f10
  have z3:w3.heap.size<w7.heap.size:=zQx hb47
  refine⟨some m,rfl,λu=>u.heap[w2.heap.size]?=some (.cells #[.string f.name,.int .i64 f.kind,.int .i64 f.width,.bool f.null] 129)/\zXE u yV8 zYA m zZh,⟨hb38,hm⟩,λu hu=>hu.1,K.letter,K.least,K.most,.func (.func K.wr) #[] #[],.func (.func K.rd) #[] #[],λu hu=>?_,by omega,by omega,?_⟩
  ·have:=zWG hu.2 f.kind false
   rw[hK]at this;exact this
  ·show st1 ((⟨w3.heap.size,0,none⟩:Addr).add 10) _ w8 _
   rw[zQr,Nat.zero_add]
   refine zQt hb48 (by rw[hsz];omega) λw9 hw9 oM=>?_
   have pn:Fr (·=w3.heap.size) w8 w9:=by rw[hw9];exact Fr.cell w8 _ 10 _
   rw[yZJ f10,hKl]at oM
   have hb39:=pn.blk hb38 (show ¬w2.heap.size=w3.heap.size by omega)
   refine⟨λu=>u.heap[w2.heap.size]?=some (.cells #[.string f.name,.int .i64 f.kind,.int .i64 f.width,.bool f.null] 129)/\zXE u yV8 zYA m zZh,⟨hb39,hm.fr pn (by omega)⟩,λu hu=>hu,by omega,by omega,?_⟩
   show st1 ((⟨w3.heap.size,0,none⟩:Addr).add 11) _ w9 _
   rw[zQr,Nat.zero_add]
   refine zQt oM (by rw[hsz];omega) λaN xH iD=>?_
   have nx:Fr (·=w3.heap.size) w9 aN:=by rw[xH];exact Fr.cell w9 _ 11 _
   rw[yXZ f10,zJ2]at iD
   have qg:=nx.blk hb39 (show ¬w2.heap.size=w3.heap.size by omega)
   -- behind the last store
   have fin:∀{aV:World},Fr (·=w3.heap.size) aN aV->aV.heap[w3.heap.size]?=some (.cells ((zQN f).map u8V).toArray 227)->
     ∃jS:SV,∃aO:World,(Builtin.append_ #[22,22] 22 #[.slice t1.a t1.len t1.cap,.slice (some (if 16=0 then(⟨w3.heap.size,0,none⟩:Addr)else(⟨w3.heap.size,0,none⟩:Addr).add (0 * 1))) (16 - 0) (16 - 0)]).run prog aV=.ok (.slice jS.a jS.len jS.cap) aO/\J (jS,(IntKind.i64.wrap ((k:Int)+1))) aO:=λ{aV} nC io=>by
    have hfa:Fr (·=w3.heap.size) w8 aV:=(pn.trans nx λ_ h _=>h).trans nC λ_ h _=>h
    have sB:zQh w0 aV t1 (acc ++ (fs.take k).flatMap zQN):=(qh.pu bP).fr hfa λb hb e=>by
     have aM:=jw.1.lt b hb
     have e:b=w3.heap.size:=e
     omega
    have wW:Pu w0 aV:=(gm.trans bP).andNew hfa λi hi=>by have hi:i=w3.heap.size:=hi;have:=aq.size;omega
    obtain⟨s',aO,e12,hr12,eJ⟩:=sB.app wW.size (m:=⟨some ⟨w3.heap.size,0,none⟩,16,16⟩) (news:=zQN f) (zZ6 f10).symm (λj b hj=>⟨_,rfl,by rw[zQr,zQI io,Nat.zero_add];simp[hj]⟩) (by rw[zZ6 f10];simp only[List.length_append];omega)
    refine⟨s',aO,e12,?_⟩
    rw[zQa (by omega) (by omega)]
    refine hJ _ _ aJ ⟨by dsimp only;omega,?_,wW.andNew eJ λi hi=>sB.2 i hi⟩
    rw[yZj hf,←List.append_assoc];exact hr12
   refine⟨_,cl qg 3,Br.of (λd1=>⟨by omega,by omega,?_⟩) (λd1=>⟨by omega,by omega,fin (Fr.refl _ _) ?_⟩)⟩
   ·show st1 ((⟨w3.heap.size,0,none⟩:Addr).add 12) _ aN _
    rw[zQr,Nat.zero_add]
    refine zQt iD (by rw[hsz];omega) λaV hw11 io=>⟨by omega,by omega,fin (by rw[hw11];exact Fr.cell aN _ 12 _) ?_⟩
    rw[yZz f10]at io
    rw[←zVI,d1];exact io
   ·rw[←zVI,d1];exact iD
 ·have aJ:k=fs.length:=by have:=zQd d;omega
  subst aJ
  rw[List.take_length]at jw hfl
  refine alB λw3 au bn=>?_
  obtain⟨s',w4,e4,hr4,gi⟩:=(jw.pu au).one (aq.trans au).size (b:=13) bn rfl (by simp only[List.length_append];omega)
  exact⟨s',w4,e4,s',rfl,hr4.low hww.size,hww.trans ((aq.trans au).andNew gi λi hi=>jw.2 i hi)⟩
theorem xZ6 {ww w0 ct:World} (hww:Pu ww w0) {t:Tbl} {f r bR:SV} {r1 dJ:Nat} (h:zX2 w0 t f r) (hvf:zQV t.fields=0) (hrl:t.recs.length<=1000000) (hp:Pu w0 ct) (aB:w0.heap[r1]?=some (.cells #[.int .i64 t.page,.slice f.a f.len f.cap,.slice r.a r.len r.cap] 35)) (oV:w0.heap.size<=dJ)
  (iD:ct.heap[dJ]?=some (.cells #[.int .u8 67,.int .u8 (IntKind.u8.wrap t.page)] 5)) (hl:zQh w0 ct bR (zVS t.recs.length 4)) :
  xKr (λe w'=>∃q:SV,e=.returned (.slice q.a q.len q.cap)/\zQh ww w' q (zJA t)/\Pu ww w') r1 dJ bR [] ct:=by
 obtain⟨hne0,hall,hnd,hn16,hw⟩:=zXn hvf
 have hfl:=h.fields.len
 rw[zJ2]at iD
 have box:zQh w0 ct ⟨some ⟨dJ,0,none⟩,2,2⟩ [67,zZI t.page]:=zQh.box (l:=[67,zZI t.page]) iD oV (by simp)
 obtain⟨fh,dX,e22,r15,f22⟩:=box.app hp.size (m:=bR) (news:=zVS t.recs.length 4) hl.len (λj b hj=>hl.cell hj) (by rw[zXp];simp)
 have hp22:Pu w0 dX:=hp.andNew f22 λi hi=>box.2 i hi
 refine⟨fh,dX,e22,f,cl (hp22.blk aB) 1,?_⟩
 rw[hfl]
 refine(yZ7 t.fields.length (by omega) dX).mono ?_
 rintro e dV ⟨rfl,oN⟩
 refine⟨_,rfl,(xJK (13+16 * t.fields.length) 2 (by omega) dV).mono ?_⟩
 rintro e dy ⟨cK,rfl,r21,fV⟩
 have wX:=hp22.trans (oN.trans fV)
 have r15':=r15.pu (oN.trans fV)
 obtain⟨dw,gj,e25,r22,f25⟩:=r15'.app wX.size (m:=cK) (news:=zVS (13+16 * t.fields.length) 2) r21.len (λj b hj=>r21.cell hj) (by simp only[List.length_append,zXp];simp)
 have nu:Pu w0 gj:=wX.andNew f25 λi hi=>r15'.2 i hi
 refine⟨cK,rfl,dw,gj,e25,f,cl (nu.blk aB) 1,(zYh (h.fields.pu nu) (WOk.of hall)).mono ?_⟩
 rintro e fe ⟨rfl,hp26⟩
 have hs:=zJs (WOk.of hall)
 have wY:zXK t.fields=((zXK t.fields).toNat:Int):=by unfold zXK at *;omega
 refine⟨_,rfl,?_⟩
 rw[show(Value.int .i64 (zXK t.fields))=.int .i64 (((zXK t.fields).toNat:Nat):Int)by rw[←wY]]
 refine(xJK (zXK t.fields).toNat 2 (by omega) fe).mono ?_
 rintro e gQ ⟨bV,rfl,r27,hp27⟩
 have wZ:=nu.trans (hp26.trans hp27)
 have r22':=r22.pu (hp26.trans hp27)
 obtain⟨eD,dW,e28,r28,f28⟩:=r22'.app wZ.size (m:=bV) (news:=zVS (zXK t.fields).toNat 2) r27.len (λj b hj=>r27.cell hj) (by simp only[List.length_append,zXp];simp)
 have ip:Pu w0 dW:=wZ.andNew f28 λi hi=>r22'.2 i hi
 refine⟨bV,rfl,eD,dW,e28,f,cl (ip.blk aB) 1,alB λfo qF hb29=>?_⟩
 rw[zJ2,hfl]at hb29
 have xa:=ip.trans qF
 have box2:zQh w0 fo ⟨some ⟨dW.heap.size,0,none⟩,2,2⟩ [zZI (t.fields.length:Int),0]:=zQh.box (l:=[zZI (t.fields.length:Int),0]) hb29 ip.size (by simp)
 have r28':=r28.pu qF
 obtain⟨iv,iu,e30,r35,f30⟩:=r28'.app xa.size (m:=⟨some ⟨dW.heap.size,0,none⟩,2,2⟩) (news:=[zZI (t.fields.length:Int),0]) rfl (λj b hj=>box2.cell hj) (by simp only[List.length_append,zXp];simp)
 have xK:Pu w0 iu:=xa.andNew f30 λi hi=>r28'.2 i hi
 refine⟨iv,iu,e30,f,cl (xK.blk aB) 1,?_⟩
 exact yWV hww xK.size xK h.fields r35 hall hn16 (by simp only[List.length_append,zXp,List.length_cons,List.length_nil];omega)
theorem yKm{w:World}{t:Tbl}{f r:SV}(h:zX2 w t f r)(hvf:zQV t.fields=0)(hrl:t.recs.length<=1000000):Calls prog 157 #[zVb t f r] w λe w'=>∃q:SV,e=.returned (.slice q.a q.len q.cap)/\zQh w w' q (zJA t)/\Pu w w':=by
 refine yWJ _ _ _ w _ ?_
 refine alB λw1 ar aB=>zQc λw2 aq hh2=>?_
 have dO:=ar.trans aq
 have aM:=aq.blk aB
 have hrlen:=h.recs.len
 have z1:=dO.size
 have up:∀{ct dJ bR},Pu w2 ct->w2.heap.size<=dJ->ct.heap[dJ]?=some (.cells #[.int .u8 67,.int .u8 (IntKind.u8.wrap t.page)] 5)->zQh w2 ct bR (zVS t.recs.length 4)->
   xKr (λe w'=>∃q:SV,e=.returned (.slice q.a q.len q.cap)/\zQh w w' q (zJA t)/\Pu w w') w.heap.size dJ bR [] ct:=λ{ct dJ bR} q1 q2 q3 q4=>by
  exact xZ6 dO (h.pu dO) hvf hrl q1 aM q2 q3 q4
 refine⟨λu=>Pu w2 u,Pu.refl _,t.page,λu hu=>cl0 (hu.blk aM),r,λu hu=>cl (hu.blk aM) 2,?_⟩
 rw[hrlen]
 constructor
 ·refine alB λbU iT hb20=>⟨iT,(xJK t.recs.length 4 (by omega) bU).mono ?_⟩
  rintro e ct ⟨bR,rfl,aL,sC⟩
  exact⟨bR,rfl,iT.trans sC,up (iT.trans sC) (Nat.le_refl _) (sC.blk hb20) (aL.low iT.size)⟩
 ·refine(xJK t.recs.length 4 (by omega) w2).mono ?_
  rintro e gn ⟨bR,rfl,aL,oO⟩
  refine⟨bR,rfl,oO,alB λgk xL hb32=>⟨oO.trans xL,up (oO.trans xL) oO.size hb32 (aL.pu xL)⟩⟩
theorem zWd{t:Tbl}(h:zQf t=0):zQX t.page=true/\zQV t.fields=0/\t.recs.length<=300/\zXw t.fields t.page t.recs=0:=by
 unfold zQf at h
 split at h
 ·rename_i hp
  split at h
  ·omega
  ·rename_i hf
   split at h
   ·omega
   ·rename_i hr
    exact⟨hp,by omega,by omega,h⟩
 ·omega
theorem xXJ{w:World}{t:Tbl}{f r:SV}(h:zX2 w t f r)(hl:Lim.ok t.fields):Calls prog 165 #[zVb t f r] w λe w'=>∃q:SV,e=.returned (.tuple #[.slice q.a q.len q.cap,.int .i64 (zQf t)])/\zQh w w' q (if zQf t=0 then zJA t else [])/\Pu w w':=by
 refine yVV _ _ _ w _ ?_
 refine alB λw1 ar aB=>⟨_,cl aB 0,_,cl aB 1,_,cl aB 2,(zZ7 (h.pu ar) hl).mono ?_⟩
 rintro e w2 ⟨rfl,aq⟩
 have dO:=ar.trans aq
 refine⟨_,rfl,Br.of (λd=>⟨⟨none,0,0⟩,rfl,by rw[if_neg (zQ2 d)];exact zQh.nil w w2,dO⟩) (λd=>⟨_,cl (aq.blk aB) 0,_,cl (aq.blk aB) 1,_,cl (aq.blk aB) 2,?_⟩)⟩
 have d:=zQs d
 obtain⟨h1,h2,h3,_⟩:=zWd d
 refine(yKm (h.pu dO) h2 (by omega)).mono ?_
 rintro e w3 ⟨q,rfl,hq,au⟩
 exact⟨q,rfl,q,by rw[d],by rw[if_pos d];exact hq.low dO.size,dO.trans au⟩
end Go.Proofs.YtaeecpjhfmcliaaGreatDoor
/- Table: the null flags of a record, as bytes. No condition. -/
namespace Go.Proofs.YtaeecpjhfmcliaaGreatDoor
open Go.Sh Go.RowKit Tryz
def zKm(bs:List Bool)(i j:Nat):Nat:=if bs[8 * i+j]?=some true then 2 ^ j else 0
def zZx(bs:List Bool)(i:Nat):Nat:=zKm bs i 0+zKm bs i 1+zKm bs i 2+zKm bs i 3+zKm bs i 4+zKm bs i 5+zKm bs i 6+zKm bs i 7
def flN(N:Nat)(bs:List Bool):List UInt8:=(List.range N).map λi=>UInt8.ofNat (zZx bs i)
theorem zVg(N:Nat)(bs:List Bool):(flN N bs).length=N:=by simp[flN]
theorem xYN(N:Nat):flN N []=List.replicate N 0:=by
 unfold flN
 apply List.ext_getElem?
 intro i
 simp only[List.getElem?_map,List.getElem?_replicate]
 by_cases h:i<N
 ·rw[List.getElem?_range h,if_pos h];rfl
 ·rw[if_neg h,List.getElem?_eq_none (by simp;omega)];rfl
theorem yQl(bs:List Bool)(k:Nat):((bs ++ [false])[k]?=some true) ↔ (bs[k]?=some true):=by
 rcases Nat.lt_trichotomy k bs.length with h|h|h
 ·rw[List.getElem?_append_left h]
 ·subst h;simp
 ·rw[List.getElem?_eq_none (by simp;omega),List.getElem?_eq_none (by omega)]
theorem zJM(bs:List Bool)(k:Nat):((bs ++ [true])[k]?=some true) ↔ (bs[k]?=some true∨k=bs.length):=by
 rcases Nat.lt_trichotomy k bs.length with h|h|h
 ·rw[List.getElem?_append_left h];constructor
  ·exact .inl
  ·rintro(h1|h1)
   ·exact h1
   ·omega
 ·subst h;simp
 ·rw[List.getElem?_eq_none (by simp;omega),List.getElem?_eq_none (by omega)];simp;omega
theorem yYq(N:Nat)(bs:List Bool):flN N (bs ++ [false])=flN N bs:=by
 unfold flN zZx zKm
 simp only[yQl]
theorem zZd{bs:List Bool}{q r:Nat}(hm:bs.length=8 * q+r)(hr:r<8)(i j:Nat)(hj:j<8):zKm (bs ++ [true]) i j=zKm bs i j+(if i=q/\j=r then 2 ^ j else 0):=by
 unfold zKm
 by_cases h:8 * i+j=bs.length
 ·have h1:i=q/\j=r:=by omega
  have h2:¬bs[8 * i+j]?=some true:=by rw[List.getElem?_eq_none (by omega)];simp
  rw[if_pos ((zJM _ _).2 (.inr h)),if_neg h2,if_pos h1];omega
 ·have h1:¬(i=q/\j=r):=by omega
  rw[if_neg h1,Nat.add_zero]
  by_cases h2:bs[8 * i+j]?=some true
  ·rw[if_pos ((zJM _ _).2 (.inl h2)),if_pos h2]
  ·rw[if_neg (λh3=>((zJM _ _).1 h3).elim h2 h),if_neg h2]
theorem yJG{bs:List Bool}{q r:Nat}(hm:bs.length=8 * q+r)(hr:r<8)(i:Nat):zZx (bs ++ [true]) i=zZx bs i+(if i=q then 2 ^ r else 0):=by
 unfold zZx
 rw[zZd hm hr i 0 (by omega),zZd hm hr i 1 (by omega),zZd hm hr i 2 (by omega),zZd hm hr i 3 (by omega),zZd hm hr i 4 (by omega),zZd hm hr i 5 (by omega),zZd hm hr i 6 (by omega),zZd hm hr i 7 (by omega)]
 by_cases h:i=q
 ·simp only[h,true_and,if_true]
  rcases(by omega:r=0∨r=1∨r=2∨r=3∨r=4∨r=5∨r=6∨r=7)with rfl|rfl|rfl|rfl|rfl|rfl|rfl|rfl <;> simp <;> omega
 ·simp[h]
theorem zJQ(bs:List Bool)(i j:Nat):zKm bs i j<=2 ^ j:=by
 unfold zKm;split
 ·exact Nat.le_refl _
 ·exact Nat.zero_le _
theorem yWc{bs:List Bool}{q r j:Nat}(hm:bs.length=8 * q+r)(hj:r<=j):zKm bs q j=0:=by
 unfold zKm;rw[if_neg];rw[List.getElem?_eq_none (by omega)];simp
theorem yYT{bs:List Bool}{q r:Nat}(hm:bs.length=8 * q+r)(hr:r<8):zZx bs q<2 ^ r:=by
 have z:∀j,r<=j->zKm bs q j=0:=λj hj=>yWc hm hj
 have l0:=zJQ bs q 0
 have l1:=zJQ bs q 1
 have l2:=zJQ bs q 2
 have l3:=zJQ bs q 3
 have l4:=zJQ bs q 4
 have l5:=zJQ bs q 5
 have l6:=zJQ bs q 6
 unfold zZx
 rcases(by omega:r=0∨r=1∨r=2∨r=3∨r=4∨r=5∨r=6∨r=7)with rfl|rfl|rfl|rfl|rfl|rfl|rfl|rfl
 ·rw[z 0 (by omega),z 1 (by omega),z 2 (by omega),z 3 (by omega),z 4 (by omega),z 5 (by omega),z 6 (by omega),z 7 (by omega)];omega
 ·rw[z 1 (by omega),z 2 (by omega),z 3 (by omega),z 4 (by omega),z 5 (by omega),z 6 (by omega),z 7 (by omega)];omega
 ·rw[z 2 (by omega),z 3 (by omega),z 4 (by omega),z 5 (by omega),z 6 (by omega),z 7 (by omega)];omega
 ·rw[z 3 (by omega),z 4 (by omega),z 5 (by omega),z 6 (by omega),z 7 (by omega)];omega
 ·rw[z 4 (by omega),z 5 (by omega),z 6 (by omega),z 7 (by omega)];omega
 ·rw[z 5 (by omega),z 6 (by omega),z 7 (by omega)];omega
 ·rw[z 6 (by omega),z 7 (by omega)];omega
 ·rw[z 7 (by omega)];omega
theorem xZS{N:Nat}{bs:List Bool}{q r:Nat}(hm:bs.length=8 * q+r)(hr:r<8)(hq:q<N):flN N (bs ++ [true])=(flN N bs).set q (UInt8.ofNat (zZx bs q+2 ^ r)):=by
 apply List.ext_getElem?
 intro i
 rw[List.getElem?_set]
 unfold flN
 simp only[List.length_map,List.length_range,List.getElem?_map]
 by_cases hi:i<N
 ·rw[List.getElem?_range hi]
  simp only[Option.map_some,yJG hm hr]
  by_cases h:q=i
  ·subst h;rw[if_pos rfl,if_pos rfl,if_pos hi]
  ·rw[if_neg (λe=>h e.symm),if_neg h,Nat.add_zero]
 ·rw[List.getElem?_eq_none (by simp;omega)]
  by_cases h:q=i
  ·omega
  ·rw[if_neg h];rfl
theorem xWp{N:Nat}{bs:List Bool}{q:Nat}(hq:q<N):(flN N bs)[q]?=some (UInt8.ofNat (zZx bs q)):=by
 unfold flN;rw[List.getElem?_map,List.getElem?_range hq];rfl
theorem or_bit:∀r:Nat,r<8->∀x:Nat,x<2 ^ r->(BitVec.ofInt 8 (x:Int) ||| BitVec.ofInt 8 (IntKind.u8.wrap ((1:Int) * 2 ^ (min r 8)))).toNat=x+2 ^ r:=by decide +kernel
def zXv:List Fld->List Val->List Bool
 | [],_=>[]
 | _,[]=>[]
 | f :: fs,v :: vs=>if f.null then decide (v.kind=0) :: zXv fs vs else zXv fs vs
theorem yQO:∀{l:List Fld} {vs:List Val} {k:Nat} {f:Fld} {v:Val},l[k]?=some f->vs[k]?=some v->zXv (l.take (k+1)) (vs.take (k+1))=zXv (l.take k) (vs.take k) ++ (if f.null then [decide (v.kind=0)]else [])
 | [],_,_,_,_,h,_=>by simp at h
 | _ :: _,[],_,_,_,_,h=>by simp at h
 | a :: l,b :: vs,0,f,v,h,h2=>by
  simp at h h2;subst h h2
  simp only[List.take_succ_cons,List.take_zero,zXv]
  split <;> simp
 | a :: l,b :: vs,k+1,f,v,h,h2=>by
  have ih:=yQO (l:=l) (vs:=vs) (k:=k) (f:=f) (v:=v) (by simpa using h) (by simpa using h2)
  simp only[List.take_succ_cons,zXv]
  by_cases hn:a.null=true
  ·rw[if_pos hn,if_pos hn];rw[ih];rfl
  ·rw[if_neg hn,if_neg hn];exact ih
theorem zWC:∀(l:List Fld) (vs:List Val),(zXv l vs).length<=(l.filter (·.null)).length
 | [],_=>by simp[zXv]
 | _ :: _,[]=>by simp[zXv]
 | f :: l,v :: vs=>by
  have:=zWC l vs
  unfold zXv
  rw[List.filter_cons]
  by_cases hn:f.null=true
  ·rw[if_pos hn,if_pos hn];simp only[List.length_cons];omega
  ·rw[if_neg hn,if_neg hn];exact this
end Go.Proofs.YtaeecpjhfmcliaaGreatDoor
