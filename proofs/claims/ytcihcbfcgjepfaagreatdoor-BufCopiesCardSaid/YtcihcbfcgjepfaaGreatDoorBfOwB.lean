import Derived.Test.YtcihcbfcgjepfaaGreatDoorBfOwA
import Derived.Test.YtcihcbfcgjepfaaGreatDoorBfPrA
import Derived.Test.YtcihcbfcgjepfaaGreatDoorShSixteen
import Derived.Test.YtcihcbfcgjepfaaGreatDoorShTen
/- Table: what a value becomes in a field, the reference. No condition. -/
set_option maxRecDepth 100000
set_option linter.unusedVariables false
set_option linter.unusedSimpArgs false
namespace Go.Proofs.YtcihcbfcgjepfaaGreatDoor
open Go.Sh Go.RowKit Tryz
theorem zYH(l:List UInt8)(s:ByteArray):bs l=s ↔ l=s.data.toList:=by
 constructor
 ·intro h;rw[←h]
 ·intro h;rw[h]
theorem yYq(n:Int)(w:World):Calls prog 146 #[.int .i64 n] w λe w'=>e=.returned (.bool (zVb n))/\Pu w w':=by
 refine yJJ _ w _ (Br.of (λd=>?_) (λd=>?_))
 ·exact⟨by rw[zVb,decide_eq_true (show 0<=n from zQm d)];rfl,Pu.refl w⟩
 ·exact⟨by rw[zVb,decide_eq_false (show ¬0<=n from zQh d)];rfl,Pu.refl w⟩
theorem yJX(f:Fld)(p:Int)(v:Val)(w:World):Calls prog 96 #[yXu f,.int .i64 p,zZh v] w λe w'=>e=.returned (.bool (zQT f p v))/\Pu w w':=by
 refine yYb _ _ _ _ _ _ _ _ w _ ?_
 refine alB λw1 al ay=>alB λw2 aj ag=>?_
 have aG:=al.trans aj
 have b1:∀{wz},Pu w2 wz->wz.heap[w.heap.size]?=some (.cells #[.string f.name,.int .i64 f.kind,.int .i64 f.width,.bool f.null] 38):=λh=>h.blk (aj.blk ay)
 have b2:∀{wz},Pu w2 wz->wz.heap[w1.heap.size]?=some (.cells #[.int .i64 v.kind,.int .i64 v.n,.string v.s] 28):=λh=>h.blk ag
 have q0:=b2 (Pu.refl w2)
 refine⟨_,cl q0 0,_,cl q0 1,_,cl q0 2,(yXR v w2).mono ?_⟩
 rintro e w3 ⟨rfl,am⟩
 have aF:=aG.trans am
 have out:∀{wz:World} {b:Bool},Pu w wz->zQT f p v=b->(Ending.returned (Value.bool b)=Ending.returned (Value.bool (zQT f p v))/\Pu w wz):=λh1 h2=>⟨by rw[h2],h1⟩
 refine⟨_,rfl,Br.of (λd=>out aF (by unfold zQT;rw[if_pos (zQ4 d)])) (λd=>?_)⟩
 have hv:=zQu d
 have uI:¬zXn v ≠ 0:=by omega
 obtain⟨hvs,hvn,hv4⟩:=zKx hv
 refine⟨_,cl0 (b2 am),Br.of (λd0=>⟨_,cl (b1 am) 3,out aF (by unfold zQT;rw[if_neg uI,if_pos (zQA d0)])⟩) (λd0=>⟨_,cl (b1 am) 1,Br.of (λd1=>?_) (λd1=>?_)⟩)⟩
 ·refine⟨_,cl0 (b2 am),Br.of (λd2=>⟨_,cl (b2 am) 1,(yYq v.n w3).mono ?_⟩) (λd2=>out aF ?_)⟩
  ·rintro e w4 ⟨rfl,ar⟩
   exact⟨_,rfl,out (aF.trans ar) (by unfold zQT;rw[if_neg uI,if_neg (zQo d0),if_pos (zQA d1),decide_eq_true (zQA d2)];rfl)⟩
  ·unfold zQT;rw[if_neg uI,if_neg (zQo d0),if_pos (zQA d1),decide_eq_false (zQo d2)];rfl
 have e0:zQT f p v=if v.kind ≠ f.kind then false else if f.kind=2 then decide (((zJV v.n).length:Int)<=f.width)else if f.kind=4 then decide ((v.s.size:Int)<=f.width) && decide (zZf v.s.data.toList=v.s.data.toList) && zXG v.s.data.toList p else true:=by
  unfold zQT;rw[if_neg uI,if_neg (zQo d0),if_neg (zQo d1)]
 refine⟨_,cl0 (b2 am),_,cl (b1 am) 1,Br.of (λd2=>out aF (by rw[e0,if_pos (zQ4 d2)])) (λd2=>⟨_,cl (b1 am) 1,Br.of (λd3=>?_) (λd3=>⟨_,cl (b1 am) 1,Br.of (λd4=>?_) (λd4=>out aF ?_)⟩)⟩)⟩
 ·have d2:=zQu d2
  have d3:=zQA d3
  have hn:zJU v.n:=by rw[d2,d3]at hvn;simp[okN]at hvn;exact⟨by omega,by omega⟩
  refine zQf λw4 ar _=>⟨λu=>Pu w4 u,Pu.refl _,v.n,λu hu=>cl (b2 ((am.trans ar).trans hu)) 1,f.width,λu hu=>cl (b1 ((am.trans ar).trans hu)) 2,(yWa hn w4).mono ?_⟩
  rintro e w5 ⟨rfl,aB⟩
  refine⟨_,rfl,aB,out ((aF.trans ar).trans aB) ?_⟩
  rw[e0,if_neg (by rw[d2];simp),if_pos d3,zXI]
 ·have d2:=zQu d2
  have d3:=zQo d3
  have d4:=zQA d4
  have e1:zQT f p v=(decide ((v.s.size:Int)<=f.width) && decide (zZf v.s.data.toList=v.s.data.toList) && zXG v.s.data.toList p):=by
   rw[e0,if_neg (by rw[d2];simp),if_neg d3,if_pos d4]
  refine zQf λw4 ar _=>⟨λu=>Pu w4 u,Pu.refl _,v.s,λu hu=>cl (b2 ((am.trans ar).trans hu)) 2,f.width,λu hu=>cl (b1 ((am.trans ar).trans hu)) 2,Br.of (λd5=>?_) (λd5=>out (aF.trans ar) ?_)⟩
  ·refine⟨v.s,λu hu=>cl (b2 ((am.trans ar).trans hu)) 2,v.s,λu hu=>cl (b2 ((am.trans ar).trans hu)) 2,(yKb v.s (by omega) w4).mono ?_⟩
   rintro e w5 ⟨rfl,aB⟩
   refine⟨_,rfl,aB,?_⟩
   rw[zZq]
   have hbe:(bs (zZf v.s.data.toList)=v.s) ↔ zZf v.s.data.toList=v.s.data.toList:=zYH _ _
   refine Br.of (λd6=>⟨v.s,λu hu=>cl (b2 ((am.trans ar).trans hu)) 2,(zVM v.s (by omega) p w5).mono ?_⟩) (λd6=>out ((aF.trans ar).trans aB) ?_)
   ·rintro e w6 ⟨rfl,bx⟩
    refine⟨_,rfl,out (((aF.trans ar).trans aB).trans bx) ?_⟩
    rw[e1,decide_eq_true (zQm d5),decide_eq_true (hbe.1 (zQm d6))];rfl
   ·rw[e1,decide_eq_false (λh=>zQh d6 (hbe.2 h))];simp
  ·rw[e1,decide_eq_false (zQh d5)];rfl
 ·rw[e0,if_neg (by rw[zQu d2];simp),if_neg (zQo d3),if_neg (zQo d4)]
theorem yKS(f:Fld)(p:Int)(v:Val)(hfB:zQ5 f=true)(hvs:v.s.size<=140737488355328)(w:World):Calls prog 46 #[yXu f,.int .i64 p,zZh v] w λe w'=>
  e=.returned (.tuple #[zZh (zQO f p v).1,.int .i64 (zQO f p v).2])/\Pu w w':=by
 refine yWD _ _ _ _ _ _ _ _ w _ ?_
 refine alB λw1 al ay=>alB λw2 aj ag=>alB λw3 am aH=>?_
 have z1:w1.heap.size<=w2.heap.size:=aj.size
 have z0:w.heap.size<=w1.heap.size:=al.size
 have aF:Pu w w3:=(al.trans aj).trans am
 have out:∀{wz:World} (v':Val) (k:Int) {c:Array Value},Pu w wz->wz.heap[w2.heap.size]?=some (.cells c 28)->c.size=3->zQO f p v=(v',k)->
   stA prog 28 (⟨w2.heap.size,0,none⟩:Addr) #[.int .i64 v'.kind,.int .i64 v'.n,.string v'.s] wz λw'=>∃n0:Int,w'.cell? ((⟨w2.heap.size,0,none⟩:Addr).add 0)=some (.int .i64 n0)/\∃n1:Int,w'.cell? ((⟨w2.heap.size,0,none⟩:Addr).add 1)=some (.int .i64 n1)/\
    ∃s2:ByteArray,w'.cell? ((⟨w2.heap.size,0,none⟩:Addr).add 2)=some (.string s2)/\(Ending.returned (.tuple #[.agg #[.int .i64 n0,.int .i64 n1,.string s2],.int .i64 k])=.returned (.tuple #[zZh (zQO f p v).1,.int .i64 (zQO f p v).2])/\Pu w w'):=λ{wz} v' k {c} h1 h2 h3 h4=>
  retV (R:=λe w'=>e=.returned (.tuple #[zZh (zQO f p v).1,.int .i64 (zQO f p v).2])/\Pu w w') v' k h2 h3 λw' hf=>⟨by rw[h4],h1.andNew hf λi hi=>by have hi:i=w2.heap.size:=hi;omega⟩
 have b1:∀{wz},Pu w3 wz->wz.heap[w.heap.size]?=some (.cells #[.string f.name,.int .i64 f.kind,.int .i64 f.width,.bool f.null] 38):=λh=>h.blk (am.blk (aj.blk ay))
 have b2:∀{wz},Pu w3 wz->wz.heap[w1.heap.size]?=some (.cells #[.int .i64 v.kind,.int .i64 v.n,.string v.s] 28):=λh=>h.blk (am.blk ag)
 have b3:∀{wz},Pu w3 wz->wz.heap[w2.heap.size]?=some (.cells #[.int .i64 0,.int .i64 0,.string ⟨#[]⟩] 28):=λh=>h.blk aH
 have q1:=b1 (Pu.refl w3)
 have q2:=b2 (Pu.refl w3)
 have q3:=b3 (Pu.refl w3)
 refine⟨_,cl0 q2,Br.of (λd0=>⟨_,cl q1 3,Br.of (λd1=>out noV 7 aF q3 rfl ?_) (λd1=>⟨_,cl q2 0,_,cl q2 1,_,cl q2 2,out v 0 aF q3 rfl ?_⟩)⟩) (λd0=>⟨_,cl q1 1,?_⟩)⟩
 ·unfold zQO;rw[if_pos (zQA d0),show f.null=false by simpa using d1];rfl
 ·unfold zQO;rw[if_pos (zQA d0),show f.null=true by simpa using d1];rfl
 have d0:=zQo d0
 -- behind the question for the kind
 have zQz:v.kind=(zQ9 f).kind->∀(m:Int),f.kind=m->
   Br (m == 4) (∃sv:ByteArray,w3.cell? ((⟨w1.heap.size,0,none⟩:Addr).add 2)=some (.string sv)/\∃wU:ByteArray,w3.cell? ((⟨w1.heap.size,0,none⟩:Addr).add 2)=some (.string wU)/\∃pU:Int,w3.cell? ((⟨w.heap.size,0,none⟩:Addr).add 2)=some (.int .i64 pU)/\
    ∃gX:Int,∃au:World,(Builtin.min_ #[3,3] 3 #[.int .i64 ((wU.size:Nat):Int),.int .i64 pU]).run prog w3=.ok (.int .i64 gX) au/\0<=gX/\gX.toNat<=sv.size/\0<=gX.toNat/\
    Calls prog 99 #[.string (sv.extract 0 gX.toNat)] au λe av=>∃sw:ByteArray,e=.returned (.string sw)/\Calls prog 100 #[.string sw,.int .i64 p] av λe ao=>∃sj:Bool,e=.returned (.bool sj)/\
    Br (!sj) (stA prog 28 (⟨w2.heap.size,0,none⟩:Addr) #[.int .i64 0,.int .i64 0,.string (⟨#[]⟩:ByteArray)] ao λaE=>∃aa:Int,aE.cell? ((⟨w2.heap.size,0,none⟩:Addr).add 0)=some (.int .i64 aa)/\∃ac:Int,aE.cell? ((⟨w2.heap.size,0,none⟩:Addr).add 1)=some (.int .i64 ac)/\∃ae:ByteArray,aE.cell? ((⟨w2.heap.size,0,none⟩:Addr).add 2)=some (.string ae)/\
      (Ending.returned (.tuple #[.agg #[.int .i64 aa,.int .i64 ac,.string ae],.int .i64 10])=.returned (.tuple #[zZh (zQO f p v).1,.int .i64 (zQO f p v).2])/\Pu w aE)) (
     Calls prog 101 #[.string sw] ao λe aD=>∃fO:Int,∃fP:Int,∃jm:ByteArray,e=.returned (.agg #[.int .i64 fO,.int .i64 fP,.string jm])/\
     stA prog 28 (⟨w2.heap.size,0,none⟩:Addr) #[.int .i64 fO,.int .i64 fP,.string jm] aD λaU=>∃aa:Int,aU.cell? ((⟨w2.heap.size,0,none⟩:Addr).add 0)=some (.int .i64 aa)/\∃ac:Int,aU.cell? ((⟨w2.heap.size,0,none⟩:Addr).add 1)=some (.int .i64 ac)/\∃ae:ByteArray,aU.cell? ((⟨w2.heap.size,0,none⟩:Addr).add 2)=some (.string ae)/\
      (Ending.returned (.tuple #[.agg #[.int .i64 aa,.int .i64 ac,.string ae],.int .i64 0])=.returned (.tuple #[zZh (zQO f p v).1,.int .i64 (zQO f p v).2])/\Pu w aU))) (
    ∃jn:ByteArray,w3.cell? ((⟨w.heap.size,0,none⟩:Addr).add 0)=some (.string jn)/\∃jo:Int,w3.cell? ((⟨w.heap.size,0,none⟩:Addr).add 1)=some (.int .i64 jo)/\∃jp:Int,w3.cell? ((⟨w.heap.size,0,none⟩:Addr).add 2)=some (.int .i64 jp)/\∃jq:Bool,w3.cell? ((⟨w.heap.size,0,none⟩:Addr).add 3)=some (.bool jq)/\
    ∃fQ:Int,w3.cell? ((⟨w1.heap.size,0,none⟩:Addr).add 0)=some (.int .i64 fQ)/\∃fR:Int,w3.cell? ((⟨w1.heap.size,0,none⟩:Addr).add 1)=some (.int .i64 fR)/\∃fS:ByteArray,w3.cell? ((⟨w1.heap.size,0,none⟩:Addr).add 2)=some (.string fS)/\
    Calls prog 96 #[.agg #[.string jn,.int .i64 jo,.int .i64 jp,.bool jq],.int .i64 p,.agg #[.int .i64 fQ,.int .i64 fR,.string fS]] w3 λe bD=>∃wV:Bool,e=.returned (.bool wV)/\
    Br (!wV) (stA prog 28 (⟨w2.heap.size,0,none⟩:Addr) #[.int .i64 0,.int .i64 0,.string (⟨#[]⟩:ByteArray)] bD λaE=>∃aa:Int,aE.cell? ((⟨w2.heap.size,0,none⟩:Addr).add 0)=some (.int .i64 aa)/\∃ac:Int,aE.cell? ((⟨w2.heap.size,0,none⟩:Addr).add 1)=some (.int .i64 ac)/\∃ae:ByteArray,aE.cell? ((⟨w2.heap.size,0,none⟩:Addr).add 2)=some (.string ae)/\
      (Ending.returned (.tuple #[.agg #[.int .i64 aa,.int .i64 ac,.string ae],.int .i64 10])=.returned (.tuple #[zZh (zQO f p v).1,.int .i64 (zQO f p v).2])/\Pu w aE)) (
     ∃jr:Int,bD.cell? ((⟨w1.heap.size,0,none⟩:Addr).add 0)=some (.int .i64 jr)/\∃js:Int,bD.cell? ((⟨w1.heap.size,0,none⟩:Addr).add 1)=some (.int .i64 js)/\∃jt:ByteArray,bD.cell? ((⟨w1.heap.size,0,none⟩:Addr).add 2)=some (.string jt)/\
     stA prog 28 (⟨w2.heap.size,0,none⟩:Addr) #[.int .i64 jr,.int .i64 js,.string jt] bD λaU=>∃aa:Int,aU.cell? ((⟨w2.heap.size,0,none⟩:Addr).add 0)=some (.int .i64 aa)/\∃ac:Int,aU.cell? ((⟨w2.heap.size,0,none⟩:Addr).add 1)=some (.int .i64 ac)/\∃ae:ByteArray,aU.cell? ((⟨w2.heap.size,0,none⟩:Addr).add 2)=some (.string ae)/\
      (Ending.returned (.tuple #[.agg #[.int .i64 aa,.int .i64 ac,.string ae],.int .i64 0])=.returned (.tuple #[zZh (zQO f p v).1,.int .i64 (zQO f p v).2])/\Pu w aU))):=by
  rintro hk m rfl
  have hF:zQO f p v=if f.kind=4 then(if zXG (zZf (v.s.data.toList.take f.width.toNat)) p then(⟨4,0,bs (zZf (v.s.data.toList.take f.width.toNat))⟩,0)else(noV,10))else if zQT f p v then(v,0)else(noV,10):=by
   unfold zQO;rw[if_neg d0,if_neg (by rw[hk];simp)]
  refine Br.of (λd2=>?_) (λd2=>?_)
  ·have d2:=zQA d2
   obtain⟨wl,wh⟩:=zWq hfB d2
   rw[if_pos d2]at hF
   refine⟨_,cl q2 2,_,cl q2 2,_,cl q1 2,_,w3,yKN _ _ _ _ _ _,by omega,by omega,by omega,(yKb _ (by have:=zXt v.s 0 (min (v.s.size:Int) f.width).toNat;have:=zZc (v.s.extract 0 (min (v.s.size:Int) f.width).toNat);simp at *;omega) w3).mono ?_⟩
   rintro e w9 ⟨rfl,bR⟩
   have et:(v.s.extract 0 (min (v.s.size:Int) f.width).toNat).data.toList=v.s.data.toList.take f.width.toNat:=by
    rw[zXt,List.drop_zero];exact yX2 _ _ _ (by simp) (by omega)
   rw[et]
   have hbl:(bs (zZf (v.s.data.toList.take f.width.toNat))).size<=140737488355328:=by
    rw[zXI];have:=zYs (v.s.data.toList.take f.width.toNat);have:=List.length_take_le' f.width.toNat v.s.data.toList;rw[zZc]at this;omega
   generalize hg:zZf (v.s.data.toList.take f.width.toNat)=B at *
   refine⟨_,rfl,(zVM _ hbl p w9).mono ?_⟩
   rintro e au ⟨rfl,cZ⟩
   rw[zJw]
   have jL:=bR.trans cZ
   refine⟨_,rfl,Br.of (λd3=>out noV 10 (aF.trans jL) (b3 jL) rfl ?_) (λd3=>(xJH (bs B) au).mono ?_)⟩
   ·rw[hF,show zXG B p=false by simpa using d3];rfl
   ·rintro e av ⟨rfl,cY⟩
    refine⟨_,_,_,rfl,out ⟨4,0,bs B⟩ 0 (aF.trans (jL.trans cY)) (b3 (jL.trans cY)) rfl ?_⟩
    rw[hF,show zXG B p=true by simpa using d3];rfl
  ·have d2:=zQo d2
   rw[if_neg d2]at hF
   refine⟨_,cl q1 0,_,cl q1 1,_,cl q1 2,_,cl q1 3,_,cl q2 0,_,cl q2 1,_,cl q2 2,(yJX f p v w3).mono ?_⟩
   rintro e w9 ⟨rfl,bR⟩
   refine⟨_,rfl,Br.of (λd3=>out noV 10 (aF.trans bR) (b3 bR) rfl ?_) (λd3=>⟨_,cl (b2 bR) 0,_,cl (b2 bR) 1,_,cl (b2 bR) 2,out v 0 (aF.trans bR) (b3 bR) rfl ?_⟩)⟩
   ·rw[hF,show zQT f p v=false by simpa using d3];rfl
   ·rw[hF,show zQT f p v=true by simpa using d3];rfl
 have six:v.kind ≠ (zQ9 f).kind->zQO f p v=(noV,6):=λh=>by unfold zQO;rw[if_neg d0,if_pos h]
 refine Br.of (λd1=>⟨_,cl0 q2,Br.of (λd2=>out noV 6 aF q3 rfl (six ?_)) (λd2=>⟨_,cl q1 1,zQz ?_ _ rfl⟩)⟩) (λd1=>⟨_,cl0 q2,Br.of (λd2=>out noV 6 aF q3 rfl (six ?_)) (λd2=>⟨_,cl q1 1,zQz ?_ _ rfl⟩)⟩)
 ·unfold zQ9;rw[if_pos (zQA d1)];exact zQ4 d2
 ·unfold zQ9;rw[if_pos (zQA d1)];exact zQu d2
 ·unfold zQ9;rw[if_neg (zQo d1)];exact zQ4 d2
 ·unfold zQ9;rw[if_neg (zQo d1)];exact zQu d2
theorem xZ7(f:Fld)(p:Int)(v:Val)(w:World):Calls prog 13 #[yXu f,.int .i64 p,zZh v] w λe w'=>
  e=.returned (.tuple #[zZh (zZM f p v).1,.int .i64 (zZM f p v).2])/\Pu w w':=by
 refine yWA _ _ _ _ _ _ _ _ w _ ?_
 refine alB λw1 al ay=>alB λw2 aj ag=>alB λw3 am aH=>?_
 have z1:w1.heap.size<=w2.heap.size:=aj.size
 have z0:w.heap.size<=w1.heap.size:=al.size
 have aF:Pu w w3:=(al.trans aj).trans am
 have out:∀{wz:World} (v':Val) (k:Int) {c:Array Value},Pu w wz->wz.heap[w2.heap.size]?=some (.cells c 28)->c.size=3->zZM f p v=(v',k)->
   stA prog 28 (⟨w2.heap.size,0,none⟩:Addr) #[.int .i64 v'.kind,.int .i64 v'.n,.string v'.s] wz λw'=>∃n0:Int,w'.cell? ((⟨w2.heap.size,0,none⟩:Addr).add 0)=some (.int .i64 n0)/\∃n1:Int,w'.cell? ((⟨w2.heap.size,0,none⟩:Addr).add 1)=some (.int .i64 n1)/\
    ∃s2:ByteArray,w'.cell? ((⟨w2.heap.size,0,none⟩:Addr).add 2)=some (.string s2)/\(Ending.returned (.tuple #[.agg #[.int .i64 n0,.int .i64 n1,.string s2],.int .i64 k])=.returned (.tuple #[zZh (zZM f p v).1,.int .i64 (zZM f p v).2])/\Pu w w'):=λ{wz} v' k {c} h1 h2 h3 h4=>
  retV (R:=λe w'=>e=.returned (.tuple #[zZh (zZM f p v).1,.int .i64 (zZM f p v).2])/\Pu w w') v' k h2 h3 λw' hf=>⟨by rw[h4],h1.andNew hf λi hi=>by have hi:i=w2.heap.size:=hi;omega⟩
 have b1:∀{wz},Pu w3 wz->wz.heap[w.heap.size]?=some (.cells #[.string f.name,.int .i64 f.kind,.int .i64 f.width,.bool f.null] 38):=λh=>h.blk (am.blk (aj.blk ay))
 have b2:∀{wz},Pu w3 wz->wz.heap[w1.heap.size]?=some (.cells #[.int .i64 v.kind,.int .i64 v.n,.string v.s] 28):=λh=>h.blk (am.blk ag)
 have b3:∀{wz},Pu w3 wz->wz.heap[w2.heap.size]?=some (.cells #[.int .i64 0,.int .i64 0,.string ⟨#[]⟩] 28):=λh=>h.blk aH
 have q0:=b1 (Pu.refl w3)
 refine⟨_,cl q0 0,_,cl q0 1,_,cl q0 2,_,cl q0 3,(zV0 f w3).mono ?_⟩
 rintro e w4 ⟨rfl,ar⟩
 refine⟨_,rfl,Br.of (λd=>out noV 1 (aF.trans ar) (b3 ar) rfl (zZI (by simp at d;simp[d]))) (λd=>(zYD p w4).mono ?_)⟩
 have hfB:zQ5 f=true:=by simpa using d
 rintro e w5 ⟨rfl,aB⟩
 have bw:=ar.trans aB
 refine⟨_,rfl,Br.of (λd=>out noV 1 (aF.trans bw) (b3 bw) rfl (zZI (by simp at d;simp[d]))) (λd=>?_)⟩
 have hpB:zXm p=true:=by simpa using d
 have hB:(zQ5 f && zXm p)=true:=by rw[hfB,hpB];rfl
 refine⟨_,cl (b2 bw) 0,_,cl (b2 bw) 1,_,cl (b2 bw) 2,(yXR v w5).mono ?_⟩
 rintro e w6 ⟨rfl,bx⟩
 have bm:=bw.trans bx
 refine⟨_,rfl,Br.of (λd=>out noV (zXn v) (aF.trans bm) (b3 bm) rfl (zJx hB (zQ4 d))) (λd=>?_)⟩
 have hv:=zQu d
 refine⟨_,cl (b1 bm) 0,_,cl (b1 bm) 1,_,cl (b1 bm) 2,_,cl (b1 bm) 3,_,cl (b2 bm) 0,_,cl (b2 bm) 1,_,cl (b2 bm) 2,(yKS f p v hfB (by have:=(zKx hv).1;omega) w6).mono ?_⟩
 rintro e w7 ⟨rfl,bU⟩
 exact⟨_,_,_,_,rfl,out _ _ (aF.trans (bm.trans bU)) (b3 (bm.trans bU)) rfl (zZV hB hv)⟩
end Go.Proofs.YtcihcbfcgjepfaaGreatDoor
/- Table: rows of fields: which are right, and how wide they are. No condition. -/
namespace Go.Proofs.YtcihcbfcgjepfaaGreatDoor
open Go.Sh Go.RowKit Tryz
theorem zJ4{α:Type}[DecidableEq α]{l:List α}{x:α}:(l ++ [x]).Nodup ↔ l.Nodup/\x ∉ l:=by
 rw[List.nodup_append]
 constructor
 ·rintro⟨h1,_,h3⟩;exact⟨h1,λhx=>h3 x hx x (by simp) rfl⟩
 ·rintro⟨h1,h2⟩;exact⟨h1,by simp,λa ha b hb e=>by simp at hb;subst hb;subst e;exact h2 ha⟩
theorem yXO(l:List Fld):(zWU l:Int)<=l.length+1:=by
 unfold zWU
 have:=List.length_filter_le (·.null) l
 omega
theorem yJ4 {l:List Fld} {k:Nat} {f:Fld} (h:l[k]?=some f):((l.take (k+1)).filter (·.null)).length=((l.take k).filter (·.null)).length+(if f.null then 1 else 0):=by
 rw[zQP h,List.filter_append,List.length_append]
 cases hx:f.null <;> simp[hx]
theorem zVe {l:List Fld} {k:Nat} {f:Fld} (h:l[k]?=some f):((l.take (k+1)).filter (·.null)).length=if f.null then((l.take k).filter (·.null)).length+1 else((l.take k).filter (·.null)).length:=by
 rw[yJ4 h];cases f.null <;> rfl
theorem yXf{w:World}{s:SV}{l:List Fld}(h:zXP w s l):Calls prog 176 #[.slice s.a s.len s.cap] w λe w'=>e=.returned (.int .i64 (zWU l:Nat))/\Pu w w':=by
 refine yZw _ w _ ?_
 have hlen:=h.len
 have hlim:=h.lim
 refine zQ1 l.length (λk t w'=>t.2=(k:Int)/\t.1=(((l.take k).filter (·.null)).length:Nat)/\Pu w w') ⟨rfl,rfl,Pu.refl _⟩ ?_
 rintro k J ⟨t1,t2⟩ w2 hk ⟨ht2,ht1,hp⟩ hJ
 obtain rfl:t2=(k:Int):=ht2
 obtain rfl:t1=(((l.take k).filter (·.null)).length:Nat):=ht1
 have hle:=List.length_filter_le (·.null) (l.take k)
 have hle2:=List.length_take_le k l
 dsimp only
 refine Br.of (λd=>?_) (λd=>?_)
 ·have ak:k<l.length:=by have:=zQm d;omega
  obtain⟨f,hf⟩:=zXe ak
  obtain⟨a,ha,hi,_,_,_,c0,c1,c2,c3⟩:=zZ2 (h.pu hp) hf
  refine⟨a,ha,by omega,by omega,_,c0,_,c1,_,c2,_,c3,xZY rfl s23.symm rfl λw4 ar se aZ=>⟨_,cl aZ 3,?_⟩⟩
  have e:=zVe hf
  rw[zQd (n:=(k:Int)+1) (by omega) (by omega)]
  refine Br.of (λd1=>hJ _ _ ak ⟨by dsimp only;omega,?_,hp.trans ar⟩) (λd1=>hJ _ _ ak ⟨by dsimp only;omega,?_,hp.trans ar⟩)
  ·rw[if_pos d1]at e;dsimp only;rw[e,zQd (by omega) (by omega)];omega
  ·rw[if_neg (by rw[d1];simp)]at e;dsimp only;rw[e]
 ·have ak:k=l.length:=by have:=zQh d;omega
  subst ak
  rw[List.take_length]at *
  refine⟨rfl,by omega,?_,hp⟩
  rw[zQd (n:=((l.filter (·.null)).length:Int)+7) (by omega) (by omega),Int.tdiv_eq_ediv_of_nonneg (by omega),zQd (by omega) (by omega)]
  unfold zWU;congr 2
theorem yYv{w:World}{s:SV}{l:List Fld}(h:zXP w s l):Calls prog 145 #[.slice s.a s.len s.cap] w λe w'=>e=.returned (.int .i64 (zWU l:Nat))/\Pu w w':=by
 refine yZR _ w _ ?_
 have hlen:=h.len
 have hlim:=h.lim
 refine zQ1 l.length (λk t w'=>t.2=(k:Int)/\t.1=(((l.take k).filter (·.null)).length:Nat)/\Pu w w') ⟨rfl,rfl,Pu.refl _⟩ ?_
 rintro k J ⟨t1,t2⟩ w2 hk ⟨ht2,ht1,hp⟩ hJ
 obtain rfl:t2=(k:Int):=ht2
 obtain rfl:t1=(((l.take k).filter (·.null)).length:Nat):=ht1
 have hle:=List.length_filter_le (·.null) (l.take k)
 have hle2:=List.length_take_le k l
 dsimp only
 refine Br.of (λd=>?_) (λd=>?_)
 ·have ak:k<l.length:=by have:=zQm d;omega
  obtain⟨f,hf⟩:=zXe ak
  obtain⟨a,ha,hi,_,_,_,c0,c1,c2,c3⟩:=zZ2 (h.pu hp) hf
  refine⟨a,ha,by omega,by omega,_,c3,?_⟩
  have e:=zVe hf
  rw[zQd (n:=(k:Int)+1) (by omega) (by omega)]
  refine Br.of (λd1=>hJ _ _ ak ⟨by dsimp only;omega,?_,hp⟩) (λd1=>hJ _ _ ak ⟨by dsimp only;omega,?_,hp⟩)
  ·rw[if_pos d1]at e;dsimp only;rw[e,zQd (by omega) (by omega)];omega
  ·rw[if_neg (by rw[d1];simp)]at e;dsimp only;rw[e]
 ·have ak:k=l.length:=by have:=zQh d;omega
  subst ak
  rw[List.take_length]at *
  refine⟨rfl,by omega,?_,hp⟩
  rw[zQd (n:=((l.filter (·.null)).length:Int)+7) (by omega) (by omega),Int.tdiv_eq_ediv_of_nonneg (by omega),zQd (by omega) (by omega)]
  unfold zWU;congr 2
def WOk(l:List Fld):Prop:=∀f ∈ l,0<=f.width/\f.width<=254
theorem yXr{f:Fld}(h:zQ5 f=true):1<=f.width/\f.width<=254:=by
 unfold zQ5 zWi at h
 simp only[Bool.and_eq_true]at h
 have h:=h.2
 split at h
 ·simp at h;omega
 ·split at h
  ·simp at h;omega
  ·split at h
   ·simp at h;omega
   ·split at h
    ·simp at h;omega
    ·split at h
     ·simp at h;omega
     ·simp at h
theorem WOk.of{l:List Fld}(h:l.all zQ5=true):WOk l:=λf hf=>by have:=yXr (List.all_eq_true.1 h f hf);omega
theorem yXY {l:List Fld} {k:Nat} {f:Fld} (h:l[k]?=some f):((l.take (k+1)).map (·.width)).sum=((l.take k).map (·.width)).sum+f.width:=by
 rw[zQP h,List.map_append,List.sum_append];simp
theorem xQJ{l:List Fld}(h:WOk l):0<=(l.map (·.width)).sum/\(l.map (·.width)).sum<=254 * l.length:=by
 induction l with
 | nil=>simp
 | cons f l ih=>
  have h1:=h f (by simp)
  have h2:=ih λg hg=>h g (by simp[hg])
  simp only[List.map_cons,List.sum_cons,List.length_cons];omega
theorem WOk.take{l:List Fld}(h:WOk l)(k:Nat):WOk (l.take k):=λf hf=>h f (List.mem_of_mem_take hf)
theorem yYy{w:World}{s:SV}{l:List Fld}(h:zXP w s l)(hw:WOk l):Calls prog 144 #[.slice s.a s.len s.cap] w λe w'=>e=.returned (.int .i64 (wide l))/\Pu w w':=by
 refine yJG _ w _ ((yXf h).mono ?_)
 rintro e w1 ⟨rfl,al⟩
 have hlen:=h.len
 have hlim:=h.lim
 have hn:=yXO l
 refine⟨_,rfl,?_⟩
 rw[zQd (by omega) (by omega)]
 refine zQ1 l.length (λk t w'=>t.2=(k:Int)/\t.1=1+((zWU l:Nat):Int)+((l.take k).map (·.width)).sum/\Pu w w') ⟨rfl,by simp,al⟩ ?_
 rintro k J ⟨t1,t2⟩ w2 hk ⟨ht2,ht1,hp⟩ hJ
 obtain rfl:t2=(k:Int):=ht2
 obtain rfl:t1=1+((zWU l:Nat):Int)+((l.take k).map (·.width)).sum:=ht1
 have hs:=xQJ (hw.take k)
 have hle2:=List.length_take_le k l
 dsimp only
 refine Br.of (λd=>?_) (λd=>?_)
 ·have ak:k<l.length:=by have:=zQm d;omega
  obtain⟨f,hf⟩:=zXe ak
  have hwf:=hw f (List.mem_of_getElem? hf)
  obtain⟨a,ha,hi,_,_,_,c0,c1,c2,c3⟩:=zZ2 (h.pu hp) hf
  refine⟨a,ha,by omega,by omega,_,c0,_,c1,_,c2,_,c3,xZY rfl s23.symm rfl λw4 ar se aZ=>⟨_,cl aZ 2,?_⟩⟩
  rw[zQd (n:=(k:Int)+1) (by omega) (by omega),zQd (by omega) (by omega)]
  refine hJ _ _ ak ⟨by dsimp only;omega,?_,hp.trans ar⟩
  dsimp only;rw[yXY hf];omega
 ·have ak:k=l.length:=by have:=zQh d;omega
  subst ak
  rw[List.take_length]
  exact⟨rfl,hp⟩
theorem xJQ{w:World}{s:SV}{l:List Fld}(h:zXP w s l)(hw:WOk l):Calls prog 95 #[.slice s.a s.len s.cap] w λe w'=>e=.returned (.int .i64 (wide l))/\Pu w w':=by
 refine yVw _ w _ ((yYv h).mono ?_)
 rintro e w1 ⟨rfl,al⟩
 have hlen:=h.len
 have hlim:=h.lim
 have hn:=yXO l
 refine⟨_,rfl,?_⟩
 rw[zQd (by omega) (by omega)]
 refine zQ1 l.length (λk t w'=>t.2=(k:Int)/\t.1=1+((zWU l:Nat):Int)+((l.take k).map (·.width)).sum/\Pu w w') ⟨rfl,by simp,al⟩ ?_
 rintro k J ⟨t1,t2⟩ w2 hk ⟨ht2,ht1,hp⟩ hJ
 obtain rfl:t2=(k:Int):=ht2
 obtain rfl:t1=1+((zWU l:Nat):Int)+((l.take k).map (·.width)).sum:=ht1
 have hs:=xQJ (hw.take k)
 have hle2:=List.length_take_le k l
 dsimp only
 refine Br.of (λd=>?_) (λd=>?_)
 ·have ak:k<l.length:=by have:=zQm d;omega
  obtain⟨f,hf⟩:=zXe ak
  have hwf:=hw f (List.mem_of_getElem? hf)
  obtain⟨a,ha,hi,_,_,_,c0,c1,c2,c3⟩:=zZ2 (h.pu hp) hf
  refine⟨a,ha,by omega,by omega,_,c2,?_⟩
  rw[zQd (n:=(k:Int)+1) (by omega) (by omega),zQd (by omega) (by omega)]
  refine hJ _ _ ak ⟨by dsimp only;omega,?_,hp⟩
  dsimp only;rw[yXY hf];omega
 ·have ak:k=l.length:=by have:=zQh d;omega
  subst ak
  rw[List.take_length]
  exact⟨rfl,hp⟩
def yX1(l:List Fld)(g:Nat)(cap:Array Value)(p:Fld->Bool)(w0:World):Prop:=zXD prog g=true/\∀f ∈ l,∀w,Pu w0 w->Calls prog g (#[yXu f] ++ cap) w λe w'=>e=.returned (.bool (p f))/\Pu w w'
theorem zKV {p:Fld->Bool} {l:List Fld} {k:Nat} (h:∀f ∈ l.take k,p f=false) {f:Fld} (hf:l[k]?=some f) (hp:p f=true):l.findIdx? p=some k:=by
 have hk:k<l.length:=(List.getElem?_eq_some_iff.1 hf).1
 rw[List.findIdx?_eq_some_iff_getElem]
 refine⟨hk,?_,λj hj=>?_⟩
 ·rw[List.getElem?_eq_getElem hk]at hf;rw[Option.some.inj hf];exact hp
 ·have:=h l[j] (by rw[List.mem_take_iff_getElem];exact⟨j,by omega,rfl⟩)
  simpa using this
theorem zWF{w:World}{s:SV}{l:List Fld}(h:zXP w s l){g:Nat}{cap:Array Value}{p:Fld->Bool}(hg:yX1 l g cap p w):Calls prog 104 #[.slice s.a s.len s.cap,.func (.func g) #[] cap] w
  λe w'=>e=.returned (.int .i64 (match l.findIdx? p with|some k=>(k:Int)|none=>-1))/\Pu w w':=by
 refine yZP _ _ w _ ?_
 have hlen:=h.len
 have hlim:=h.lim
 refine zQ1 l.length (λk t w'=>t=(k:Int)/\(∀f ∈ l.take k,p f=false)/\Pu w w') ⟨rfl,by simp,Pu.refl _⟩ ?_
 rintro k J t w2 hk ⟨ht,hno,hp⟩ hJ
 obtain rfl:t=(k:Int):=ht
 refine Br.of (λd=>?_) (λd=>?_)
 ·have ak:k<l.length:=by have:=zQm d;omega
  obtain⟨f,hf⟩:=zXe ak
  obtain⟨a,ha,hi,_,_,_,c0,c1,c2,c3⟩:=zZ2 (h.pu hp) hf
  refine⟨a,ha,by omega,by omega,_,c0,_,c1,_,c2,_,c3,hg.1,?_⟩
  have e1:((#[]:Array Value).toList ++ (([yXu f]:List Value) ++ cap.toList)).toArray=#[yXu f] ++ cap:=by
   apply Array.ext';simp
  rw[e1]
  refine(hg.2 f (List.mem_of_getElem? hf) w2 hp).mono ?_
  rintro e w3 ⟨rfl,am⟩
  refine⟨_,rfl,Br.of (λd1=>⟨by rw[zKV hno hf d1],hp.trans am⟩) (λd1=>?_)⟩
  rw[zQd (by omega) (by omega)]
  refine hJ _ _ ak ⟨by omega,λf' hf'=>?_,hp.trans am⟩
  rw[zQP hf,List.mem_append,List.mem_singleton]at hf'
  rcases hf' with hf'|rfl
  ·exact hno f' hf'
  ·exact d1
 ·have ak:k=l.length:=by have:=zQh d;omega
  subst ak
  rw[List.take_length]at hno
  have:l.findIdx? p=none:=by rw[List.findIdx?_eq_none_iff];exact λx hx=>by rw[hno x hx]
  exact⟨by rw[this],hp⟩
theorem zVh{w:World}{s:SV}{l:List Fld}(h:zXP w s l){g:Nat}{cap:Array Value}{p:Fld->Bool}(hg:yX1 l g cap p w):Calls prog 142 #[.slice s.a s.len s.cap,.func (.func g) #[] cap] w
  λe w'=>e=.returned (.bool (l.any p))/\Pu w w':=by
 refine yJs _ _ w _ ((zWF h hg).mono ?_)
 rintro e w2 ⟨rfl,hp⟩
 refine⟨_,rfl,?_,hp⟩
 cases hx:l.findIdx? p with
 | none=>
  rw[List.findIdx?_eq_none_iff]at hx
  have:l.any p=false:=by rw[List.any_eq_false];exact λx hx'=>by rw[hx x hx'];simp
  rw[this];rfl
 | some k=>
  rw[List.findIdx?_eq_some_iff_getElem]at hx
  obtain⟨h1,h2,_⟩:=hx
  have:l.any p=true:=List.any_eq_true.2 ⟨_,List.getElem_mem h1,h2⟩
  rw[this]
  dsimp only
  rw[decide_eq_true (by omega)]
theorem yZS(f:Fld)(hs:f.name.size<=140737488355328)(w:World):Calls prog 143 #[yXu f] w λe w'=>e=.returned (.bool (!zQ5 f))/\Pu w w':=by
 refine yJn _ _ _ _ w _ (alB λw1 al ay=>⟨_,cl ay 0,_,cl ay 1,_,cl ay 2,_,cl ay 3,(yQe f hs w1).mono ?_⟩)
 rintro e w2 ⟨rfl,aj⟩
 exact⟨_,rfl,rfl,al.trans aj⟩
theorem u88:prog.underlying 177=some (.map 9 4):=by kernel_rfl
abbrev strK(s:ByteArray):Value:=.string s
abbrev xJ9(b:Bool):Value:=.bool b
theorem keysS:Keys prog 9 strK:=yY5 (by kernel_rfl)
theorem z4(w:World):(zeroValue 4).run prog w=.ok (.bool false) w:=Tryz.zeroValue4 w
def zYi(l:List Fld):List (ByteArray × Bool):=l.map λf=>(f.name,true)
theorem zY0(l:List Fld):(zYi l).map Prod.fst=l.map (·.name):=by simp[zYi]
noncomputable instance memDec (x : ByteArray) (l : List ByteArray) : Decidable (x ∈ l) := Classical.propDecidable _
theorem yWz(l:List Fld)(x:ByteArray):(AL.get (zYi l) x).elim (.bool false) xJ9=.bool (decide (x ∈ l.map (·.name))):=by
 by_cases h:x ∈ l.map (·.name)
 ·rw[decide_eq_true h]
  cases hg:AL.get (zYi l) x with
  | none=>rw[AL.get_none,zY0]at hg;exact absurd h hg
  | some v=>
   have:=AL.get_mem hg
   simp only[zYi,List.mem_map]at this
   obtain⟨f,_,he⟩:=this
   cases he;rfl
 ·rw[decide_eq_false h,(AL.get_none).2 (by rw[zY0];exact h)];rfl
theorem zKR:zQW []=1:=by unfold zQW;rw[if_pos (.inl rfl)]
theorem zVQ{l:List Fld}(h:l.all zQ5=false):zQW l=1:=by unfold zQW;rw[if_pos (.inr h)]
theorem zVs {l:List Fld} (h0:l ≠ []) (h:l.all zQ5=true) (h2:¬(l.map (·.name)).Nodup):zQW l=5:=by unfold zQW;rw[if_neg (by simp[h0,h]),if_pos h2]
theorem zVO {l:List Fld} (h0:l ≠ []) (h:l.all zQ5=true) (h2:(l.map (·.name)).Nodup):zQW l=if 16<l.length∨2000<wide l then 3 else 0:=by unfold zQW;rw[if_neg (by simp[h0,h]),if_neg (by simp[h2])]
theorem zZE {l:List Fld} {k:Nat} {f:Fld} (h:l[k]?=some f):(l.take (k+1)).map (·.name)=(l.take k).map (·.name) ++ [f.name]:=by
 rw[zQP h,List.map_append];rfl
theorem zKf {l:List Fld} {k:Nat} (h:¬((l.take k).map (·.name)).Nodup):¬(l.map (·.name)).Nodup:=λhn=>h (by
 rw[List.map_take];exact hn.sublist (List.take_sublist _ _))
theorem zKv{w:World}{s:SV}{l:List Fld}(h:zXP w s l)(hl:Lim.ok l):Calls prog 93 #[.slice s.a s.len s.cap] w λe w'=>e=.returned (.int .i64 (zQW l))/\Pu w w':=by
 refine yV3 _ w _ ?_
 have hlen:=h.len
 have hlim:=h.lim
 have nm:∀f ∈ l,f.name.size<=140737488355328:=λf hf=>hl f hf
 refine Br.of (λd=>?_) (λd=>?_)
 ·have:l=[]:=List.length_eq_zero_iff.1 (by have:=zQA d;omega)
  subst this;exact⟨by rw[zKR],Pu.refl _⟩
 have h0:l ≠ []:=λe=>by subst e;exact zQo d (by rw[hlen];rfl)
 have tells:yX1 l 143 #[] (λf=>!zQ5 f) w:=⟨by kernel_rfl,λf hf w2 _=>yZS f (nm f hf) w2⟩
 refine(zVh h tells).mono ?_
 rintro e w1 ⟨rfl,al⟩
 have hany:l.any (λf=>!zQ5 f)=!l.all zQ5:=by rw[List.all_eq_not_any_not];simp
 refine⟨_,rfl,?_⟩
 rw[hany]
 refine Br.of (λd1=>⟨by rw[zVQ (by simpa using d1)],al⟩) (λd1=>?_)
 have hall:l.all zQ5=true:=by simpa using d1
 refine zXz λw2 qX=>?_
 have aj:Pu w1 w2:=by rw[qX];exact Pu.alloc w1 _
 have hm2:zQ3 w2 strK xJ9 w1.heap.size ([]:List (ByteArray × Bool)):=by rw[qX];exact zQ3.new w1 _ _
 have z1:=al.size
 refine zQ1 l.length (λk t w'=>t=(k:Int)/\zQ3 w' strK xJ9 w1.heap.size (zYi (l.take k))/\((l.take k).map (·.name)).Nodup/\Pu w w') ⟨rfl,hm2,by simp,al.trans aj⟩ ?_
 rintro k J t w3 hk ⟨ht,hm,hnd,hp⟩ hJ
 obtain rfl:t=(k:Int):=ht
 refine Br.of (λd2=>?_) (λd2=>?_)
 ·have ak:k<l.length:=by have:=zQm d2;omega
  obtain⟨f,hf⟩:=zXe ak
  obtain⟨a,ha,hi,_,_,_,c0,c1,c2,c3⟩:=zZ2 (h.pu hp) hf
  refine⟨a,ha,by omega,by omega,_,c0,_,c1,_,c2,_,c3,xZY rfl s23.symm rfl λw4 ar se aZ=>⟨_,cl0 aZ,decide (f.name ∈ (l.take k).map (·.name)),w4,?_,?_⟩⟩
  ·have:=(hm.pu ar).look keysS u88 (z4 w4) f.name false
   rw[yWz]at this;exact this
  refine Br.of (λd3=>⟨?_,hp.trans ar⟩) (λd3=>⟨_,cl0 aZ,?_⟩)
  ·rw[zVs h0 hall (zKf (k:=k+1) (by rw[zZE hf,zJ4];exact λh=>h.2 (zQm d3)))]
  ·obtain⟨w5,e5,h5,f5,_⟩:=(hm.pu ar).upd keysS u88 f.name true
   refine⟨w5,e5,?_⟩
   rw[zQd (by omega) (by omega)]
   have hput:AL.put (zYi (l.take k)) f.name true=zYi (l.take (k+1)):=by
    rw[AL.put_new ((AL.get_none).2 (by rw[zY0];exact zQh d3))]
    simp only[zYi]
    rw[zQP hf,List.map_append];rfl
   rw[hput]at h5
   refine hJ _ _ ak ⟨by omega,h5,by rw[zZE hf,zJ4];exact⟨hnd,zQh d3⟩,(hp.trans ar).andNew f5 λi hi=>by have hi:i=w1.heap.size:=hi;omega⟩
 ·have ak:k=l.length:=by have:=zQh d2;omega
  subst ak
  rw[List.take_length]at hnd
  have he:=zVO h0 hall hnd
  refine Br.of (λd3=>⟨by rw[he,if_pos (.inl (by have:=zQm d3;omega))],hp⟩) (λd3=>(yYy (h.pu hp) (WOk.of hall)).mono ?_)
  rintro e w4 ⟨rfl,ar⟩
  refine⟨_,rfl,Br.of (λd4=>⟨by rw[he,if_pos (.inr (zQm d4))],hp.trans ar⟩) (λd4=>⟨by rw[he,if_neg (by have:=zQh d4;have:=zQh d3;omega)],hp.trans ar⟩)⟩
theorem zVk{w:World}{s:SV}{l:List Fld}(h:zXP w s l):Calls prog 42 #[.slice s.a s.len s.cap] w λe w'=>e=.returned (.int .i64 (zQW l))/\Pu w w':=by
 refine yJZ _ w _ ?_
 have hlen:=h.len
 have hlim:=h.lim
 refine Br.of (λd=>?_) (λd=>?_)
 ·have:l=[]:=List.length_eq_zero_iff.1 (by have:=zQA d;omega)
  subst this;exact⟨by rw[zKR],Pu.refl _⟩
 have h0:l ≠ []:=λe=>by subst e;exact zQo d (by rw[hlen];rfl)
 refine zQ1 l.length (λk t w'=>t=(k:Int)/\(l.take k).all zQ5=true/\Pu w w') ⟨rfl,rfl,Pu.refl _⟩ ?_
 rintro k J t w2 hk ⟨ht,hal,hp⟩ hJ
 obtain rfl:t=(k:Int):=ht
 refine Br.of (λd1=>?_) (λd1=>?_)
 ·have ak:k<l.length:=by have:=zQm d1;omega
  obtain⟨f,hf⟩:=zXe ak
  obtain⟨a,ha,hi,_,_,_,c0,c1,c2,c3⟩:=zZ2 (h.pu hp) hf
  refine⟨a,ha,by omega,by omega,_,c0,_,c1,_,c2,_,c3,(zV0 f w2).mono ?_⟩
  rintro e w3 ⟨rfl,am⟩
  refine⟨_,rfl,Br.of (λd2=>⟨?_,hp.trans am⟩) (λd2=>?_)⟩
  ·rw[zVQ (by rw[List.all_eq_false];exact⟨f,List.mem_of_getElem? hf,by simpa using d2⟩)]
  ·rw[zQd (by omega) (by omega)]
   exact hJ _ _ ak ⟨by omega,by rw[zZY _ hf,hal,show zQ5 f=true by simpa using d2];rfl,hp.trans am⟩
 have ak:k=l.length:=by have:=zQh d1;omega
 subst ak
 rw[List.take_length]at hal
 clear hJ J d1
 refine zQ1 l.length (λk t w'=>t=(k:Int)/\((l.take k).map (·.name)).Nodup/\Pu w w') ⟨rfl,by simp,hp⟩ ?_
 rintro k J t w3 hk ⟨ht,hnd,hp⟩ hJ
 obtain rfl:t=(k:Int):=ht
 refine Br.of (λd1=>?_) (λd1=>?_)
 ·have ak:k<l.length:=by have:=zQm d1;omega
  obtain⟨f,hf⟩:=zXe ak
  refine zQ1 k (λj t w'=>t=(j:Int)/\f.name ∉ (l.take j).map (·.name)/\Pu w w') ⟨rfl,by simp,hp⟩ ?_
  rintro j J2 t w4 hj ⟨ht,hno,ar⟩ pM
  obtain rfl:t=(j:Int):=ht
  refine Br.of (λd2=>?_) (λd2=>?_)
  ·have nh:j<k:=by have:=zQm d2;omega
   obtain⟨g,hg⟩:=zXe (show j<l.length by omega)
   refine zQf λw5 aB _=>?_
   obtain⟨a,ha,hi,_,_,c,c0,c1,c2,c3⟩:=zZ2 (h.pu (ar.trans aB)) hf
   obtain⟨a',ha',hi',_,_,c',c0',c1',c2',c3'⟩:=zZ2 (h.pu (ar.trans aB)) hg
   refine⟨a,ha,by omega,by omega,_,c,a',ha',by omega,by omega,_,c',?_⟩
   rw[zZq]
   refine Br.of (λd3=>⟨?_,ar.trans aB⟩) (λd3=>?_)
   ·rw[zVs h0 hal (zKf (k:=k+1) (by
     rw[zZE hf,zJ4]
     refine λh=>h.2 ?_
     rw[zQm d3]
     exact List.mem_map.2 ⟨g,by rw[List.mem_take_iff_getElem];exact⟨j,by omega,by rw[List.getElem?_eq_getElem (by omega)]at hg;exact Option.some.inj hg⟩,rfl⟩))]
   ·rw[zQd (by omega) (by omega)]
    refine pM _ _ nh ⟨by omega,?_,ar.trans aB⟩
    rw[zZE hg,List.mem_append,List.mem_singleton]
    exact λh=>h.elim hno (zQh d3)
  ·have nh:j=k:=by have:=zQh d2;omega
   subst nh
   show J (IntKind.i64.wrap ((j:Int)+1)) w4
   rw[zQd (by omega) (by omega)]
   exact hJ _ _ ak ⟨by omega,by rw[zZE hf,zJ4];exact⟨hnd,hno⟩,ar⟩
 ·have ak:k=l.length:=by have:=zQh d1;omega
  subst ak
  rw[List.take_length]at hnd
  have he:=zVO h0 hal hnd
  refine Br.of (λd3=>⟨by rw[he,if_pos (.inl (by have:=zQm d3;omega))],hp⟩) (λd3=>(xJQ (h.pu hp) (WOk.of hal)).mono ?_)
  rintro e w4 ⟨rfl,ar⟩
  refine⟨_,rfl,Br.of (λd4=>⟨by rw[he,if_pos (.inr (zQm d4))],hp.trans ar⟩) (λd4=>⟨by rw[he,if_neg (by have:=zQh d4;have:=zQh d3;omega)],hp.trans ar⟩)⟩
end Go.Proofs.YtcihcbfcgjepfaaGreatDoor
/- Table: which tables are right. No condition. -/
namespace Go.Proofs.YtcihcbfcgjepfaaGreatDoor
open Go.Sh Go.RowKit Tryz
theorem yYL:zYg prog 28 [some .i64,some .i64,none]=true:=by kernel_rfl
theorem yVM:prog.eqGuardType prog.depth 28=false:=by kernel_rfl
theorem yZc{a b:Val}(h:zXJ a=zXJ b):a=b:=by
 obtain⟨a1,a2,a3⟩:=a;obtain⟨b1,b2,b3⟩:=b
 simp[zXJ]at h;simp[h]
theorem eqVal(x y:Operand)(a b:Val)(w:World):(eqS .eql 28 x y (zZh a) (zZh b)).run prog w=.ok (.bool (decide (a=b))) w:=by
 refine eqS_row (ks:=[some .i64,some .i64,none]) (xs:=zXJ a) (ys:=zXJ b) yYL yVM rfl rfl ?_ w
 rw[decide_eq_true_iff]
 exact⟨λh=>by rw[h],yZc⟩
theorem yYr {l:List UInt8} {w:Nat} (h:zZf (l.take w)=l):l.length<=w/\zZf l=l:=by
 have h1:=zYs (l.take w)
 rw[h]at h1
 have h2:=List.length_take_le w l
 have h3:l.length<=w:=by omega
 rw[List.take_of_length_le h3]at h
 exact⟨h3,h⟩
theorem fitted_holds{f:Fld}{p:Int}{v:Val}(hf:zQ5 f=true)(hv:zXn v=0)(hk:v.kind ≠ 0):(decide ((zQO f p v).2=0) && decide ((zQO f p v).1=v))=zQT f p v:=by
 have uI:¬zXn v ≠ 0:=by omega
 obtain⟨hvs,hvn,hv4⟩:=zKx hv
 unfold zQO
 rw[if_neg hk]
 by_cases h1:v.kind ≠ (zQ9 f).kind
 ·rw[if_pos h1]
  have:zQT f p v=false:=by
   unfold zQT;rw[if_neg uI,if_neg hk]
   by_cases h5:f.kind=5
   ·have:v.kind ≠ 2:=by unfold zQ9 at h1;rw[if_pos h5]at h1;exact h1
    rw[if_pos h5,decide_eq_false this];rfl
   ·have:v.kind ≠ f.kind:=by unfold zQ9 at h1;rw[if_neg h5]at h1;exact h1
    rw[if_neg h5,if_pos this]
  rw[this];simp
 rw[if_neg h1]
 by_cases h4:f.kind=4
 ·rw[if_pos h4]
  have hkv:v.kind=4:=by
    have:v.kind=(zQ9 f).kind:=by simpa using h1
    rw[this];unfold zQ9;rw[if_neg (by omega)];exact h4
  have vA:v.n=0:=by rw[hkv]at hvn;simpa[okN] using hvn
  have hfit:zQT f p v=(decide ((v.s.size:Int)<=f.width) && decide (zZf v.s.data.toList=v.s.data.toList) && zXG v.s.data.toList p):=by
   unfold zQT;rw[if_neg uI,if_neg hk,if_neg (by omega),if_neg (by rw[hkv,h4];simp),if_neg (by omega),if_pos h4]
  obtain⟨wl,wh⟩:=zWq hf h4
  have key:(zZf (v.s.data.toList.take f.width.toNat)=v.s.data.toList) ↔ ((v.s.size:Int)<=f.width/\zZf v.s.data.toList=v.s.data.toList):=by
   constructor
   ·intro h;have h2:=yYr h;rw[zZc]at h2;exact⟨by omega,h2.2⟩
   ·rintro⟨h2,h3⟩;rw[List.take_of_length_le (by rw[zZc];omega)];exact h3
  have eqv:(⟨4,0,bs (zZf (v.s.data.toList.take f.width.toNat))⟩:Val)=v ↔ zZf (v.s.data.toList.take f.width.toNat)=v.s.data.toList:=by
   rw[←zYH]
   obtain⟨k,n,s⟩:=v
   simp only at hkv vA
   subst hkv vA
   simp
  have key2:(decide ((v.s.size:Int)<=f.width) && decide (zZf v.s.data.toList=v.s.data.toList))=decide (zZf (v.s.data.toList.take f.width.toNat)=v.s.data.toList):=by rw[←Bool.decide_and];exact zZy key.symm
  rw[hfit,key2]
  by_cases hb:zZf (v.s.data.toList.take f.width.toNat)=v.s.data.toList
  ·rw[decide_eq_true hb,hb]
   cases ht:zXG v.s.data.toList p
   ·simp
   ·rw[if_pos rfl]
    have h9:=eqv.2 hb
    rw[hb]at h9
    simp[h9]
  ·rw[decide_eq_false hb]
   cases ht:zXG (zZf (v.s.data.toList.take f.width.toNat)) p
   ·simp
   ·rw[if_pos rfl]
    have h9:¬(⟨4,0,bs (zZf (v.s.data.toList.take f.width.toNat))⟩:Val)=v:=λh=>hb (eqv.1 h)
    simp[h9]
 ·rw[if_neg h4]
  cases hfit:zQT f p v
  ·simp
  ·simp
theorem xJ7(f:Fld)(p:Int)(v:Val)(hs:f.name.size<=140737488355328)(hf:zQ5 f=true)(hpg:zXm p=true)(w:World):Calls prog 94 #[yXu f,.int .i64 p,zZh v] w λe w'=>e=.returned (.bool (zQT f p v))/\Pu w w':=by
 refine yKV _ _ _ _ _ _ _ _ w _ ?_
 refine alB λw1 al ay=>alB λw2 aj ag=>?_
 have aG:=al.trans aj
 have b1:∀{wz},Pu w2 wz->wz.heap[w.heap.size]?=some (.cells #[.string f.name,.int .i64 f.kind,.int .i64 f.width,.bool f.null] 38):=λh=>h.blk (aj.blk ay)
 have b2:∀{wz},Pu w2 wz->wz.heap[w1.heap.size]?=some (.cells #[.int .i64 v.kind,.int .i64 v.n,.string v.s] 28):=λh=>h.blk ag
 have q1:=b1 (Pu.refl w2)
 have q2:=b2 (Pu.refl w2)
 have out:∀{wz:World} {b:Bool},Pu w wz->zQT f p v=b->(Ending.returned (Value.bool b)=Ending.returned (Value.bool (zQT f p v))/\Pu w wz):=λh1 h2=>⟨by rw[h2],h1⟩
 have bad:zXn v ≠ 0->zQT f p v=false:=λh=>by unfold zQT;rw[if_pos h]
 refine⟨_,cl0 q2,Br.of (λd=>⟨_,cl q1 3,?_⟩) (λd=>⟨_,cl q2 0,_,cl q2 1,_,cl q2 2,(yKE v w2).mono ?_⟩)⟩
 ·have d:=zQA d
  have key:(f.null && decide (v=noV))=zQT f p v:=by
   by_cases h:zXn v ≠ 0
   ·rw[bad h]
    have:¬v=noV:=λe=>h (by rw[e];rfl)
    rw[decide_eq_false this];simp
   ·have h:zXn v=0:=by simpa using h
    obtain⟨_,h2,h3⟩:=zKx h
    have hn:v.n=0:=by rw[d]at h2;simpa[okN] using h2
    have hz:v.s.size=0:=h3.resolve_left (by omega)
    have:v=noV:=by
     obtain⟨k,n,s⟩:=v
     simp only at d hn hz
     subst d hn
     have:s=⟨#[]⟩:=zZd (by
       have:s.data.toList.length=0:=by rw[zZc];exact hz
       rw[List.length_eq_zero_iff]at this;rw[this])
     subst this;rfl
    rw[decide_eq_true this]
    unfold zQT;rw[if_neg (by omega),if_pos d];simp
  refine Br.of (λd1=>⟨_,cl q2 0,_,cl q2 1,_,cl q2 2,_,w2,eqVal _ _ v noV w2,out aG ?_⟩) (λd1=>out aG ?_)
  ·rw[←key,d1];rfl
  ·rw[←key,d1];rfl
 rintro e w3 ⟨rfl,am⟩
 have aF:=aG.trans am
 refine⟨_,rfl,Br.of (λd1=>out aF (bad (zQ4 d1))) (λd1=>⟨_,cl (b1 am) 0,_,cl (b1 am) 1,_,cl (b1 am) 2,_,cl (b1 am) 3,_,cl (b2 am) 0,_,cl (b2 am) 1,_,cl (b2 am) 2,(fit_c f p v hs w3).mono ?_⟩)⟩
 have hv:=zQu d1
 have hF:=zZV (f:=f) (p:=p) (v:=v) (by rw[hf,hpg];rfl) hv
 have key:=fitted_holds (f:=f) (p:=p) hf hv (zQo d)
 rintro e w4 ⟨rfl,ar⟩
 rw[hF]
 refine⟨_,_,_,_,rfl,xZY rfl s25.symm rfl λw5 aB rI aP=>?_⟩
 have bw:=(am.trans ar).trans aB
 have wb:=aG.trans bw
 refine Br.of (λd2=>⟨_,cl aP 0,_,cl aP 1,_,cl aP 2,_,cl (b2 bw) 0,_,cl (b2 bw) 1,_,cl (b2 bw) 2,_,w5,eqVal _ _ (zQO f p v).1 v w5,out wb ?_⟩) (λd2=>out wb ?_)
 ·rw[←key,decide_eq_true (zQA d2)];rfl
 ·rw[←key,decide_eq_false (zQo d2)];rfl
theorem yVc {l:List Fld} {vs:List Val} {i:Nat} {f:Fld} {v:Val} (h:l[i]?=some f) (h2:vs[i]?=some v):(l.zip vs)[i]?=some (f,v):=by
 rw[List.getElem?_zip_eq_some];exact⟨h,h2⟩
def zKa(l:List Fld)(p:Int)(vs:List Val):Bool:=(l.zip vs).all (λx=>zQT x.1 p x.2)
theorem zKJ{l:List Fld}{p:Int}{r:Rec}(h:r.v.length ≠ l.length):zQD l p r=10:=by unfold zQD;rw[if_pos h]
theorem zJB{l:List Fld}{p:Int}{r:Rec}(h:r.v.length=l.length):zQD l p r=if zKa l p r.v then 0 else 1:=by unfold zQD;rw[if_neg (by simp[h])];rfl
theorem yQP{w:World}{s t:SV}{l:List Fld}{r:Rec}(p:Int)(h:zXP w s l)(hr:zXP w t r.v):Calls prog 43 #[.slice s.a s.len s.cap,.int .i64 p,.agg #[.bool r.gone,.slice t.a t.len t.cap]] w λe w'=>e=.returned (.int .i64 (zQD l p r))/\Pu w w':=by
 refine yWk _ _ _ _ w _ ?_
 refine alB λw1 al ay=>⟨t,cl ay 1,?_⟩
 have h1:=h.len
 have h2:=hr.len
 have h3:=h.lim
 refine Br.of (λd=>⟨by rw[zKJ (by have:=zQ4 d;omega)],al⟩) (λd=>?_)
 have hl:r.v.length=l.length:=by have:=zQu d;omega
 refine zQ1 l.length (λk u w'=>u=(k:Int)/\((l.zip r.v).take k).all (λx=>zQT x.1 p x.2)=true/\Pu w1 w') ⟨rfl,rfl,Pu.refl _⟩ ?_
 rintro k J u w2 hk ⟨hu,hal,aj⟩ hJ
 obtain rfl:u=(k:Int):=hu
 refine Br.of (λd1=>?_) (λd1=>?_)
 ·have ak:k<l.length:=by have:=zQm d1;omega
  obtain⟨f,hf⟩:=zXe ak
  obtain⟨v,hv⟩:=zXe (show k<r.v.length by omega)
  refine zQf λw3 am _=>?_
  have aQ:=aj.trans am
  obtain⟨a,ha,hi,_,_,c,c0,c1,c2,c3⟩:=zZ2 ((h.pu al).pu aQ) hf
  obtain⟨b,hb,hbi,_,_,e0,e1,e2⟩:=xQl ((hr.pu al).pu aQ) hv
  refine⟨a,ha,by omega,by omega,_,c0,_,c1,_,c2,_,c3,t,cl (aQ.blk ay) 1,b,hb,by omega,by omega,_,e0,_,e1,_,e2,(yJX f p v w3).mono ?_⟩
  rintro e w4 ⟨rfl,ar⟩
  have hz:=yVc hf hv
  refine⟨_,rfl,Br.of (λd2=>⟨?_,al.trans (aQ.trans ar)⟩) (λd2=>?_)⟩
  ·have:zKa l p r.v=false:=by unfold zKa;rw[List.all_eq_false];exact⟨_,List.mem_of_getElem? hz,by simpa using d2⟩
   rw[zJB hl,this];rfl
  ·rw[zQd (by omega) (by omega)]
   exact hJ _ _ ak ⟨by omega,by rw[zZY _ hz,hal,show zQT f p v=true by simpa using d2];rfl,aQ.trans ar⟩
 ·have ak:k=l.length:=by have:=zQh d1;omega
  have:zKa l p r.v=true:=by unfold zKa;rw[←hal,List.take_of_length_le (by rw[List.length_zip];omega)]
  exact⟨by rw[zJB hl,this];rfl,al.trans aj⟩
theorem zZW{l:List Fld}{p:Int}:∀{rs:List Rec} {k:Nat} {r:Rec},(∀x ∈ rs.take k,zQD l p x=0)->rs[k]?=some r->zQD l p r ≠ 0->zXL l p rs=zQD l p r
 | [],k,r,_,h,_=>by simp at h
 | x :: rs,0,r,_,h,h2=>by simp at h;subst h;unfold zXL;rw[if_pos h2]
 | x :: rs,k+1,r,h0,h,h2=>by
  unfold zXL
  rw[if_neg (by rw[h0 x (by simp)];simp)]
  exact zZW (k:=k) (λy hy=>h0 y (by simp[hy])) (by simpa using h) h2
theorem zZl{l:List Fld}{p:Int}:∀{rs:List Rec},(∀x ∈ rs,zQD l p x=0)->zXL l p rs=0
 | [],_=>rfl
 | x :: rs,h=>by unfold zXL;rw[if_neg (by rw[h x (by simp)];simp)];exact zZl λy hy=>h y (by simp[hy])
theorem zWA{t:Tbl}(h:zXm t.page=false):zQQ t=1:=by unfold zQQ;rw[h];rfl
theorem zJX{t:Tbl}(h:zXm t.page=true)(h2:zQW t.fields ≠ 0):zQQ t=zQW t.fields:=by unfold zQQ;rw[h,if_pos rfl,if_pos h2]
theorem zW6{t:Tbl}(h:zXm t.page=true)(h2:zQW t.fields=0)(h3:300<t.recs.length):zQQ t=3:=by unfold zQQ;rw[h,if_pos rfl,if_neg (by omega),if_pos h3]
theorem zWR{t:Tbl}(h:zXm t.page=true)(h2:zQW t.fields=0)(h3:¬300<t.recs.length):zQQ t=zXL t.fields t.page t.recs:=by unfold zQQ;rw[h,if_pos rfl,if_neg (by omega),if_neg h3]
theorem zYN{l:List Fld}(h:zQW l=0):l ≠ []/\l.all zQ5=true/\(l.map (·.name)).Nodup/\l.length<=16/\wide l<=2000:=by
 unfold zQW at h
 split at h
 ·omega
 ·rename_i h1
  split at h
  ·omega
  ·rename_i h2
   split at h
   ·omega
   ·rename_i h3
    simp only[not_or]at h1 h3
    exact⟨h1.1,by simpa using h1.2,by simpa using h2,by omega,by omega⟩
abbrev zY2(t:Tbl)(f r:SV):Value:=.agg #[.int .i64 t.page,.slice f.a f.len f.cap,.slice r.a r.len r.cap]
theorem yQM{w:World}{t:Tbl}{f r:SV}(h:zJG w t f r):Calls prog 12 #[zY2 t f r] w λe w'=>e=.returned (.int .i64 (zQQ t))/\Pu w w':=by
 refine yW1 _ _ _ w _ ?_
 refine alB λw1 al ay=>⟨_,cl0 ay,(zYD t.page w1).mono ?_⟩
 rintro e w2 ⟨rfl,aj⟩
 have h1:=h.recs.len
 have h3:=h.recs.lim
 refine⟨_,rfl,Br.of (λd=>⟨by rw[zWA (by simpa using d)],al.trans aj⟩) (λd=>⟨_,cl (aj.blk ay) 1,(zVk (h.fields.pu (al.trans aj))).mono ?_⟩)⟩
 have hpg:zXm t.page=true:=by simpa using d
 rintro e w3 ⟨rfl,am⟩
 have aQ:=aj.trans am
 refine⟨_,rfl,Br.of (λd1=>⟨by rw[zJX hpg (zQ4 d1)],al.trans aQ⟩) (λd1=>⟨_,cl (aQ.blk ay) 2,Br.of (λd2=>⟨by rw[zW6 hpg (zQu d1) (by have:=zQm d2;omega)],al.trans aQ⟩) (λd2=>?_)⟩)⟩
 have hvf:=zQu d1
 have e0:=zWR hpg hvf (by have:=zQh d2;omega)
 refine zQ1 t.recs.length (λk u w'=>u=(k:Int)/\(∀x ∈ t.recs.take k,zQD t.fields t.page x=0)/\Pu w1 w') ⟨rfl,by simp,aQ⟩ ?_
 rintro k J u w4 hk ⟨hu,hal,ar⟩ hJ
 obtain rfl:u=(k:Int):=hu
 refine⟨_,cl (ar.blk ay) 2,Br.of (λd3=>zQf λw5 aB _=>?_) (λd3=>?_)⟩
 ·have ak:k<t.recs.length:=by have:=zQm d3;omega
  obtain⟨x,hx⟩:=zXe ak
  have aT:=ar.trans aB
  obtain⟨a,q,ha,hi,hq,c0,c1⟩:=yJf ((h.recs.pu al).pu aT) hx
  refine⟨_,cl (aT.blk ay) 1,_,cl0 (aT.blk ay),_,cl (aT.blk ay) 2,a,ha,by omega,by omega,_,c0,_,c1,(yQP t.page ((h.fields.pu al).pu aT) hq).mono ?_⟩
  rintro e w6 ⟨rfl,bx⟩
  refine⟨_,rfl,Br.of (λd4=>⟨by rw[e0,zZW hal hx (zQ4 d4)],al.trans (aT.trans bx)⟩) (λd4=>?_)⟩
  rw[zQd (by omega) (by omega)]
  refine hJ _ _ ak ⟨by omega,λy hy=>?_,aT.trans bx⟩
  rw[zQP hx,List.mem_append,List.mem_singleton]at hy
  rcases hy with hy|rfl
  ·exact hal y hy
  ·exact zQu d4
 ·have ak:k=t.recs.length:=by have:=zQh d3;omega
  subst ak
  rw[List.take_length]at hal
  exact⟨by rw[e0,zZl hal],al.trans ar⟩
theorem zKB{w:World}{t:Tbl}{f r:SV}(h:zJG w t f r)(hl:Lim.ok t.fields):Calls prog 38 #[zY2 t f r] w λe w'=>e=.returned (.int .i64 (zQQ t))/\Pu w w':=by
 refine yVu _ _ _ w _ ?_
 refine alB λw1 al ay=>⟨_,cl0 ay,(yXM t.page w1).mono ?_⟩
 rintro e w2 ⟨rfl,aj⟩
 have h1:=h.recs.len
 have h3:=h.recs.lim
 have h1f:=h.fields.len
 have h3f:=h.fields.lim
 refine⟨_,rfl,Br.of (λd=>⟨by rw[zWA (by simpa using d)],al.trans aj⟩) (λd=>⟨_,cl (aj.blk ay) 1,(zKv (h.fields.pu (al.trans aj)) hl).mono ?_⟩)⟩
 have hpg:zXm t.page=true:=by simpa using d
 rintro e w3 ⟨rfl,am⟩
 have aQ:=aj.trans am
 refine⟨_,rfl,Br.of (λd1=>⟨by rw[zJX hpg (zQ4 d1)],al.trans aQ⟩) (λd1=>⟨_,cl (aQ.blk ay) 2,Br.of (λd2=>⟨by rw[zW6 hpg (zQu d1) (by have:=zQm d2;omega)],al.trans aQ⟩) (λd2=>⟨_,cl (aQ.blk ay) 2,?_⟩)⟩)⟩
 have hvf:=zQu d1
 obtain⟨_,hall,_,_,_⟩:=zYN hvf
 have e0:=zWR hpg hvf (by have:=zQh d2;omega)
 refine zQ1 t.recs.length (λk u w'=>u=(k:Int)/\(∀x ∈ t.recs.take k,zQD t.fields t.page x=0)/\Pu w1 w') ⟨rfl,by simp,aQ⟩ ?_
 rintro k J u w4 hk ⟨hu,hal,ar⟩ hJ
 obtain rfl:u=(k:Int):=hu
 refine Br.of (λd3=>?_) (λd3=>?_)
 ·have ak:k<t.recs.length:=by have:=zQm d3;omega
  obtain⟨x,hx⟩:=zXe ak
  obtain⟨a,q,ha,hi,hq,c0,c1⟩:=yJf ((h.recs.pu al).pu ar) hx
  have next:∀{w6:World},Pu w4 w6->zQD t.fields t.page x=0->xJ8 (λe w'=>e=.returned (.int .i64 (zQQ t))/\Pu w w') J (some (⟨w.heap.size,0,none⟩:Addr)) r ((r.len:Nat):Int) (k:Int) [] w6:=λ{w6} bx h0=>by
   show J (IntKind.i64.wrap ((k:Int)+1)) w6
   rw[zQd (by omega) (by omega)]
   refine hJ _ _ ak ⟨by omega,λy hy=>?_,ar.trans bx⟩
   rw[zQP hx,List.mem_append,List.mem_singleton]at hy
   rcases hy with hy|rfl
   ·exact hal y hy
   ·exact h0
  have hql:=hq.len
  refine⟨a,ha,by omega,by omega,_,c0,_,c1,xZY rfl (by kernel_rfl) rfl λw5 aB rI aP=>⟨_,cl aP 1,_,cl ((ar.trans aB).blk ay) 1,Br.of (λd4=>?_) (λd4=>⟨_,cl ((ar.trans aB).blk ay) 1,?_⟩)⟩⟩
  ·have:zQD t.fields t.page x=10:=zKJ (by have:=zQ4 d4;omega)
   exact⟨by rw[e0,zZW hal hx (by rw[this];omega),this],al.trans (ar.trans aB)⟩
  have hlen:x.v.length=t.fields.length:=by have:=zQu d4;omega
  have aT:=ar.trans aB
  refine zQ1 t.fields.length (λj u w'=>u=(j:Int)/\((t.fields.zip x.v).take j).all (λy=>zQT y.1 t.page y.2)=true/\Pu w5 w') ⟨rfl,rfl,Pu.refl _⟩ ?_
  rintro j J2 u w6 hj ⟨hu,haz,bx⟩ pM
  obtain rfl:u=(j:Int):=hu
  have pq:=aT.trans bx
  refine Br.of (λd5=>?_) (λd5=>?_)
  ·have nh:j<t.fields.length:=by have:=zQm d5;omega
   obtain⟨g,hg⟩:=zXe nh
   obtain⟨v,hv⟩:=zXe (show j<x.v.length by omega)
   obtain⟨b,hb,hbi,_,_,c',k0,k1,k2,k3⟩:=zZ2 ((h.fields.pu al).pu pq) hg
   refine⟨b,hb,by omega,by omega,_,k0,_,k1,_,k2,_,k3,xZY rfl s23.symm rfl λw7 bU hs7 bQ=>zQf λw8 aV _=>?_⟩
   have wc:=bU.trans aV
   have hp18:=pq.trans wc
   have dz:=aV.blk bQ
   obtain⟨m,hm,hmi,_,_,v0,v1,v2⟩:=xQl (hq.pu ((aB.trans bx).trans wc)) hv
   refine⟨_,cl dz 0,_,cl dz 1,_,cl dz 2,_,cl dz 3,_,cl0 (hp18.blk ay),q,cl ((bx.trans wc).blk aP) 1,m,hm,by omega,by omega,_,v0,_,v1,_,v2,(xJ7 g t.page v (hl g (List.mem_of_getElem? hg)) (List.all_eq_true.1 hall g (List.mem_of_getElem? hg)) hpg w8).mono ?_⟩
   rintro e w9 ⟨rfl,bR⟩
   have hz:=yVc hg hv
   refine⟨_,rfl,Br.of (λd6=>?_) (λd6=>?_)⟩
   ·have:zKa t.fields t.page x.v=false:=by unfold zKa;rw[List.all_eq_false];exact⟨_,List.mem_of_getElem? hz,by simpa using d6⟩
    have h1:zQD t.fields t.page x=1:=by rw[zJB hlen,this];rfl
    exact⟨by rw[e0,zZW hal hx (by rw[h1];omega),h1],al.trans (hp18.trans bR)⟩
   ·rw[zQd (by omega) (by omega)]
    exact pM _ _ nh ⟨by omega,by rw[zZY _ hz,haz,show zQT g t.page v=true by simpa using d6];rfl,(bx.trans wc).trans bR⟩
  ·have nh:j=t.fields.length:=by have:=zQh d5;omega
   have:zKa t.fields t.page x.v=true:=by unfold zKa;rw[←haz,List.take_of_length_le (by rw[List.length_zip];omega)]
   exact next (aB.trans bx) (by rw[zJB hlen,this];rfl)
 ·have ak:k=t.recs.length:=by have:=zQh d3;omega
  subst ak
  rw[List.take_length]at hal
  exact⟨by rw[e0,zZl hal],al.trans ar⟩
end Go.Proofs.YtcihcbfcgjepfaaGreatDoor
/- Table: lengths and offsets; how large a table is; the law on which tables there are. No condition. -/
namespace Go.Proofs.YtcihcbfcgjepfaaGreatDoor
open Go.Sh Go.RowKit Tryz
theorem yZV{w:World}{s:SV}{l:List Val}(h:zXP w s l):Calls prog 91 #[.slice s.a s.len s.cap] w λe w'=>∃n:Int,e=.returned (.int .i64 n)/\Pu w w':=by
 refine yWF _ w _ ?_
 have hlen:=h.len
 have hlim:=h.lim
 refine zQ1 l.length (λk t w'=>t.2=(k:Int)/\Pu w w') ⟨rfl,Pu.refl _⟩ ?_
 rintro k J ⟨t1,t2⟩ w2 hk ⟨ht,hp⟩ hJ
 obtain rfl:t2=(k:Int):=ht
 dsimp only
 refine Br.of (λd=>?_) (λd=>⟨_,rfl,hp⟩)
 have ak:k<l.length:=by have:=zQm d;omega
 obtain⟨v,hv⟩:=zXe ak
 obtain⟨a,ha,hi,_,_,c0,c1,c2⟩:=xQl (h.pu hp) hv
 refine⟨a,ha,by omega,by omega,_,c2,?_⟩
 rw[zQd (n:=(k:Int)+1) (by omega) (by omega)]
 exact hJ _ _ ak ⟨by dsimp only;omega,hp⟩
theorem yYX{w:World}{t:Tbl}{f r:SV}(h:zJG w t f r):Calls prog 36 #[zY2 t f r] w λe w'=>∃n:Int,e=.returned (.int .i64 n)/\Pu w w':=by
 refine yVj _ _ _ w _ (alB λw1 al ay=>⟨_,cl ay 1,?_⟩)
 have hfl:=h.fields.len
 have hfm:=h.fields.lim
 have hrl:=h.recs.len
 have hrm:=h.recs.lim
 refine zQ1 t.fields.length (λk u w'=>u.2=(k:Int)/\Pu w1 w') ⟨rfl,Pu.refl _⟩ ?_
 rintro k J ⟨u1,u2⟩ w2 hk ⟨hu,hp⟩ hJ
 obtain rfl:u2=(k:Int):=hu
 dsimp only
 refine⟨_,cl (hp.blk ay) 1,Br.of (λd=>?_) (λd=>?_)⟩
 ·have ak:k<t.fields.length:=by have:=zQm d;omega
  obtain⟨x,hx⟩:=zXe ak
  obtain⟨a,ha,hi,_,_,c,_⟩:=zZ2 (h.fields.pu (al.trans hp)) hx
  refine⟨_,cl (hp.blk ay) 1,a,ha,by omega,by omega,_,c,?_⟩
  rw[zQd (n:=(k:Int)+1) (by omega) (by omega)]
  exact hJ _ _ ak ⟨by dsimp only;omega,hp⟩
 clear hJ J
 refine zQ1 t.recs.length (λk u w'=>u.2=(k:Int)/\Pu w1 w') ⟨rfl,hp⟩ ?_
 rintro k J ⟨u1,u2⟩ w2 hk ⟨hu,hp⟩ hJ
 obtain rfl:u2=(k:Int):=hu
 dsimp only
 refine⟨_,cl (hp.blk ay) 2,Br.of (λd=>?_) (λd=>⟨_,rfl,al.trans hp⟩)⟩
 have ak:k<t.recs.length:=by have:=zQm d;omega
 obtain⟨x,hx⟩:=zXe ak
 obtain⟨a,q,ha,hi,hq,c0,c1⟩:=yJf (h.recs.pu (al.trans hp)) hx
 refine⟨_,cl (hp.blk ay) 2,a,ha,by omega,by omega,_,c1,(yZV hq).mono ?_⟩
 rintro e w3 ⟨n,rfl,am⟩
 refine⟨n,rfl,?_⟩
 rw[zQd (n:=(k:Int)+1) (by omega) (by omega)]
 exact hJ _ _ ak ⟨by dsimp only;omega,hp.trans am⟩
theorem u55:prog.underlying 43=some (.slice 3):=by kernel_rfl
theorem info3:(prog.info? 3).map (λi=>(i.zero,i.size,i.bytes))=some (some (.int .i64 0),1,8):=by kernel_rfl
def zX6(w0 w:World)(s:SV)(l:List Int):Prop:=zQl w 3 1 s (l.map xQ8)/\∀b ∈ zQb s,w0.heap.size<=b
theorem zX6.len{w0 w:World}{s:SV}{l:List Int}(h:zX6 w0 w s l):s.len=l.length:=by have:=h.1.1;simp at this;omega
theorem zX6.pu{w0 w w':World}{s:SV}{l:List Int}(h:zX6 w0 w s l)(hp:Pu w w'):zX6 w0 w' s l:=⟨h.1.pu hp,h.2⟩
theorem zX6.nil(w0 w:World):zX6 w0 w ⟨none,0,0⟩ []:=⟨zQl.nil w 3 1,by simp[zQb]⟩
theorem zX6.low{w0 w1 w:World}{s:SV}{l:List Int}(h:zX6 w1 w s l)(hz:w0.heap.size<=w1.heap.size):zX6 w0 w s l:=⟨h.1,λb hb=>Nat.le_trans hz (h.2 b hb)⟩
theorem zX6.push {w0 w:World} {s:SV} {l:List Int} (h:zX6 w0 w s l) (hz:w0.heap.size<=w.heap.size) {r:Nat} {n:Int} (hr:w.heap[r]?=some (.cells #[.int .i64 n] 3)) (hb:l.length<=1000000) :
  ∃(s':SV) (w':World),(Builtin.append_ #[43,43] 43 #[.slice s.a s.len s.cap,.slice (some ⟨r,0,none⟩) 1 1]).run prog w=.ok (.slice s'.a s'.len s'.cap) w'/\zX6 w0 w' s' (l ++ [n])/\Fr (· ∈ zQb s) w w':=by
 have h1:=h.len
 obtain⟨s',w',hra,hrow,hf,hblk,_⟩:=yYF (P:=prog) (ty:=43) u55 info3 rfl h.1 (a:=⟨r,0,none⟩) (u:=.int .i64 n) (by rw[zQq hr];rfl) rfl (by omega)
 refine⟨s',w',hra,⟨by simpa using hrow,λb hb=>?_⟩,hf⟩
 rcases hblk b hb with h2|h2
 ·exact h.2 b h2
 ·omega
theorem zK4{w w0 w1:World}{a b:SV}{l:List Int}(ha:zX6 w0 w a l)(hb:zX6 w1 w b l):Calls prog 72 #[.slice a.a a.len a.cap,.slice b.a b.len b.cap] w λe w'=>e=.returned (.bool true)/\Pu w w':=by
 refine yV6 _ _ w _ ?_
 have hla:=ha.len
 have hlb:=hb.len
 have hc:=ha.1.le_cap
 have hm:maxLen=9223372036854775807:=by unfold maxLen;omega
 refine Br.of (λd=>absurd (zQ4 d) (by omega)) (λ_=>zQ1 l.length (λk t w'=>t=(k:Int)/\Pu w w') ⟨rfl,Pu.refl _⟩ ?_)
 rintro k J t w2 hk ⟨ht,hp⟩ hJ
 obtain rfl:t=(k:Int):=ht
 refine Br.of (λd=>zQf λw3 am _=>?_) (λd=>⟨rfl,hp⟩)
 have ak:k<l.length:=by have:=zQm d;omega
 obtain⟨n,hn⟩:=zXe ak
 obtain⟨x,hx,hcx,_⟩:=((ha.pu hp).pu am).1.cell (j:=k) (v:=xQ8 n) (by rw[List.getElem?_map,hn];rfl)
 obtain⟨y,hy,hcy,_⟩:=((hb.pu hp).pu am).1.cell (j:=k) (v:=xQ8 n) (by rw[List.getElem?_map,hn];rfl)
 refine⟨x,hx,by omega,by omega,n,by rw[zQI,Nat.mul_one];exact hcx,y,hy,by omega,by omega,n,by rw[zQI,Nat.mul_one];exact hcy,Br.of (λd1=>absurd rfl (zQ4 d1)) (λ_=>?_)⟩
 rw[zQd (by omega) (by omega)]
 exact hJ _ _ ak ⟨by omega,hp.trans am⟩
end Go.Proofs.YtcihcbfcgjepfaaGreatDoor
/- Table: the law on what a value becomes in a field. No condition. -/
namespace Go.Proofs.YtcihcbfcgjepfaaGreatDoor
open Go.Sh Go.RowKit Tryz
theorem zJI{α:Type}(p:α->Bool):∀l:List α,(l.dropWhile p).dropWhile p=l.dropWhile p
 | []=>rfl
 | a :: l=>by
  by_cases h:p a=true
  ·rw[List.dropWhile_cons,if_pos h];exact zJI p l
  ·rw[List.dropWhile_cons,if_neg h,List.dropWhile_cons,if_neg h]
theorem yYc(l:List UInt8):zZf (zZf l)=zZf l:=by
 unfold zZf;rw[List.reverse_reverse,zJI]
theorem zXX(a b:Val)(w:World):Calls prog 19 #[zZh a,zZh b] w λe w'=>e=.returned (.bool (decide (a=b)))/\Pu w w':=by
 refine yWg _ _ _ _ _ _ w _ ?_
 refine alB λw1 al ay=>alB λw2 aj ag=>?_
 have hp:=al.trans aj
 have q1:=aj.blk ay
 refine⟨_,cl0 q1,_,cl0 ag,Br.of (λd=>⟨_,cl q1 1,_,cl ag 1,Br.of (λd1=>⟨_,cl q1 2,_,cl ag 2,?_,hp⟩) (λd1=>⟨?_,hp⟩)⟩) (λd=>⟨?_,hp⟩)⟩
 ·rw[zZq]
  congr 2
  have e1:a.kind=b.kind:=zQA d
  have e2:a.n=b.n:=zQA d1
  refine zZy ⟨λe3=>?_,λe=>by rw[e]⟩
  obtain⟨a1,a2,a3⟩:=a;obtain⟨b1,b2,b3⟩:=b
  simp only at e1 e2 e3
  subst e1 e2 e3;rfl
 ·rw[decide_eq_false (λe=>zQo d1 (by rw[e]))]
 ·rw[decide_eq_false (λe=>zQo d (by rw[e]))]
end Go.Proofs.YtcihcbfcgjepfaaGreatDoor
/- Table: records of empty values, places of names; the law on them. No condition. -/
namespace Go.Proofs.YtcihcbfcgjepfaaGreatDoor
open Go.Sh Go.RowKit Tryz
theorem u44:prog.underlying 75=some (.slice 28):=by kernel_rfl
theorem info25:(prog.info? 28).map (λi=>(i.zero,i.size,i.bytes))=some (some (.agg #[.int .i64 0,.int .i64 0,.string ⟨#[]⟩]),3,32):=by kernel_rfl
theorem s46:zX1 prog 77=2:=by kernel_rfl
theorem zQF(v:Val):(zXJ v).length=3:=rfl
def zZ8(w0 w:World)(s:SV)(l:List Val):Prop:=zQl w 28 3 s (l.flatMap zXJ)/\∀b ∈ zQb s,w0.heap.size<=b
theorem zZ8.len{w0 w:World}{s:SV}{l:List Val}(h:zZ8 w0 w s l):s.len=l.length:=h.1.len zQF (by decide)
theorem zZ8.pu{w0 w w':World}{s:SV}{l:List Val}(h:zZ8 w0 w s l)(hp:Pu w w'):zZ8 w0 w' s l:=⟨h.1.pu hp,h.2⟩
theorem zZ8.fr{B:Nat->Prop}{w0 w w':World}{s:SV}{l:List Val}(h:zZ8 w0 w s l)(hf:Fr B w w')(hn:∀k ∈ zQb s,¬B k):zZ8 w0 w' s l:=⟨h.1.fr hf hn,h.2⟩
theorem zZ8.nil(w0 w:World):zZ8 w0 w ⟨none,0,0⟩ []:=⟨zQl.nil w 28 3,by simp[zQb]⟩
theorem zZ8.low{w0 w1 w:World}{s:SV}{l:List Val}(h:zZ8 w1 w s l)(hz:w0.heap.size<=w1.heap.size):zZ8 w0 w s l:=⟨h.1,λb hb=>Nat.le_trans hz (h.2 b hb)⟩
theorem zZ8.push {w0 w:World} {s:SV} {l:List Val} (h:zZ8 w0 w s l) (hz:w0.heap.size<=w.heap.size) {r:Nat} {v:Val} {c:Array Value} (hr:w.heap[r]?=some (.cells c 28)) (hc:c=#[.int .i64 v.kind,.int .i64 v.n,.string v.s]) (hb:l.length<=1000000) :
  ∃(s':SV) (w':World),(Builtin.append_ #[75,75] 75 #[.slice s.a s.len s.cap,.slice (some ⟨r,0,none⟩) 1 1]).run prog w=.ok (.slice s'.a s'.len s'.cap) w'/\zZ8 w0 w' s' (l ++ [v])/\Fr (· ∈ zQb s) w w':=by
 subst hc
 have h1:=h.len
 obtain⟨s',w',hra,hrow,hf,hblk,_⟩:=zQ6 (P:=prog) (ty:=75) u44 info25 rfl (by decide) h.1 (A:=some ⟨r,0,none⟩) (m:=1) (c:=1) (news:=zXJ v) rfl (λj u hu=>⟨_,rfl,by rw[cl hr];simpa using hu⟩) (λu hu=>by simp[zXJ]at hu;rcases hu with rfl|rfl|rfl <;> rfl) (by omega)
 refine⟨s',w',hra,⟨by simpa using hrow,λb hb=>?_⟩,hf⟩
 rcases hblk b hb with h2|h2
 ·exact h.2 b h2
 ·omega
structure RdV(w:World)(s:SV)(l:List Val):Prop where
 len:s.len=l.length
 lim:l.length<=140737488355328
 get:∀i v,l[i]?=some v->∃a,s.a=some a/\w.cell? ((a.add (i * 3)).add 0)=some (.int .i64 v.kind)/\w.cell? ((a.add (i * 3)).add 1)=some (.int .i64 v.n)/\w.cell? ((a.add (i * 3)).add 2)=some (.string v.s)
theorem RdV.pu{w w':World}{s:SV}{l:List Val}(h:RdV w s l)(hp:Pu w w'):RdV w' s l:=⟨h.len,h.lim,λi v hv=>by
 obtain⟨a,h1,h2,h3,h4⟩:=h.get i v hv
 exact⟨a,h1,hp.cell h2,hp.cell h3,hp.cell h4⟩⟩
theorem RdV.of{w:World}{s:SV}{l:List Val}(h:zXP w s l):RdV w s l:=⟨h.len,by have:=h.lim;have:=h.len;omega,λi v hv=>by
 obtain⟨a,h1,_,_,_,h2,h3,h4⟩:=xQl h hv
 exact⟨a,h1,h2,h3,h4⟩⟩
theorem zZ8.rd{w0 w:World}{s:SV}{l:List Val}(h:zZ8 w0 w s l)(hb:l.length<=140737488355328):RdV w s l:=⟨h.len,hb,λi v hv=>by
 obtain⟨a,h1,_,h2⟩:=h.1.elem zQF hv (o:=0) rfl
 obtain⟨a',h1',_,h3⟩:=h.1.elem zQF hv (o:=1) rfl
 obtain⟨a'',h1'',_,h4⟩:=h.1.elem zQF hv (o:=2) rfl
 rw[h1]at h1' h1'';cases h1';cases h1''
 exact⟨a,h1,h2,h3,h4⟩⟩
theorem zXW {α:Type} {a b:List α} {k:Nat} (h:a.take k=b.take k) {x y:α} (hx:a[k]?=some x) (hy:b[k]?=some y) (e:x=y):a.take (k+1)=b.take (k+1):=by
 rw[zQP hx,zQP hy,h,e]
theorem zYA{w:World}{s t:SV}{a b:List Val}(ha:RdV w s a)(hb:RdV w t b):Calls prog 117 #[.slice s.a s.len s.cap,.slice t.a t.len t.cap] w λe w'=>e=.returned (.bool (decide (a=b)))/\Pu w w':=by
 refine yJb _ _ w _ ?_
 have hla:=ha.len
 have hlb:=hb.len
 have hlim:=ha.lim
 refine Br.of (λd=>⟨by rw[decide_eq_false (λe=>zQ4 d (by rw[hla,hlb,e]))],Pu.refl _⟩) (λd=>?_)
 have hab:a.length=b.length:=by have:=zQu d;omega
 refine zQ1 a.length (λk t w'=>t=(k:Int)/\a.take k=b.take k/\Pu w w') ⟨rfl,by simp,Pu.refl _⟩ ?_
 rintro k J t w2 hk ⟨ht,he,hp⟩ hJ
 obtain rfl:t=(k:Int):=ht
 refine Br.of (λd1=>zQf λw3 am _=>?_) (λd1=>?_)
 ·have ak:k<a.length:=by have:=zQm d1;omega
  obtain⟨x,hx⟩:=zXe ak
  obtain⟨y,hy⟩:=zXe (show k<b.length by omega)
  obtain⟨p,hpa,c0,c1,c2⟩:=((ha.pu hp).pu am).get k x hx
  obtain⟨q,hqa,e0,e1,e2⟩:=((hb.pu hp).pu am).get k y hy
  refine⟨p,hpa,by omega,by omega,_,c0,_,c1,_,c2,q,hqa,by omega,by omega,_,e0,_,e1,_,e2,(zXX x y w3).mono ?_⟩
  rintro e w4 ⟨rfl,ar⟩
  refine⟨_,rfl,Br.of (λd2=>⟨?_,(hp.trans am).trans ar⟩) (λd2=>?_)⟩
  ·rw[decide_eq_false]
   intro e
   subst e
   rw[hx]at hy
   cases hy
   simp at d2
  ·rw[zQd (by omega) (by omega)]
   exact hJ _ _ ak ⟨by omega,zXW he hx hy (by simpa using d2),(hp.trans am).trans ar⟩
 ·have ak:k=a.length:=by have:=zQh d1;omega
  subst ak
  rw[List.take_length,hab,List.take_length]at he
  exact⟨by rw[decide_eq_true he],hp⟩
theorem zZ1{w:World}{s t:SV}{x y:Bool}{a b:List Val}(ha:RdV w s a)(hb:RdV w t b):Calls prog 60 #[.agg #[.bool x,.slice s.a s.len s.cap],.agg #[.bool y,.slice t.a t.len t.cap]] w λe w'=>e=.returned (.bool (decide (x=y) && decide (a=b)))/\Pu w w':=by
 refine yWX _ _ _ _ w _ (alB λw1 al ay=>alB λw2 aj ag=>?_)
 have hp:=al.trans aj
 have q1:=aj.blk ay
 refine⟨_,cl0 q1,_,cl0 ag,Br.of (λd=>⟨_,cl q1 1,_,cl ag 1,(zYA (ha.pu hp) (hb.pu hp)).mono ?_⟩) (λd=>⟨?_,hp⟩)⟩
 ·rintro e w3 ⟨rfl,am⟩
  exact⟨_,rfl,by rw[decide_eq_true (p:=x=y) (by simpa using d)];rfl,hp.trans am⟩
 ·rw[decide_eq_false (p:=x=y) (by simpa using d)];rfl
theorem yVp(n:Int)(w:World):Calls prog 37 #[.int .i64 n] w λe w'=>e=.returned (zZh ⟨2,n,⟨#[]⟩⟩)/\Pu w w':=by
 refine yVo _ w _ (xZY rfl s25.symm rfl λw1 al _ ay=>?_)
 exact⟨_,cl ay 0,_,cl ay 1,_,cl ay 2,rfl,al⟩
theorem yYp(f:Fld)(w:World):Calls prog 163 #[yXu f] w λe w'=>e=.returned (zZh (zQ9 f))/\Pu w w':=by
 refine yJ2 _ _ _ _ w _ ?_
 refine alB λw1 al ay=>alB λw2 aj ag=>⟨_,cl (aj.blk ay) 1,Br.of (λd=>?_) (λd=>⟨_,cl (aj.blk ay) 1,?_⟩)⟩
 ·refine(yVp 0 w2).mono ?_
  rintro e w3 ⟨rfl,am⟩
  refine⟨_,_,_,rfl,zQj (am.blk ag) s25.symm rfl rfl λw4 aZ bp se=>?_⟩
  exact⟨_,cl aZ 0,_,cl aZ 1,_,cl aZ 2,by unfold zQ9;rw[if_pos (zQA d)],al.trans ((aj.trans am).andNew bp λi hi=>by omega)⟩
 ·refine zQj ag s25.symm rfl rfl λw3 aH bP pL=>?_
  exact⟨_,cl aH 0,_,cl aH 1,_,cl aH 2,by unfold zQ9;rw[if_neg (zQo d)],al.trans (aj.andNew bP λi hi=>by omega)⟩
def zWE(l:List Fld):List Val:=if zQW l=0 then l.map zQ9 else []
theorem yQz {α β:Type} (g:α->β) {l:List α} {k:Nat} {x:α} (h:l[k]?=some x):(l.take (k+1)).map g=(l.take k).map g ++ [g x]:=by
 rw[zQP h,List.map_append];rfl
theorem yKC{w:World}{s:SV}{l:List Fld}(h:zXP w s l)(hl:Lim.ok l):Calls prog 81 #[.slice s.a s.len s.cap] w λe w'=>∃q:SV,e=.returned (.tuple #[.agg #[.bool false,.slice q.a q.len q.cap],.int .i64 (zQW l)])/\zZ8 w w' q (zWE l)/\Pu w w':=by
 refine yVs _ w _ (alB λw1 al ay=>(zKv (h.pu al) hl).mono ?_)
 rintro e w2 ⟨rfl,aj⟩
 have ag:=aj.blk ay
 refine⟨_,rfl,Br.of (λd=>zQj ag s46.symm rfl rfl λw3 aH bP pL=>⟨_,cl aH 0,⟨none,0,0⟩,cl aH 1,⟨none,0,0⟩,rfl,by unfold zWE;rw[if_neg (zQ4 d)];exact zZ8.nil w w3,(al.trans aj).andNew bP λi hi=>by omega⟩) (λd=>alB λw3 am aH=>?_)⟩
 have hv:=zQu d
 have h16:=(zYN hv).2.2.2.1
 have hlen:=h.len
 have aF:=(al.trans aj).trans am
 have z1:=al.size
 have z2:=aj.size
 have z3:=am.size
 have lt2:w2.heap.size<w3.heap.size:=zQy aH
 have lt1:w.heap.size<w1.heap.size:=zQy ay
 refine zQ1 l.length (λk t w'=>t=(k:Int)/\∃q:SV,w'.heap[w.heap.size]?=some (.cells #[.bool false,.slice none 0 0] 77)/\w'.heap[w2.heap.size]?=some (.cells #[.bool false,.slice q.a q.len q.cap] 77)/\zZ8 w3 w' q ((l.take k).map zQ9)/\w3.heap.size<=w'.heap.size/\Pu w w') ⟨rfl,⟨none,0,0⟩,am.blk ag,aH,zZ8.nil w3 w3,Nat.le_refl _,aF⟩ ?_
 rintro k J t w4 hk ⟨ht,q,a1,a2,a3,a4,hp⟩ hJ
 obtain rfl:t=(k:Int):=ht
 have htl:=List.length_take_le k l
 refine Br.of (λd1=>?_) (λd1=>?_)
 ·have ak:k<l.length:=by have:=zQm d1;omega
  obtain⟨f,hf⟩:=zXe ak
  obtain⟨a,ha,hi,_,_,_,c0,c1,c2,c3⟩:=zZ2 (h.pu hp) hf
  refine⟨a,ha,by omega,by omega,_,c0,_,c1,_,c2,_,c3,xZY rfl s23.symm rfl λw5 aB rI aP=>zQf λw6 bx _=>?_⟩
  have b6:=(aB.trans bx).blk a2
  refine⟨λu=>Pu w6 u,Pu.refl _,q,λu hu=>cl (hu.blk b6) 1,f.name,λu hu=>cl (hu.blk (bx.blk aP)) 0,f.kind,λu hu=>cl (hu.blk (bx.blk aP)) 1,f.width,λu hu=>cl (hu.blk (bx.blk aP)) 2,f.null,λu hu=>cl (hu.blk (bx.blk aP)) 3,(yKw f w6).mono ?_⟩
  rintro e w7 ⟨rfl,bU⟩
  refine⟨_,_,_,rfl,bU,alB λw8 aV dz=>⟨bU.trans aV,?_⟩⟩
  have kz:=(((aB.trans bx).trans bU).trans aV)
  have z48:=kz.size
  obtain⟨q',w9,e9,r9,f9⟩:=(a3.pu kz).push (by omega) dz rfl (by rw[List.length_map];omega)
  have n2:¬w2.heap.size ∈ zQb q:=λhc=>by have:=a3.2 _ hc;omega
  have n1:¬w.heap.size ∈ zQb q:=λhc=>by have:=a3.2 _ hc;omega
  have kR:=f9.blk (kz.blk a2) n2
  have hb9':=f9.blk (kz.blk a1) n1
  refine⟨q',w9,e9,zQt (o:=1) kR (by simp) λwx ex hbx=>?_⟩
  have fx:Fr (·=w2.heap.size) w9 wx:=by rw[ex];exact Fr.cell w9 _ _ _
  have zx:wx.heap.size=w9.heap.size:=by rw[ex];simp
  have z9:=f9.size
  rw[zQd (by omega) (by omega)]
  refine hJ _ _ ak ⟨by omega,q',fx.blk hb9' (by omega),hbx,by rw[yQz _ hf];exact r9.fr fx λi hi=>by have:=r9.2 i hi;omega,by omega,?_⟩
  have p9:Pu w w9:=(hp.trans kz).andNew f9 λi hi=>by have:=a3.2 i hi;omega
  exact p9.andNew fx λi hi=>by omega
 ·have ak:k=l.length:=by have:=zQh d1;omega
  subst ak
  rw[List.take_length]at a3
  refine⟨_,cl a2 0,q,cl a2 1,zQj a1 s46.symm rfl rfl λw5 aP bT rI=>⟨_,cl aP 0,q,cl aP 1,q,by rw[hv],?_,hp.andNew bT λi hi=>by omega⟩⟩
  unfold zWE;rw[if_pos hv]
  exact(a3.fr bT λi hi=>by have:=a3.2 i hi;omega).low (by omega)
theorem zY4{w:World}{s:SV}{l:List Fld}(h:zXP w s l)(h16:l.length<=16):Calls prog 125 #[.slice s.a s.len s.cap] w λe w'=>∃q:SV,e=.returned (.agg #[.bool false,.slice q.a q.len q.cap])/\zZ8 w w' q (l.map zQ9)/\Pu w w':=by
 refine yZI _ w _ (alB λw2 aj ag=>alB λw3 am aH=>?_)
 have hlen:=h.len
 have aF:=aj.trans am
 have z2:=aj.size
 have z3:=am.size
 have lt2:w2.heap.size<w3.heap.size:=zQy aH
 have lt1:w.heap.size<w2.heap.size:=zQy ag
 refine zQ1 l.length (λk t w'=>t=(k:Int)/\∃q:SV,w'.heap[w.heap.size]?=some (.cells #[.bool false,.slice none 0 0] 77)/\w'.heap[w2.heap.size]?=some (.cells #[.bool false,.slice q.a q.len q.cap] 77)/\zZ8 w3 w' q ((l.take k).map zQ9)/\w3.heap.size<=w'.heap.size/\Pu w w') ⟨rfl,⟨none,0,0⟩,am.blk ag,aH,zZ8.nil w3 w3,Nat.le_refl _,aF⟩ ?_
 rintro k J t w4 hk ⟨ht,q,a1,a2,a3,a4,hp⟩ hJ
 obtain rfl:t=(k:Int):=ht
 have htl:=List.length_take_le k l
 refine Br.of (λd1=>zQf λw6 bx _=>?_) (λd1=>?_)
 ·have ak:k<l.length:=by have:=zQm d1;omega
  obtain⟨f,hf⟩:=zXe ak
  obtain⟨a,ha,hi,_,_,_,c0,c1,c2,c3⟩:=zZ2 ((h.pu hp).pu bx) hf
  have b6:=bx.blk a2
  refine⟨λu=>Pu w6 u,Pu.refl _,q,λu hu=>cl (hu.blk b6) 1,a,ha,by omega,by omega,f.name,λu hu=>hu.cell c0,f.kind,λu hu=>hu.cell c1,f.width,λu hu=>hu.cell c2,f.null,λu hu=>hu.cell c3,(yYp f w6).mono ?_⟩
  rintro e w7 ⟨rfl,bU⟩
  refine⟨_,_,_,rfl,bU,alB λw8 aV dz=>⟨bU.trans aV,?_⟩⟩
  have kz:=((bx.trans bU).trans aV)
  have z48:=kz.size
  obtain⟨q',w9,e9,r9,f9⟩:=(a3.pu kz).push (by omega) dz rfl (by rw[List.length_map];omega)
  have n2:¬w2.heap.size ∈ zQb q:=λhc=>by have:=a3.2 _ hc;omega
  have n1:¬w.heap.size ∈ zQb q:=λhc=>by have:=a3.2 _ hc;omega
  have kR:=f9.blk (kz.blk a2) n2
  have hb9':=f9.blk (kz.blk a1) n1
  refine⟨q',w9,e9,zQt (o:=1) kR (by simp) λwx ex hbx=>?_⟩
  have fx:Fr (·=w2.heap.size) w9 wx:=by rw[ex];exact Fr.cell w9 _ _ _
  have zx:wx.heap.size=w9.heap.size:=by rw[ex];simp
  have z9:=f9.size
  rw[zQd (by omega) (by omega)]
  refine hJ _ _ ak ⟨by omega,q',fx.blk hb9' (by omega),hbx,by rw[yQz _ hf];exact r9.fr fx λi hi=>by have:=r9.2 i hi;omega,by omega,?_⟩
  have p9:Pu w w9:=(hp.trans kz).andNew f9 λi hi=>by have:=a3.2 i hi;omega
  exact p9.andNew fx λi hi=>by omega
 ·have ak:k=l.length:=by have:=zQh d1;omega
  subst ak
  rw[List.take_length]at a3
  refine⟨_,cl a2 0,q,cl a2 1,zQj a1 s46.symm rfl rfl λw5 aP bT rI=>⟨_,cl aP 0,q,cl aP 1,q,rfl,?_,hp.andNew bT λi hi=>by omega⟩⟩
  exact(a3.fr bT λi hi=>by have:=a3.2 i hi;omega).low (by omega)
def zWl(l:List Fld)(s:ByteArray):Option Nat:=l.findIdx? λf=>decide (f.name=s)
def yXb(l:List Fld)(s:ByteArray):Int:=((zWl l s).getD 0:Nat)
theorem yWU{w:World}{s:SV}{l:List Fld}(h:zXP w s l)(nm:ByteArray):Calls prog 51 #[.slice s.a s.len s.cap,.string nm] w λe w'=>e=.returned (.tuple #[.int .i64 (yXb l nm),.bool (zWl l nm).isSome])/\Pu w w':=by
 refine yJS _ _ w _ (alB λw1 al ay=>?_)
 have tells:yX1 l 105 #[.pointer (some ⟨w.heap.size,0,none⟩)] (λf=>decide (f.name=nm)) w1:=⟨by kernel_rfl,λf hf w2 aj=>by
  refine yJa _ _ _ _ _ w2 _ (alB λw3 am aH=>⟨_,cl0 aH,_,cl0 ((aj.trans am).blk ay),?_,am⟩)
  rw[zZq]⟩
 refine(zWF (h.pu al) tells).mono ?_
 rintro e w2 ⟨rfl,aj⟩
 refine⟨_,rfl,_,w2,yVH _ _ _ _ _ _,?_,al.trans aj⟩
 unfold yXb zWl
 cases l.findIdx? λf=>decide (f.name=nm)with
 | none=>rfl
 | some k=>
  dsimp only
  rw[Int.max_eq_left (by omega),decide_eq_true (by omega)];rfl
theorem zYh{w:World}{s:SV}{l:List Fld}(h:zXP w s l)(nm:ByteArray):Calls prog 122 #[.slice s.a s.len s.cap,.string nm] w λe w'=>e=.returned (.tuple #[.int .i64 (yXb l nm),.bool (zWl l nm).isSome])/\Pu w w':=by
 refine yZx _ _ w _ ?_
 have hlen:=h.len
 have hlim:=h.lim
 refine zQ1 l.length (λk t w'=>t=(k:Int)/\(∀f ∈ l.take k,decide (f.name=nm)=false)/\Pu w w') ⟨rfl,by simp,Pu.refl _⟩ ?_
 rintro k J t w2 hk ⟨ht,hno,hp⟩ hJ
 obtain rfl:t=(k:Int):=ht
 refine Br.of (λd=>?_) (λd=>?_)
 ·have ak:k<l.length:=by have:=zQm d;omega
  obtain⟨f,hf⟩:=zXe ak
  obtain⟨a,ha,hi,_,_,c,_⟩:=zZ2 (h.pu hp) hf
  refine⟨a,ha,by omega,by omega,_,c,?_⟩
  rw[zZq]
  refine Br.of (λd1=>?_) (λd1=>?_)
  ·have:zWl l nm=some k:=zKV hno hf d1
   refine⟨?_,hp⟩
   unfold yXb;rw[this];rfl
  ·rw[zQd (by omega) (by omega)]
   refine hJ _ _ ak ⟨by omega,λf' hf'=>?_,hp⟩
   rw[zQP hf,List.mem_append,List.mem_singleton]at hf'
   rcases hf' with hf'|rfl
   ·exact hno f' hf'
   ·exact d1
 ·have ak:k=l.length:=by have:=zQh d;omega
  subst ak
  rw[List.take_length]at hno
  have:zWl l nm=none:=by unfold zWl;rw[List.findIdx?_eq_none_iff];exact λx hx=>by rw[hno x hx]
  refine⟨?_,hp⟩
  unfold yXb;rw[this];rfl
end Go.Proofs.YtcihcbfcgjepfaaGreatDoor
/- Desks: data, and what each call does with them, in plain words. No condition. -/
namespace Go.Proofs.YtcihcbfcgjepfaaGreatDoor
open Go.Sh Go.RowKit Tryz
structure Usr where
 mode:Int
 at_:Int
 ch:List (Int × (Rec × Rec))
 ap:List Rec
structure Dsk where
 page:Int
 flds:List Fld
 recs:List Rec
 us:Nat->Usr
 lk:Int->Option Int
def Usr.new:Usr:=⟨0,0,[],[]⟩
def Dsk.new(t:Tbl):Dsk:=⟨t.page,t.fields,t.recs,λ_=>Usr.new,λ_=>none⟩
def Dsk.tbl(σ:Dsk):Tbl:=⟨σ.page,σ.flds,σ.recs⟩
def Dsk.setU(σ:Dsk)(u:Nat)(x:Usr):Dsk:={ σ with us:=λv=>if v=u then x else σ.us v }
def Usr.emp(x:Usr):Bool:=decide (x.ch.length+x.ap.length=0)
def Usr.rows(x:Usr):Bool:=decide (x.mode=1) || decide (x.mode=2)
def isU(u:Int):Bool:=decide (0<=u) && decide (u<4)
def modeC(u m:Int)(σ:Dsk):Int:=if ¬isU u=true then 1 else if m<0∨m > 4 then 1 else if (σ.us u.toNat).emp=false then 9 else 0
def modeS(u m:Int)(σ:Dsk):Dsk:=if modeC u m σ=0 then σ.setU u.toNat { σ.us u.toNat with mode:=m }else σ
def seenR(σ:Dsk)(u:Nat)(k:Int):Option Rec:=
 if k<0 then(σ.us u).ap[(-k - 1).toNat]? else if k<1∨k > σ.recs.length then none else match AL.get (σ.us u).ch k with
  | some c=>some c.2
  | none=>σ.recs[(k - 1).toNat]?
def zZK(a b c:Val):Bool:=!decide (a=b) && (!decide (c=a) && !decide (c=b))
def yQs(a b c:Bool):Bool:=!decide (a=b) && (!decide (c=a) && !decide (c=b))
def zXS:List Val->List Val->List Val->Bool
 | a :: xs,b :: bs,c :: cs=>zZK a b c || zXS xs bs cs
 | _,_,_=>false
def zWa(c:Rec × Rec)(r:Rec):Bool:=yQs c.1.gone c.2.gone r.gone || zXS c.1.v c.2.v r.v
theorem zJh(a b c:Bool):yQs a b c=false:=by cases a <;> cases b <;> cases c <;> rfl
def recK(σ:Dsk)(k:Int):Rec:=σ.recs.getD (k - 1).toNat default
def keysU(σ:Dsk)(u:Nat):List Nat:=(List.range σ.recs.length).filter λi=>(AL.get (σ.us u).ch ((i:Int)+1)).isSome
def clashK(σ:Dsk)(u:Nat):List Nat:=(List.range σ.recs.length).filter λi=>match AL.get (σ.us u).ch ((i:Int)+1)with
 | some c=>zWa c (recK σ ((i:Int)+1))
 | none=>false
def zJc:List Val->List Val->List Val->List Val
 | a :: xs,b :: bs,c :: cs=>(if a=b then c else b) :: zJc xs bs cs
 | _,_,cs=>cs
theorem zWr:∀a b c:List Val,(zJc a b c).length=c.length
 | [],_,c=>rfl
 | _ :: _,[],c=>rfl
 | _ :: _,_ :: _,[]=>rfl
 | a :: xs,b :: bs,c :: cs=>by simp[zJc,zWr xs bs cs]
def zZZ(c:Rec × Rec)(r:Rec):Rec:=⟨if c.1.gone=c.2.gone then r.gone else c.2.gone,zJc c.1.v c.2.v r.v⟩
def zXo (ch:List (Int × (Rec × Rec))) (l:List Rec):List Rec:=l.mapIdx λi r=>match AL.get ch ((i:Int)+1)with
 | some c=>zZZ c r
 | none=>r
theorem zXv (ch:List (Int × (Rec × Rec))) (l:List Rec):(zXo ch l).length=l.length:=by simp[zXo]
def busyB(σ:Dsk)(u:Nat):Bool:=(σ.us u).ch.any λc=>match σ.lk c.1 with
 | some v=>!decide (v=(u:Int))
 | none=>false
def zXB(u:Nat)(σ:Dsk):Dsk:={ σ.setU u { σ.us u with ch:=[],ap:=[] }with lk:=λk=>if σ.lk k=some (u:Int)then none else σ.lk k }
def storeC(u:Nat)(force:Bool)(σ:Dsk):Int:=if force=false/\clashK σ u ≠ []then 13 else if busyB σ u=true then 12 else 0
def storeL(u:Nat)(σ:Dsk):List Int:=(List.range (σ.us u).ap.length).map λ(i:Nat)=>((σ.recs.length:Int)+i)+1
def storedS(u:Nat)(σ:Dsk):Dsk:=
 let x:=σ.us u
 zXB u ({ σ with recs:=zXo x.ch σ.recs ++ x.ap }.setU u { x with at_:=if x.at_<0 then(σ.recs.length:Int) - x.at_ else x.at_ })
def storeS(u:Nat)(force:Bool)(σ:Dsk):Dsk:=if storeC u force σ=0 then storedS u σ else σ
def leaveC(u:Nat)(σ:Dsk):Int:=if (σ.us u).rows=false∨(σ.us u).emp=true then 0 else storeC u false σ
def leaveS(u:Nat)(σ:Dsk):Dsk:=if (σ.us u).rows=false∨(σ.us u).emp=true then σ else storeS u false σ
def storeE(u:Int)(force:Bool)(σ:Dsk):Int:=if isU u=true then storeC u.toNat force σ else 1
def storeEL(u:Int)(force:Bool)(σ:Dsk):List Int:=if storeE u force σ=0 then storeL u.toNat σ else []
def storeES(u:Int)(force:Bool)(σ:Dsk):Dsk:=if isU u=true then storeS u.toNat force σ else σ
def goC(u k:Int)(σ:Dsk):Int:=if ¬isU u=true then 1 else if seenR σ u.toNat k=none then 4 else if k=(σ.us u.toNat).at_ then 0 else leaveC u.toNat σ
def goS(u k:Int)(σ:Dsk):Dsk:=if goC u k σ ≠ 0 then σ else
 let σ':=if k=(σ.us u.toNat).at_ then σ else leaveS u.toNat σ
 σ'.setU u.toNat { σ'.us u.toNat with at_:=k }
def allN(σ:Dsk):Nat:=σ.recs.length+((σ.us 0).ap.length+(σ.us 1).ap.length+(σ.us 2).ap.length+(σ.us 3).ap.length)
def appC(u:Int)(σ:Dsk):Int:=if ¬isU u=true then 1 else if leaveC u.toNat σ ≠ 0 then leaveC u.toNat σ else if 300<=allN (leaveS u.toNat σ)then 3 else 0
def blankR(σ:Dsk):Rec:=⟨false,σ.flds.map zQ9⟩
def appendedS(u:Nat)(σ:Dsk):Dsk:=if (σ.us u).mode=0 then { σ with recs:=σ.recs ++ [blankR σ] }.setU u { σ.us u with at_:=(σ.recs.length:Int)+1 }else
 σ.setU u { σ.us u with ap:=(σ.us u).ap ++ [blankR σ],at_:=-((σ.us u).ap.length:Int) - 1 }
def appS(u:Int)(σ:Dsk):Dsk:=if ¬isU u=true then σ else if leaveC u.toNat σ ≠ 0 then σ else if 300<=allN (leaveS u.toNat σ)then leaveS u.toNat σ else appendedS u.toNat (leaveS u.toNat σ)
def appN(u:Int)(σ:Dsk):Int:=if appC u σ=0 then((appS u σ).us u.toNat).at_ else 0
def lockC(u:Nat)(σ:Dsk):Int:=let x:=σ.us u
 if x.mode=2∨x.mode=4∨x.at_<0 then 0 else match σ.lk x.at_ with
  | some v=>if v=(u:Int)then 0 else 12
  | none=>0
def lockS(u:Nat)(σ:Dsk):Dsk:=let x:=σ.us u
 if x.mode=2∨x.mode=4∨x.at_<0∨x.mode=0 then σ else { σ with lk:=λk=>if k=x.at_ then some (u:Int)else σ.lk k }
def alterS(u:Nat)(f:Rec->Rec)(σ:Dsk):Dsk:=let x:=σ.us u
 if x.at_<0 then σ.setU u { x with ap:=x.ap.modify (-x.at_ - 1).toNat f }
 else if x.mode=0 then { σ with recs:=σ.recs.modify (x.at_ - 1).toNat f }
 else let c:=(AL.get x.ch x.at_).getD (recK σ x.at_,recK σ x.at_)
  (lockS u σ).setU u { x with ch:=AL.put x.ch x.at_ (c.1,f c.2) }
def setVal(i:Nat)(v:Val)(r:Rec):Rec:={ r with v:=r.v.set i v }
def zZX(g:Bool)(r:Rec):Rec:={ r with gone:=g }
def setC(u:Int)(field:ByteArray)(v:Val)(σ:Dsk):Int:=if ¬isU u=true then 1 else if (σ.us u.toNat).at_=0 then 9 else match zWl σ.flds field with
 | none=>4
 | some i=>if (zZM (σ.flds.getD i default) σ.page v).2 ≠ 0 then(zZM (σ.flds.getD i default) σ.page v).2 else lockC u.toNat σ
def setS(u:Int)(field:ByteArray)(v:Val)(σ:Dsk):Dsk:=if setC u field v σ=0 then match zWl σ.flds field with
 | none=>σ
 | some i=>alterS u.toNat (setVal i (zZM (σ.flds.getD i default) σ.page v).1) σ
 else σ
def markC(u:Int)(σ:Dsk):Int:=if ¬isU u=true then 1 else if (σ.us u.toNat).at_=0 then 9 else lockC u.toNat σ
def markS(u:Int)(g:Bool)(σ:Dsk):Dsk:=if markC u σ=0 then alterS u.toNat (zZX g) σ else σ
def valueR(σ:Dsk)(r:Option Rec)(field:ByteArray):Val × Int:=match r,zWl σ.flds field with
 | some r,some i=>(r.v.getD i noV,0)
 | _,_=>(noV,4)
def getR(u k:Int)(field:ByteArray)(σ:Dsk):Val × Int:=if ¬isU u=true then(noV,1)else valueR σ (seenR σ u.toNat k) field
def oldRec(σ:Dsk)(u:Nat)(k:Int):Option Rec:=(seenR σ u k).map λr=>if k<0 then blankR σ else match AL.get (σ.us u).ch k with
 | some c=>c.1
 | none=>r
def oldR(u k:Int)(field:ByteArray)(σ:Dsk):Val × Int:=if ¬isU u=true then(noV,1)else valueR σ (oldRec σ u.toNat k) field
def nowR(k:Int)(field:ByteArray)(σ:Dsk):Val × Int:=if k<1∨k > σ.recs.length then(noV,4)else valueR σ (some (recK σ k)) field
def changedL(u:Int)(σ:Dsk):List Int:=if isU u=true then(keysU σ u.toNat).map (λ(i:Nat)=>(i:Int)+1) ++ (List.range (σ.us u.toNat).ap.length).map (λ(i:Nat)=>-(i:Int) - 1)else []
def clashesL(u:Int)(σ:Dsk):List Int:=if isU u=true then(clashK σ u.toNat).map (λ(i:Nat)=>(i:Int)+1)else []
def uC(u:Int):Int:=if isU u=true then 0 else 1
def lockedR(k:Int)(σ:Dsk):Int × Bool × Int:=if k<1∨k > σ.recs.length then(0,false,4)else((σ.lk k).getD 0,(σ.lk k).isSome,0)
def revertU(u:Nat)(σ:Dsk):Dsk:=zXB u (σ.setU u { σ.us u with at_:=if (σ.us u).at_<0 then 0 else(σ.us u).at_ })
def revertN(u:Int)(σ:Dsk):Nat:=if isU u=true then(σ.us u.toNat).ch.length+(σ.us u.toNat).ap.length else 0
def revertS(u:Int)(σ:Dsk):Dsk:=if isU u=true then revertU u.toNat σ else σ
def fallS(u:Int)(σ:Dsk):Dsk:=if isU u=true then let σ':=revertU u.toNat σ;σ'.setU u.toNat { σ'.us u.toNat with mode:=0,at_:=0 }else σ
end Go.Proofs.YtcihcbfcgjepfaaGreatDoor
