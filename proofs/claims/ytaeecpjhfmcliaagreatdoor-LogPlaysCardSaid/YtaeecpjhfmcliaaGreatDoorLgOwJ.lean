import Derived.Test.YtaeecpjhfmcliaaGreatDoorLgOwI
import Derived.Test.YtaeecpjhfmcliaaGreatDoorLgOwH
import Derived.Test.YtaeecpjhfmcliaaGreatDoorLgO2
import Derived.Test.YtaeecpjhfmcliaaGreatDoorLgPrC
import Derived.Test.YtaeecpjhfmcliaaGreatDoorLgOwC
import Derived.Test.YtaeecpjhfmcliaaGreatDoorLgOwG
import Derived.Test.YtaeecpjhfmcliaaGreatDoorShThirteen
/- The log: the reference sets values, and tells what differs. No condition but those stated. -/
set_option maxRecDepth 100000
set_option linter.unusedVariables false
set_option linter.unusedSimpArgs false
noncomputable section
namespace Go.Proofs.YtaeecpjhfmcliaaGreatDoor
open Go.Sh Go.RowKit Tryz
variable {w0 w w' : World} {X : Nat -> Prop} {R R' : RL} {p : Int} {f : List Fld} {d : Dat}
theorem yZq (h:zQH X w0 R d.σ) (hi:Inv p f d) (hn:d.σ.done.length<=1000000) (hp:Pu w0 w) {k:Int} {nm:ByteArray} {v:Val} {i:Nat} {fl:Fld} {cq:Nat} (hidx:yQc d.σ.t.fields nm=some i) (hfl:d.σ.t.fields[i]?=some fl) (c:zXc d.σ k=true)
  (hb:w.heap[cq]?=some (.cells #[.int .i64 (zZO fl d.σ.t.page v).1.kind,.int .i64 (zZO fl d.σ.t.page v).1.n,.string (zZO fl d.σ.t.page v).1.s] 73)) :
  xVU (zJ6 X w0 R (.int .i64 (yX7 d.σ k nm v)) (yWV d.σ k nm v)) (some ⟨R.S,0,none⟩) k (i:Int) (zZO fl d.σ.t.page v).2 cq [] w:=by
 have cJ:=(zQM.of hi.t.ok).n300
 have efl:d.σ.t.fields.getD i default=fl:=by rw[List.getD_eq_getElem?_getD,hfl];rfl
 have eC:yX7 d.σ k nm v=(zZO fl d.σ.t.page v).2:=by unfold yX7;rw[hidx];dsimp only;rw[if_pos c,efl]
 have eS:yWV d.σ k nm v=if zXc d.σ k/\(zZO fl d.σ.t.page v).2=0 then zXE d.σ (d.σ.t.recs.modify (k - 1).toNat λr=>{ r with v:=r.v.set i (zZO fl d.σ.t.page v).1 })else d.σ:=by unfold yWV;rw[hidx];dsimp only;rw[efl]
 obtain⟨j,hk,hj,hjn,hwj⟩:=zJ7 c cJ
 obtain⟨y,hy⟩:=zQK hj
 have hw:=h.pu hp
 refine Br.of (λc2=>?_) (λc2=>?_)
 ·have c2:=zQw c2
  rw[eC,eS,if_neg (λe=>c2 e.2)]
  exact⟨rfl,R,hw,zXt.pu hp R⟩
 have c2:=zQq c2
 have hrl:=hw.kp0.t.2.recs.len
 obtain⟨nv,hnv⟩:∃nv,nv=(zZO fl d.σ.t.page v).1:=⟨_,rfl⟩
 rw[eC,eS,if_pos ⟨c,c2⟩,c2,hjn,yQh hy]
 rw[←hnv]at hb ⊢
 obtain⟨a,q,ha,hjl,hV,c0,c1⟩:=zKn hw.kp0.t.2.recs hy
 have hyR:=hi.recR y (List.mem_of_getElem? hy)
 have oS:=zZg hi.t.ok y (List.mem_of_getElem? hy)
 have hvl:y.v.length=d.σ.t.fields.length:=zX1 ((zQM.of hi.t.ok).recs y (List.mem_of_getElem? hy))
 have hil:=(List.getElem?_eq_some_iff.1 hfl).1
 rw[hwj,zXn]
 refine⟨R.t.r,hw.cell 2,a,ha,by omega,by omega,y.gone,c0,q,c1,(zKI (RdV.of hV) oS.2).mono ?_⟩
 rintro e w5 ⟨q',rfl,hq',aT⟩
 refine⟨_,q',rfl,alB λw6 bE gh=>zQg gh yWv.symm rfl rfl λw7 ko m0 _=>?_⟩
 have oT:Pu w5 w7:=bE.andNew m0 λi hi=>by rw[show i=_ from hi];exact Nat.le_refl _
 have hpw7:=aT.trans oT
 have hq7:=hq'.pu oT
 have b7:=hpw7.blk hb
 have hql:q'.len=y.v.length:=hq'.len
 have hR2:zQ1 d.σ.t.fields d.σ.t.page { y with v:=y.v.set i nv }=0:=by
  rw[hi.t.fields,hi.t.page]
  refine zY6 hyR λg hg=>?_
  have:g=fl:=by rw[←hi.t.fields,hfl]at hg;exact(Option.some.inj hg).symm
  rw[this,hnv,←hi.t.page]
  exact yX0 c2
 have hv':=zYK hi hj hR2
 refine⟨q',cl ko 1,_,cl b7 0,_,cl b7 1,_,cl b7 2,?_⟩
 obtain⟨av,hav,hst⟩:=hq7.1.stElem (P:=prog) (t:=73) zX6 (by decide) (i:=i) (by omega) nv xYy.symm rfl (K:=λw4=>zQf (some (⟨w5.heap.size,0,none⟩:Addr)) λa5=>
   ∃nN:Bool,w4.cell? (a5.add 0)=some (.bool nN)/\
   ∃fQ:SV,w4.cell? (a5.add 1)=some (.slice fQ.a fQ.len fQ.cap)/\
   Calls prog 100 #[.pointer (some ⟨R.S,0,none⟩),.int .i64 k,.agg #[.bool nN,.slice fQ.a fQ.len fQ.cap]] w4 λe w6=>
   e=.returned (.tuple #[])/\zQb prog [] w6 λw7=>zJ6 X w0 R (.int .i64 0) (zXE d.σ (d.σ.t.recs.set j { y with v:=y.v.set i nv })) (.returned (.int .i64 0)) w7) λw8 hN8 oa _=>by
  have b8:=oa.blk ko (hq7.1.other ko (by decide))
  have hpw8:Pu w w8:=hpw7.andNew oa hq'.2
  have dP:=hp.trans hpw8
  rw[zZc]
  refine⟨y.gone,cl b8 0,q',cl b8 1,?_⟩
  rw[hk]
  have hx64:V64 (y.v.set i nv):=(zZg hv' { y with v:=y.v.set i nv } (by rw[zYF hj];exact List.mem_of_getElem? (List.getElem?_set_self hj))).1
  have sK:(y.v.set i nv).length<=1000000:=by rw[List.length_set];exact oS.2
  refine(yK6 (x:={ y with v:=y.v.set i nv }) (h.pu dP) hi.t.ok hi.ne hn (RdV.of (xXs hN8 sK hx64)) sK (Nat.le_of_lt hj) hv').mono ?_
  rintro e w9 ⟨rfl,R9,h9,xc⟩
  rw[zYF hj]at h9
  exact⟨rfl,rfl,R9,h9,(zXt.pu dP R).trans xc⟩
 exact⟨av,hav,by omega,by omega,by rw[zXn];exact hst⟩
theorem rset_c(h:zQH X w R d.σ)(hi:Inv p f d)(hn:d.σ.done.length<=1000000)(k:Int)(nm:ByteArray)(v:Val):Calls prog 67 #[R.ptr,.int .i64 k,.string nm,.agg #[.int .i64 v.kind,.int .i64 v.n,.string v.s]] w (zJ6 X w R (.int .i64 (yX7 d.σ k nm v)) (yWV d.σ k nm v)):=by
 refine xQQ _ _ _ _ _ _ w _ (alB λw1 ar aA=>?_)
 have h1:=h.pu ar
 refine⟨R.t.f,h1.cell 1,(xZO h1.kp0.t.2.fields nm).mono ?_⟩
 rintro e w2 ⟨rfl,aq⟩
 have aE:=ar.trans aq
 have h2:=h.pu aE
 have stay:∀{w3:World} (c:Int),Pu w w3->yX7 d.σ k nm v=c->yWV d.σ k nm v=d.σ->zJ6 X w R (.int .i64 (yX7 d.σ k nm v)) (yWV d.σ k nm v) (.returned (.int .i64 c)) w3:=λ{w3} c hp hc hd=>by
  rw[hd,hc]
  exact⟨rfl,R,h.pu hp,zXt.pu hp R⟩
 refine⟨_,_,rfl,(yXs h2 k).mono ?_⟩
 rintro e w3 ⟨rfl,rfl⟩
 refine⟨_,rfl,Br.of (λc1=>?_) (λc1=>Br.of (λc=>?_) (λc=>zQc λw4 aK _=>?_))⟩
 ·have c1:zXc d.σ k=false:=by simpa using c1
  refine stay 4 aE ?_ ?_
  ·unfold yX7
   cases yQc d.σ.t.fields nm with
   | none=>rfl
   | some i=>dsimp only;rw[if_neg (by rw[c1];simp)]
  ·unfold yWV
   cases yQc d.σ.t.fields nm with
   | none=>rfl
   | some i=>dsimp only;rw[if_neg (by rw[c1];simp)]
 ·have c:yQc d.σ.t.fields nm=none:=by simpa using c
  exact stay 4 aE (by unfold yX7;rw[c]) (by unfold yWV;rw[c])
 have c1:zXc d.σ k=true:=by simpa using c1
 have c:(yQc d.σ.t.fields nm).isSome=true:=by simpa using c
 obtain⟨i,hidx⟩:=Option.isSome_iff_exists.1 c
 have hil:=xQr hidx
 have eK:xZK d.σ.t.fields nm=(i:Int):=by unfold xZK;rw[hidx];rfl
 obtain⟨fl,hfl⟩:=zQK hil
 have ct:=aE.trans aK
 have h4:=h.pu ct
 have b4:=aK.blk (aq.blk aA)
 rw[eK]
 obtain⟨a,ha,hia,_,_,_,f0,f1,f2,f3⟩:=zJi h4.kp0.t.2.fields hfl
 refine⟨λu=>Pu w4 u,Pu.refl _,R.t.f,λu hu=>(h4.pu hu).cell 1,a,ha,by omega,by omega,_,λu hu=>by rw[zXn];exact hu.cell f0,_,λu hu=>by rw[zXn];exact hu.cell f1,_,λu hu=>by rw[zXn];exact hu.cell f2,_,λu hu=>by rw[zXn];exact hu.cell f3,R.t.page,λu hu=>(h4.pu hu).cell0,_,λu hu=>cl (hu.blk b4) 0,_,λu hu=>cl (hu.blk b4) 1,_,λu hu=>cl (hu.blk b4) 2,?_⟩
 rw[h4.kp0.t.1]
 refine⟨(xWI fl d.σ.t.page v w4).mono ?_,alB λw5 aT bq=>⟨aT,(xWI fl d.σ.t.page v w5).mono ?_⟩⟩
 ·rintro e w5 ⟨rfl,aT⟩
  refine⟨_,_,_,_,rfl,alB λw6 bE gh=>zQg gh xYy.symm rfl rfl λw7 ko m0 _=>?_⟩
  have oT:Pu w5 w7:=bE.andNew m0 λi hi=>by rw[show i=_ from hi];exact Nat.le_refl _
  exact yZq h hi hn ((ct.trans aT).trans oT) hidx hfl c1 ko
 ·rintro e w6 ⟨rfl,bE⟩
  refine⟨_,_,_,_,rfl,zQg (bE.blk bq) xYy.symm rfl rfl λw7 ko m0 _=>?_⟩
  have hp47:Pu w4 w7:=(aT.trans bE).andNew m0 λi hi=>by rw[show i=_ from hi];exact Nat.le_refl _
  exact yZq h hi hn (ct.trans hp47) hidx hfl c1 ko
theorem xQ4(a b:List Rec)(n:Nat):zKX a b n=zKX b a n:=by
 have e:zV2 a b=zV2 b a:=by
  funext i
  unfold zV2
  congr 1
  exact decide_eq_decide.2 ⟨Eq.symm,Eq.symm⟩
 unfold zKX
 rw[e]
theorem yWx(h:InvW p f d):yX9 d.σ.t d.σ.last=(zZD d.σ,0):=by
 have hl:=h.lastL
 unfold yX9
 rw[if_neg (by rw[h.t.ok];simp),if_neg (by rw[hl.ok];simp),if_neg (by rw[h.t.page,h.t.fields,hl.page,hl.fields];simp)]
 unfold zZD
 rw[xQ4,Nat.max_comm]
theorem xY2(h:zQH X w R d.σ)(hi:InvW p f d)(hn:d.σ.done.length<=1000000):Calls prog 26 #[R.ptr] w λe w'=>∃q:SV,e=.returned (slV q)/\zJD w w' q (zZD d.σ)/\Pu w w':=by
 refine xXY _ w _ (zQc λw1 ar _=>?_)
 have h1:=h.pu ar
 obtain⟨x,a,ha,hcl,hpos,hwr,c0,c1,c2,hK⟩:=h1.lastC hi.ne hn
 refine⟨R.t.page,h1.cell 0,R.t.f,h1.cell 1,R.t.r,h1.cell 2,R.cm,h1.cell 3,R.cm,h1.cell 3,a,ha,?_⟩
 rw[hwr,zXn]
 refine⟨by omega,by omega,x.page,c0,x.f,c1,x.r,c2,?_⟩
 rw[hK.1,h1.kp0.t.1]
 refine(xXg h1.kp0.t.2 hK.2).mono ?_
 rintro e w2 ⟨q,rfl,hq,aq⟩
 rw[yWx hi]at hq
 have hz:=ar.size
 exact⟨q,_,rfl,q,rfl,⟨hq.1,λb hb=>by have:=hq.2 b hb;omega⟩,ar.trans aq⟩
end Go.Proofs.YtaeecpjhfmcliaaGreatDoor
/- The log: what is too much in a script; a script's records and values. No condition but those stated. -/
namespace Go.Proofs.YtaeecpjhfmcliaaGreatDoor
open Go.Sh Go.RowKit Tryz
variable {w0 w w' : World} {x : zZf} {s : ScV}
theorem over_c(h:xXA w x s):Calls prog 15 #[scA x s] w λe w'=>∃b:Bool,e=.returned (.bool b)/\Pu w w'/\(b=false->x.acts.length<=80/\x.t.recs.length<=60):=by
 have hrl:=h.rs.len
 have hal:=h.ac.len
 have htl:=h.t.recs.len
 have hrm:=h.rs.lim
 have ham:=h.ac.lim
 refine yYT _ _ _ _ _ _ w _ (alB λw1 ar aA=>zQc λw2 aq _=>?_)
 have aE:=ar.trans aq
 have b2:=aq.blk aA
 refine⟨λu=>Pu w2 u,Pu.refl _,_,λu hu=>cl (hu.blk b2) 0,s.f,λu hu=>cl (hu.blk b2) 1,s.r,λu hu=>cl (hu.blk b2) 2,s.vs,λu hu=>cl (hu.blk b2) 4,s.rs,λu hu=>cl (hu.blk b2) 3,(xZI (h.t.pu aE)).mono ?_⟩
 rintro e w3 ⟨n3,rfl,au⟩
 refine⟨n3,rfl,au,(zVo (h.vs.pu (aE.trans au))).mono ?_⟩
 rintro e w4 ⟨n4,rfl,aK⟩
 have fT:=au.trans aK
 refine⟨n4,rfl,fT,?_⟩
 refine zQx x.recs.length (λk t w'=>t.2=(k:Int)/\Pu w2 w') ⟨rfl,fT⟩ ?_
 rintro k J ⟨n,m⟩ wa hk ⟨hm,hpa⟩ hJ
 obtain rfl:m=(k:Int):=hm
 dsimp only
 have ba:=hpa.blk b2
 refine⟨s.rs,cl ba 3,Br.of (λc=>?_) (λc=>?_)⟩
 ·have hkn:k<x.recs.length:=by have:=zQj c;omega
  obtain⟨r,hr⟩:=zQK hkn
  obtain⟨a,q,ha,_,hV,_,c1⟩:=zKn (h.rs.pu (aE.trans hpa)) hr
  refine⟨s.rs,cl ba 3,a,ha,by omega,by omega,q,by rw[zXn];exact c1,(zVo hV).mono ?_⟩
  rintro e wb ⟨nb,rfl,hpb⟩
  rw[zQa (n:=(k:Int)+1) (by omega) (by omega)]
  exact⟨nb,rfl,hJ _ _ hkn ⟨by dsimp only;omega,hpa.trans hpb⟩⟩
 ·refine zQx x.acts.length (λk t w'=>t.2=(k:Int)/\Pu w2 w') ⟨rfl,hpa⟩ ?_
  rintro k2 J2 ⟨n2,m2⟩ wb aH ⟨xA,hpb⟩ zL
  obtain rfl:m2=(k2:Int):=xA
  dsimp only
  have bb:=hpb.blk b2
  refine⟨s.ac,cl bb 5,Br.of (λc=>?_) (λc=>?_)⟩
  ·have hkn:k2<x.acts.length:=by have:=zQj c;omega
   obtain⟨r,hr⟩:=zQK hkn
   obtain⟨a,ha,_,_,_,_,_,_,c4,_⟩:=actAt (h.ac.pu (aE.trans hpb)) hr
   refine⟨s.ac,cl bb 5,a,ha,by omega,by omega,r.s,by rw[zXn];exact c4,?_⟩
   rw[zQa (n:=(k2:Int)+1) (by omega) (by omega)]
   exact zL _ _ hkn ⟨by dsimp only;omega,hpb⟩
  ·have hp0b:=aE.trans hpb
   refine Br.of (λ_=>⟨true,rfl,hp0b,λe=>by cases e⟩) (λ_=>⟨s.ac,cl bb 5,Br.of (λ_=>⟨true,rfl,hp0b,λe=>by cases e⟩) (λc2=>⟨s.r,cl bb 2,_,rfl,hp0b,λe=>?_⟩)⟩)
   have c2:=zQd c2
   have c3:=zQd e
   omega
def noR:Rec:=⟨false,[]⟩
def zVb(x:zZf)(n:Int):Rec:=if 0<=n/\n<x.recs.length then x.recs.getD n.toNat noR else noR
def zW9(x:zZf)(n:Int):Val:=if 0<=n/\n<x.vals.length then x.vals.getD n.toNat noV else noV
theorem nil_rd(w:World):zX3 w ⟨none,0,0⟩ ([]:List Val):=⟨rfl,Nat.le_refl _,by show 0<=_;omega,λi v hv=>by simp at hv⟩
theorem yXc(h:xXA w0 x s)(hp:Pu w0 w)(n:Int):Calls prog 62 #[scA x s,.int .i64 n] w λe w'=>∃q:SV,e=.returned (.agg #[.bool (zVb x n).gone,slV q])/\zX3 w0 q (zVb x n).v/\Pu w w':=by
 have hrl:=h.rs.len
 refine xQS _ _ _ _ _ _ _ w _ (alB λw1 ar aA=>alB λw2 aq aN=>?_)
 have aE:=ar.trans aq
 have cL:=aq.blk aA
 have z1:=ar.size
 have bad:¬(0<=n/\n<x.recs.length)->stA prog 67 (⟨w1.heap.size,0,none⟩:Addr) #[.bool false,.slice none 0 0] w2 λw3=>zQb prog [] w3 λw4=>
   ∃bJ:Bool,w4.cell? ((⟨w1.heap.size,0,none⟩:Addr).add 0)=some (.bool bJ)/\∃ab:SV,w4.cell? ((⟨w1.heap.size,0,none⟩:Addr).add 1)=some (.slice ab.a ab.len ab.cap)/\
   ∃q:SV,Ending.returned (.agg #[.bool bJ,.slice ab.a ab.len ab.cap])=.returned (.agg #[.bool (zVb x n).gone,slV q])/\zX3 w0 q (zVb x n).v/\Pu w w4:=λhn=>by
  have e:zVb x n=noR:=by unfold zVb;rw[if_neg hn]
  rw[e]
  exact zQg aN yWv.symm rfl rfl λw3 bo fS _=>⟨_,cl bo 0,⟨none,0,0⟩,cl bo 1,⟨none,0,0⟩,rfl,nil_rd w0,aE.andNew fS λi hi=>by rw[show i=_ from hi];exact z1⟩
 refine Br.of (λc=>bad (by have:=zQj c;omega)) (λc=>⟨s.rs,cl cL 3,Br.of (λc1=>bad (by have:=zQj c1;omega)) (λc1=>?_)⟩)
 have c:=zQd c
 have c1:=zQd c1
 have hn:0<=n/\n<x.recs.length:=by omega
 obtain⟨k,rfl⟩:∃k:Nat,n=(k:Int):=⟨n.toNat,by omega⟩
 obtain⟨r,hr⟩:=zQK (l:=x.recs) (k:=k) (by omega)
 have e:zVb x (k:Int)=r:=by unfold zVb;rw[if_pos hn,zXn,List.getD_eq_getElem?_getD,hr];rfl
 obtain⟨a,q,ha,_,hV,c0,nS⟩:=zKn h.rs hr
 have hpw:=hp.trans aE
 rw[e]
 refine⟨s.rs,cl cL 3,a,ha,by omega,by omega,r.gone,by rw[zXn];exact hpw.cell c0,q,by rw[zXn];exact hpw.cell nS,?_⟩
 exact zQg aN yWv.symm rfl rfl λw3 bo fS _=>⟨_,cl bo 0,q,cl bo 1,q,rfl,hV,aE.andNew fS λi hi=>by rw[show i=_ from hi];exact z1⟩
theorem yYB(h:xXA w0 x s)(hp:Pu w0 w)(n:Int):Calls prog 66 #[scA x s,.int .i64 n] w λe w'=>e=.returned (.agg #[.int .i64 (zW9 x n).kind,.int .i64 (zW9 x n).n,.string (zW9 x n).s])/\Pu w w':=by
 have hrl:=h.vs.len
 refine yYV _ _ _ _ _ _ _ w _ (alB λw1 ar aA=>alB λw2 aq aN=>?_)
 have aE:=ar.trans aq
 have cL:=aq.blk aA
 have z1:=ar.size
 have bad:¬(0<=n/\n<x.vals.length)->stA prog 73 (⟨w1.heap.size,0,none⟩:Addr) #[.int .i64 0,.int .i64 0,.string (⟨#[]⟩:ByteArray)] w2 λw3=>zQb prog [] w3 λw4=>
   ∃ag:Int,w4.cell? ((⟨w1.heap.size,0,none⟩:Addr).add 0)=some (.int .i64 ag)/\∃aj:Int,w4.cell? ((⟨w1.heap.size,0,none⟩:Addr).add 1)=some (.int .i64 aj)/\∃ak:ByteArray,w4.cell? ((⟨w1.heap.size,0,none⟩:Addr).add 2)=some (.string ak)/\
   Ending.returned (.agg #[.int .i64 ag,.int .i64 aj,.string ak])=.returned (.agg #[.int .i64 (zW9 x n).kind,.int .i64 (zW9 x n).n,.string (zW9 x n).s])/\Pu w w4:=λhn=>by
  have e:zW9 x n=noV:=by unfold zW9;rw[if_neg hn]
  rw[e]
  exact zQg aN xYy.symm rfl rfl λw3 bo fS _=>⟨_,cl bo 0,_,cl bo 1,_,cl bo 2,rfl,aE.andNew fS λi hi=>by rw[show i=_ from hi];exact z1⟩
 refine Br.of (λc=>bad (by have:=zQj c;omega)) (λc=>⟨s.vs,cl cL 4,Br.of (λc1=>bad (by have:=zQj c1;omega)) (λc1=>?_)⟩)
 have c:=zQd c
 have c1:=zQd c1
 have hn:0<=n/\n<x.vals.length:=by omega
 obtain⟨k,rfl⟩:∃k:Nat,n=(k:Int):=⟨n.toNat,by omega⟩
 obtain⟨r,hr⟩:=zQK (l:=x.vals) (k:=k) (by omega)
 have e:zW9 x (k:Int)=r:=by unfold zW9;rw[if_pos hn,zXn,List.getD_eq_getElem?_getD,hr];rfl
 obtain⟨a,ha,_,_,_,c0,nS,c2⟩:=yVs h.vs hr
 have hpw:=hp.trans aE
 rw[e]
 refine⟨s.vs,cl cL 4,a,ha,by omega,by omega,_,by rw[zXn];exact hpw.cell c0,_,by rw[zXn];exact hpw.cell nS,_,by rw[zXn];exact hpw.cell c2,?_⟩
 exact zQg aN xYy.symm rfl rfl λw3 bo fS _=>⟨_,cl bo 0,_,cl bo 1,_,cl bo 2,rfl,aE.andNew fS λi hi=>by rw[show i=_ from hi];exact z1⟩
end Go.Proofs.YtaeecpjhfmcliaaGreatDoor
/- The log: the table is written into the data file, and the log made empty. No condition but those stated. -/
namespace Go.Proofs.YtaeecpjhfmcliaaGreatDoor
open Go.Sh Go.RowKit Tryz
variable {w0 w w' : World} {X : Nat -> Prop} {L L' : SL} {d d' : Dat} {mu : Int} {p : Int} {f : List Fld}
theorem zKd.fr {w0:World} {q:SV} {wh:List (Int × Int × SV)} {l:List Wr} {B:Nat->Prop} (h:zKd w0 w q wh l) (hf:Fr B w w') (hB:∀k,w0.heap.size<=k->k<w.heap.size->¬B k):zKd w0 w' q wh l:=
 ⟨h.row.fr hf λk hk=>hB k (h.rn k hk) (h.row.lt k hk),h.rn,h.len,λi x y hx hy=>⟨(h.each i x y hx hy).1,(h.each i x y hx hy).2.1,(h.each i x y hx hy).2.2.fr hf hB⟩⟩
theorem xY7(h:zQF X w L d 0)(hi:Inv p f d)(hs:Fit d):Calls prog 41 #[L.ptr] w (yXg X w L (.int .i64 (zVy d.σ)) d.clean):=by
 have hS:=h.S_lt
 have hlv:=h.lv.len zQt (by decide)
 have hll:=h.ll
 have hv:=hi.t.ok
 have hbo:zQI d.σ.t=zQk d.σ.t:=by unfold zQI;rw[if_pos hv]
 refine yYS _ w _ ((zXd h (Pu.refl w)).mono ?_)
 rintro e w1 ⟨rfl,hI,hf,hsz⟩
 have h1:=hI.at_ h
 refine⟨_,_,rfl,zZT (Br.of (λc=>by cases c) λ_=>⟨L.lv,h1.cellA 5,Br.of (λc=>?_) (λc=>?_)⟩)⟩
 ·have hlne:d.σ.lev ≠ []:=λe=>by
   have:d.σ.lev.length=0:=by rw[e];rfl
   have:=zQj c
   omega
  have e1:zVy d.σ=9:=by unfold zVy;rw[if_neg hlne]
  have e2:d.clean=d:=by unfold Dat.clean;rw[if_neg λe=>hlne e.1]
  rw[e1,e2]
  exact zXK h1 hI.left
 have hlev:d.σ.lev=[]:=List.eq_nil_of_length_eq_zero (by have:=zQd c;omega)
 have e1:zVy d.σ=0:=by unfold zVy;rw[if_pos hlev]
 obtain⟨al,hal,cl0',sJ⟩:=h1.kp0.la.ex
 have hll2:=h1.kp0.la.len
 have hb1l:=h1.kp0.la.b1.len
 refine⟨L.last,h1.cellA 8,al,hal,by omega,by omega,L.l1,sJ,Br.of (λc1=>?_) (λc1=>?_)⟩
 ·have c1:L.l1.len=0:=by simpa using c1
  have e2:d.clean=d:=by unfold Dat.clean;rw[if_neg λe=>e.2 (List.eq_nil_of_length_eq_zero (by omega))]
  rw[e1,e2]
  exact zXK h1 hI.left
 have c1:¬L.l1.len=0:=by simpa using c1
 have hne:d.last.2 ≠ []:=λe=>by rw[e]at hb1l;simp at hb1l;omega
 have e2:d.clean=(zZK (d.write d.whole).last).foldl Dat.write (d.write d.whole):=by unfold Dat.clean;rw[if_pos ⟨hlev,hne⟩]
 refine zQc λaJ bj _=>?_
 have mE:=h1.pu bj
 refine⟨λu=>Pu aJ u,Pu.refl _,L.last,λu hu=>(mE.pu hu).cellA 8,al,hal,by omega,by omega,L.l1,λu hu=>hu.cell (bj.cell sJ),_,λu hu=>(mE.pu hu).cellB 2 0,L.now.f,λu hu=>(mE.pu hu).cellB 2 1,L.now.r,λu hu=>(mE.pu hu).cellB 2 2,?_⟩
 rw[mE.now.page]
 refine(xQH (mE.rdNow hv) hv).mono ?_
 rintro e bH ⟨q17,rfl,mW,kq⟩
 have h17:=mE.pu kq
 have hle:=zWd d.σ.t
 have hrl:(zZV 119 (zQI d.σ.t)).length<=700000:=by rw[zJk];omega
 have hy:okW d.whole:=⟨.inr rfl,by show 0<=(d.last.2.length:Int);omega,hrl⟩
 refine⟨q17,rfl,kq,?_⟩
 rw[show((L.l1.len:Nat):Int)=((d.last.2.length:Nat):Int)by omega]
 refine Calls.mono (yX3 (y:=d.whole) (q:=q17) h17 hy (mW.keepBy (by omega) mE.xw) ⟨by have:=hs.l1;omega,by have:=hs.l2;omega⟩ (by have:=hs.wn;omega)) ?_
 rintro e bU ⟨rfl,L1,xL,pD⟩
 have hL01:zXY w bU L L1:=(hI.left.trans (zXY.pu (bj.trans kq) L)).trans pD
 have hfile:zQR d.last=(some d.σ.t,[],false):=by rw[hi.at0 hlev];exact hi.file
 have hW:=yQA hfile hv
 have ew:(d.write d.whole).last=(d.last.1,d.last.2 ++ zZV 119 (zQk d.σ.t)):=by
  show zQP d.last d.whole=_
  unfold Dat.whole;rw[hbo];exact zKk (t:=d.σ.t)
 have hfo:(zQR (d.write d.whole).last).1=some d.σ.t:=by rw[ew,hW]
 have hl1:(d.write d.whole).last.1.length<=800000000:=by rw[ew];exact hs.l1
 have pV:(d.write d.whole).last.2.length<=800700000:=by
  rw[ew,List.length_append,←hbo]
  have:=hs.l2
  omega
 rw[←pD.ptr]
 refine⟨rfl,L1.last,xL.cellA 8,(xXh (xL.kp0).la ⟨by omega,by omega⟩ hfo).mono ?_⟩
 rintro e bT ⟨iM,q,wh,rfl,hWr⟩
 have pT:=xL.pu iM
 have hql:=hWr.row.len zJa (by decide)
 have hwl:=hWr.len
 have hml:=yYW (d.write d.whole).last
 have hkW:∀w2,Fr (λb=>L1.own b∨X b) bT w2->zKd bU w2 q wh (zZK (d.write d.whole).last):=λw2 h2=>hWr.fr h2 λk hk hlt e=>by have:=xL.xw k e;omega
 refine⟨q,rfl,?_⟩
 have jT:(d.write d.whole).wr.length=d.wr.length+1:=by show(d.wr ++ [d.whole]).length=_;simp
 generalize d.write d.whole=d1 at *
 refine zQx (zZK d1.last).length (λk u w'=>u=(k:Int)/\∃Lk,zQF X w' Lk (((zZK d1.last).take k).foldl Dat.write d1) 1/\zXY bT w' L1 Lk) ⟨rfl,L1,pT,zXY.refl _ _⟩ ?_
 rintro k J u wa hk ⟨hu,Lk,hSk,hLk⟩ hJ
 obtain rfl:u=(k:Int):=hu
 dsimp only
 obtain⟨g1,g2,g3,g4,g5⟩:=yJM ((zZK d1.last).take k) d1
 have hkWa:=hLk.keep (X:=X) hkW pT.xl
 refine Br.of (λc2=>?_) (λc2=>?_)
 ·have aH:k<(zZK d1.last).length:=by have:=zQj c2;omega
  obtain⟨y,qq⟩:=zQK aH
  have hok:=yKm (List.mem_of_getElem? qq)
  obtain⟨a,x,ha,hka,z0,z1,z2,hB⟩:=(hkWa wa (Fr.refl _ _)).at_ qq
  have hkx:∀w2,Fr (λb=>Lk.own b∨X b) wa w2->ByV w2 x y.b:=λw2 h2=>by
   obtain⟨a',x',ha',_,_,_,z2',hB'⟩:=(hkWa w2 h2).at_ qq
   rw[ha]at ha';cases ha'
   have hcell:w2.cell? ((a.add (k * 3)).add 2)=some (slV x):=by
    obtain⟨xx,hxx⟩:=zQK (l:=wh) (k:=k) (by rw[hwl];exact aH)
    obtain⟨b1,aA,_,m1⟩:=(hkWa w2 h2).row.elem zJa hxx (o:=2) rfl
    obtain⟨b2,aN,_,m2⟩:=(hkWa wa (Fr.refl _ _)).row.elem zJa hxx (o:=2) rfl
    rw[ha]at aA aN;cases aA;cases aN
    rw[m1,←m2];exact z2
   rw[hcell]at z2'
   have:x=x':=by
    obtain⟨p1,p2,p3⟩:=x;obtain⟨p1',p2',p3'⟩:=x'
    simp at z2';obtain⟨rfl,rfl,rfl⟩:=z2';rfl
   rw[this];exact hB'.by (by have:=hok.2.2;omega)
  refine⟨a,ha,by omega,by omega,_,by rw[zXn];exact z0,_,by rw[zXn];exact z1,x,by rw[zXn];exact z2,alB λwb hpb hbb=>zQg hbb vk90.symm rfl rfl λwc hbc hfc _=>?_⟩
  have hpac:Pu wa wc:=hpb.andNew hfc λi hi=>by rw[show i=_ from hi];exact Nat.le_refl _
  refine⟨_,cl hbc 0,_,cl hbc 1,x,cl hbc 2,?_⟩
  have hszk:=yZ8 (F:=d1.last) (W:=(zZK d1.last).take k) (c:=800700000) ⟨by omega,by omega⟩ λy hy=>(yKm (List.mem_of_mem_take hy)).2.2
  have htl:((zZK d1.last).take k).length<=4:=by rw[List.length_take];omega
  rw[←hLk.ptr]
  refine Calls.mono (yX3 (y:=y) (q:=x) (hSk.pu hpac) hok (xX9 hkx hpac) ⟨by rw[g5];omega,by rw[g5];omega⟩ (by
   rw[g4,List.length_append]
   have:=hs.wn
   omega)) ?_
  rintro e wd ⟨rfl,Lm,hSm,hLm⟩
  refine⟨rfl,?_⟩
  rw[zQa (by omega) (by omega)]
  refine hJ _ _ aH ⟨rfl,Lm,?_,hLk.trans ((zXY.pu hpac Lk).trans hLm)⟩
  rw[zQC qq,List.foldl_append]
  exact hSm
 ·have aH:k=(zZK d1.last).length:=by have:=zQd c2;omega
  subst aH
  rw[List.take_length]at hSk
  rw[e1,e2]
  have hL:=(hL01.trans (zXY.pu iM L1)).trans hLk
  exact zXW hSk hL hL.ptr.symm
end Go.Proofs.YtaeecpjhfmcliaaGreatDoor
/- The log: how many writes and commits there are behind some acts. In plain words. No condition but those stated. -/
namespace Go.Proofs.YtaeecpjhfmcliaaGreatDoor
open Go.Sh Go.RowKit Tryz
structure Sz(F:Fls)(n:Nat)(d:Dat):Prop where
 first:d.first=F
 wn:d.wr.length<=5 * n
 dn:d.σ.done.length<=n+1
variable {p : Int} {f : List Fld} {d : Dat} {F : Fls} {n : Nat}
theorem Sz.new(t:Tbl)(F:Fls):Sz F 0 (Dat.new t F):=⟨rfl,Nat.le_refl _,Nat.le_refl _⟩
theorem Sz.up(h:Sz F n d):Sz F (n+1) d:=⟨h.first,by have:=h.wn;omega,by have:=h.dn;omega⟩
theorem Sz.to(h:Sz F n d){σ:Sto}(e:σ.done=d.σ.done):Sz F n (d.to σ):=⟨h.first,h.wn,by show σ.done.length<=_;rw[e];exact h.dn⟩
theorem Sz.commit(h:Sz F n d):Sz F (n+1) d.commit:=by
 unfold Dat.commit
 split
 ·refine⟨h.first,?_,?_⟩
  ·show(d.wr ++ [d.rec_]).length<=_
   have:=h.wn
   rw[List.length_append,List.length_singleton];omega
  ·show(d.σ.done ++ [d.σ.t]).length<=_
   have:=h.dn
   rw[List.length_append,List.length_singleton];omega
 ·exact h.up
theorem Sz.begin(h:Sz F n d):Sz F (n+1) d.begin:=(h.to (by unfold zZU;split <;> rfl)).up
theorem Sz.back(h:Sz F n d):Sz F (n+1) d.back:=(h.to (by unfold zVj;split <;> rfl)).up
theorem Sz.end_(h:Sz F n d):Sz F (n+1) d.end_:=by
 unfold Dat.end_
 split
 ·exact h.up
 ·exact Sz.commit (h.to rfl)
theorem Sz.recs(h:Sz F n d)(l:List Rec):Sz F (n+1) (d.recs l):=Sz.commit (h.to rfl)
theorem Sz.app(h:Sz F n d)(r:Rec):Sz F (n+1) (d.app r):=by
 unfold Dat.app
 split
 ·exact h.recs _
 ·exact h.up
theorem Sz.put(h:Sz F n d)(k:Int)(r:Rec):Sz F (n+1) (d.put k r):=by
 unfold Dat.put
 split
 ·exact h.recs _
 ·exact h.up
theorem Sz.mark(h:Sz F n d)(k:Int)(g:Bool):Sz F (n+1) (d.mark k g):=by
 unfold Dat.mark
 split
 ·exact h.recs _
 ·exact h.up
theorem Sz.set(h:Sz F n d)(k:Int)(nm:ByteArray)(v:Val):Sz F (n+1) (d.set k nm v):=by
 unfold Dat.set
 cases yQc d.σ.t.fields nm with
 | none=>exact h.up
 | some i=>
  dsimp only
  split
  ·exact h.recs _
  ·exact h.up
theorem Sz.clean(h:Sz F n d)(hi:Inv p f d):Sz F (n+1) d.clean:=by
 by_cases hc:d.σ.lev=[]/\d.last.2 ≠ []
 ·have e:d.clean=(zZK (d.write d.whole).last).foldl Dat.write (d.write d.whole):=by unfold Dat.clean;rw[if_pos hc]
  obtain⟨e1,e2,e3,e4,_⟩:=yJM (zZK (d.write d.whole).last) (d.write d.whole)
  rw[←e]at e1 e2 e3 e4
  have hm:=(zVG hi hc.1).1
  refine⟨by rw[e2];exact h.first,?_,by rw[e1];exact h.up.dn⟩
  rw[e4,hm]
  show((d.wr ++ [d.whole]) ++ [_,_,_]).length<=_
  have:=h.wn
  simp only[List.length_append,List.length_cons,List.length_nil];omega
 ·have e:d.clean=d:=by unfold Dat.clean;rw[if_neg hc]
  rw[e];exact h.up
theorem Sz.small(h:Sz F n d)(hi:Inv p f d)(hF:F.1.length<=400000000/\F.2.length<=400000000)(hn:n<=100):Small d:=⟨by rw[h.first];exact hF.1,by rw[h.first];exact hF.2,by have:=h.wn;omega,hi.wb⟩
theorem Sz.fit(h:Sz F n d)(hi:Inv p f d)(hF:F.1.length<=400000000/\F.2.length<=400000000)(hn:n<=100):Fit d:=by
 have hs:=(h.small hi hF hn).files d.wr.length
 rw[←hi.eq]at hs
 exact⟨by omega,by omega,by have:=h.wn;omega,by have:=h.dn;omega⟩
end Go.Proofs.YtaeecpjhfmcliaaGreatDoor
/- The log: what is known of a store that is played in the way that the document shows. No condition. -/
namespace Go.Proofs.YtaeecpjhfmcliaaGreatDoor
open Go.Sh Go.RowKit Tryz
variable {w w' : World}
def yJB(n:Int):Val:=⟨2,n,⟨#[]⟩⟩
def oneR(n:Int):Rec:=⟨false,[yJB n]⟩
def oneF:List Fld:=[⟨⟨#[78]⟩,2,3,false⟩]
def zYb(l:List Int):Tbl:=⟨0,oneF,l.map oneR⟩
theorem one_c {r:Nat} {l:List Int} (hl:l.length<=1000) (hb:w.heap[r]?=some (.cells (l.map (Value.int .i64)).toArray 3)):Calls prog 44 #[.slice (some ⟨r,0,none⟩) l.length l.length] w λe w'=>∃f q:SV,e=.returned (zKQ (zYb l) f q)/\zZJ w w' (zYb l) f q/\Pu w w':=by
 refine xQg ⟨some ⟨r,0,none⟩,l.length,l.length⟩ w _ (alB λw1 ar aA=>alB λw2 aq aN=>alB λw3 au bo=>zQg bo zK8.symm rfl rfl λw4 cI fe _=>?_)
 have oP:Pu w2 w4:=au.andNew fe λi hi=>by rw[show i=_ from hi];exact Nat.le_refl _
 have nZ:=aq.trans oP
 have ct:=ar.trans nZ
 have lt0:w.heap.size<w1.heap.size:=zQy aA
 have nX:w1.heap.size<w2.heap.size:=zQy aN
 obtain⟨qf,hqf⟩:∃qf:SV,qf=⟨some ⟨w1.heap.size,0,none⟩,1,1⟩:=⟨_,rfl⟩
 have xG:zKz w w4 qf (zYb l).fields:=by
  rw[hqf]
  exact⟨⟨rfl,.inr ⟨_,_,rfl,oP.blk aN,Nat.le_refl _,by show 1<=maxLen;unfold maxLen;omega,rfl,rfl⟩⟩,λb hb=>by simp[zQe]at hb;omega⟩
 have S0:ChS w w2.heap.size w.heap.size (zYb l) qf [] w4:=⟨⟨⟨none,0,0⟩,by rw[cI,hqf];rfl,zJY.nil _ _⟩,nZ.blk aA,xG,ct,by omega,by omega,by omega⟩
 clear hqf
 refine zQx l.length (λk u w'=>u=(k:Int)/\ChS w w2.heap.size w.heap.size (zYb l) qf ((l.take k).map oneR) w') ⟨rfl,by simpa using S0⟩ ?_
 rintro k J u wa hk ⟨hu,hS⟩ hJ
 obtain rfl:u=(k:Int):=hu
 refine Br.of (λc=>zQc λwb hpb _=>?_) (λc=>?_)
 ·have hkn:k<l.length:=by have:(k:Int)<((l.length:Nat):Int):=zQj c;omega
  obtain⟨x,hx⟩:=zQK hkn
  have hSb:=hS.on hpb
  obtain⟨s,g1,g2⟩:=hSb.ex
  refine⟨λu=>Pu wb u,Pu.refl _,s,λu hu=>cl (hu.blk g1) 2,_,rfl,by omega,by show(k:Int)<((l.length:Nat):Int);omega,x,λu hu=>?_,(yYs x wb).mono ?_⟩
  ·rw[zXn,Nat.mul_one,cl (hu.blk (hSb.pu.blk hb)) k]
   simp[hx]
  rintro e wc ⟨rfl,hpc⟩
  refine⟨_,_,_,rfl,hpc,alB λwd hpd hbd=>⟨hpc.trans hpd,alB λwe hpe hbe=>⟨(hpc.trans hpd).trans hpe,?_⟩⟩⟩
  have hpbe:=(hpc.trans hpd).trans hpe
  have hSe:=hSb.on hpbe
  have g1e:=hpbe.blk g1
  have g2e:=g2.pu hpbe
  have zb:=hSb.pu.size
  have zc:=hpc.size
  have hv:zJH w we ⟨some ⟨wc.heap.size,0,none⟩,1,1⟩ [yJB x]:=⟨⟨rfl,.inr ⟨_,_,rfl,hpe.blk hbd,Nat.le_refl _,by show 1<=maxLen;unfold maxLen;omega,rfl,rfl⟩⟩,λb hb=>by simp[zQe]at hb;omega⟩
  obtain⟨s',wf,hra,nf,hff⟩:=g2e.push (g:=false) (vs:=[yJB x]) hSe.pu.size hv hbe rfl (by rw[List.length_map,List.length_take];omega)
  refine⟨s',wf,hra,?_⟩
  have nk:∀{b:Nat} {c:Array Value},we.heap[b]?=some (.cells c 35)->¬b ∈ zQe s:=λhb hk=>by obtain⟨qs,k1,_⟩:=g2e;exact k1.other hb (by decide) hk
  have g1f:=hff.blk g1e (nk g1e)
  refine zQu g1f (by show 2<3;omega) λwg hwg hbg=>?_
  have hfg:Fr (·=w2.heap.size) wf wg:=by rw[hwg];exact Fr.cell wf _ _ _
  have hqe:zKz w wf qf (zYb l).fields:=hSe.qf.fr hff λk hk e=>by obtain⟨qs,k1,_⟩:=g2e;exact zQr hSe.qf.1 k1 (by decide) k hk e
  rw[zQa (by omega) (by omega)]
  refine hJ _ _ hkn ⟨rfl,⟨⟨s',hbg,?_⟩,hfg.blk (hff.blk hSe.b4 (nk hSe.b4)) (Ne.symm hSe.ne),hqe.fr hfg λk hk e=>hqe.1.other g1f (by decide) (by rw[←show k=_ from e];exact hk),(hSe.pu.andNew hff g2e.own).andNew hfg λi hi=>by rw[show i=_ from hi];exact hSe.z2,hSe.z2,hSe.z4,hSe.ne⟩⟩
  rw[zQC hx,List.map_append]
  exact nf.other hfg g1f (by decide) (by decide)
 ·have hkn:k=l.length:=by have:¬(k:Int)<((l.length:Nat):Int):=zQd c;omega
  subst hkn
  rw[List.take_length]at hS
  obtain⟨s,g1,g2⟩:=hS.ex
  exact⟨_,cl g1 0,qf,cl g1 1,s,cl g1 2,zQg hS.b4 zK8.symm rfl rfl λwz hbz hfz _=>⟨_,cl hbz 0,qf,cl hbz 1,s,cl hbz 2,qf,s,rfl,⟨hS.qf.fr hfz λk hk e=>hS.qf.1.other hS.b4 (by decide) (by rw[←show k=_ from e];exact hk),g2.other hfz hS.b4 (by decide) (by decide)⟩,hS.pu.andNew hfz λi hi=>by rw[show i=_ from hi];exact hS.z4⟩⟩
theorem yZ1 (l:List Int) (h:l=[1,2]∨l=[5,2]):zQh (zYb l)=0:=by
 rcases h with rfl|rfl <;> decide +kernel
def k0:Sto:=Sto.new (zYb [1,2])
def k1:Sto:=zZU k0
def k2:Sto:=yWV k1 1 ⟨#[78]⟩ (yJB 5)
def k3:Sto:=zZU k2
def k4:Sto:=yWV k3 2 ⟨#[78]⟩ (yJB 6)
def k5:Sto:=zVj k4
def k6:Sto:=xKX k5
theorem k1_c:zKa k0=0:=by decide +kernel
theorem k2_c:yX7 k1 1 ⟨#[78]⟩ (yJB 5)=0:=by decide +kernel
theorem k3_c:zKa k2=0:=by decide +kernel
theorem k4_c:yX7 k3 2 ⟨#[78]⟩ (yJB 6)=0:=by decide +kernel
theorem k5_c:zJg k4=0:=by decide +kernel
theorem k6_c:zJg k5=0:=by decide +kernel
theorem k6_t:k6.t=zYb [5,2]:=by decide +kernel
theorem xYR:k6.done=[zYb [1,2],zYb [5,2]]:=by decide +kernel
end Go.Proofs.YtaeecpjhfmcliaaGreatDoor
/- The log: that the program commits what the document says: that call, walked. No condition. -/
namespace Go.Proofs.YtaeecpjhfmcliaaGreatDoor
open Go.Sh Go.RowKit Tryz
variable {w0 w w' : World} {X : Nat -> Prop}
structure KnS(X:Nat->Prop)(w0 w:World)(S:Nat)(p:Int)(f:List Fld)(F:Fls)(n:Nat)(d:Dat)(L:SL):Prop where
 S:L.S=S
 at_:zQF X w L d 0
 inv:Inv p f d
 sz:Sz F n d
 pu:Pu w0 w
 own:∀b,L.own b->w0.heap.size<=b
variable {S : Nat} {p : Int} {f : List Fld} {F : Fls} {n : Nat} {d d' : Dat} {L : SL}
theorem KnS.on(h:KnS X w0 w S p f F n d L)(hp:Pu w w'):KnS X w0 w' S p f F n d L:=⟨h.S,h.at_.pu hp,h.inv,h.sz,h.pu.trans hp,h.own⟩
theorem KnS.act (h:KnS X w0 w S p f F n d L) {i:Nat} {v:Value} {args:Array Value} (hc:Calls prog i args w (yXg X w L v d')) (hi:Inv p f d') (hz:Sz F (n+1) d'):Calls prog i args w λe w'=>e=.returned v/\∃L',KnS X w0 w' S p f F (n+1) d' L':=by
 refine hc.mono ?_
 rintro e w2 ⟨rfl,L2,h2,hl⟩
 exact⟨rfl,L2,hl.ptr.trans h.S,h2,hi,hz,h.pu.andNew hl.fr h.own,λb hb=>(hl.own b hb).elim (h.own b) λhb=>by have:=h.pu.size;omega⟩
theorem KnS.ptr(h:KnS X w0 w S p f F n d L):Value.pointer (some ⟨S,0,none⟩)=L.ptr:=by rw[←h.S]
theorem xYm(w:World):Calls prog 10 #[] w λe w'=>e=.returned (.bool true)/\Pu w w':=by
 have xN:=yZ1 [1,2] (.inl rfl)
 have v52:=yZ1 [5,2] (.inr rfl)
 refine xZd w _ (alB λw1 ar aA=>(one_c (l:=[1,2]) (by decide) aA).mono ?_)
 rintro e w2 ⟨f,q,rfl,hO,aq⟩
 have aE:=ar.trans aq
 refine⟨_,f,q,rfl,(new_c (X:=λ_=>False) (hO.rd (zXz xN)) (zXH xN) λb hb=>hb.elim).mono ?_⟩
 rintro e w3 ⟨au,⟨mN,_⟩|⟨_,p,rfl,L,rfl,h3,own⟩⟩
 ·exact absurd xN mN
 have hF:(zQk (zYb [1,2])).length<=400000000/\([]:List UInt8).length<=400000000:=⟨by have:=zZX (zJf.of xN);show(zQk (zYb [1,2])).length<=_;omega,by simp⟩
 have K0:KnS (λ_=>False) w w3 L.S 0 oneF (zQk (zYb [1,2]),[]) 0 (Dat.new (zYb [1,2]) (zQk (zYb [1,2]),[])) L:=⟨rfl,h3,yZt xN (yXv xN),Sz.new _ _,aE.trans au,λb hb=>by have:=own b hb;have:=aE.size;omega⟩
 obtain⟨S,hS⟩:∃S:Nat,S=L.S:=⟨_,rfl⟩
 rw[←hS]at K0 ⊢
 clear hS h3 own
 obtain⟨d0,hd0⟩:∃d0,d0=Dat.new (zYb [1,2]) (zQk (zYb [1,2]),[]):=⟨_,rfl⟩
 have s0:d0.σ=k0:=by rw[hd0];rfl
 rw[←hd0]at K0
 clear hd0
 refine⟨_,_,rfl,Br.of (λc=>by cases c) λ_=>?_⟩
 rw[K0.ptr]
 refine(K0.act (yJy K0.at_ K0.inv.toInvW) (zY8 K0.inv) K0.sz.begin).mono ?_
 rintro e w4 ⟨rfl,L1,K1⟩
 rw[s0,k1_c]
 have s1:d0.begin.σ=k1:=by show zZU d0.σ=_;rw[s0];rfl
 refine⟨_,rfl,Br.of (λc=>by cases c) λ_=>(yYs 5 w4).mono ?_⟩
 rintro e w5 ⟨rfl,aT⟩
 replace K1:=K1.on aT
 refine⟨_,_,_,rfl,?_⟩
 rw[←K0.ptr,K1.ptr]
 refine(K1.act (xYj K1.at_ K1.inv (K1.sz.fit K1.inv hF (by omega)) 1 ⟨#[78]⟩ (yJB 5)) (yZT K1.inv _ _ _) (K1.sz.set _ _ _)).mono ?_
 rintro e w6 ⟨rfl,L2,K2⟩
 rw[s1,k2_c]
 have s2:(d0.begin.set 1 ⟨#[78]⟩ (yJB 5)).σ=k2:=by rw[Dat.set_σ,s1];rfl
 refine⟨_,rfl,Br.of (λc=>by cases c) λ_=>?_⟩
 rw[←K1.ptr,K2.ptr]
 refine(K2.act (yJy K2.at_ K2.inv.toInvW) (zY8 K2.inv) K2.sz.begin).mono ?_
 rintro e w7 ⟨rfl,L3,K3⟩
 rw[s2,k3_c]
 have s3:(d0.begin.set 1 ⟨#[78]⟩ (yJB 5)).begin.σ=k3:=by show zZU (d0.begin.set 1 ⟨#[78]⟩ (yJB 5)).σ=_;rw[s2];rfl
 refine⟨_,rfl,Br.of (λc=>by cases c) λ_=>(yYs 6 w7).mono ?_⟩
 rintro e w8 ⟨rfl,bW⟩
 replace K3:=K3.on bW
 refine⟨_,_,_,rfl,?_⟩
 rw[←K2.ptr,K3.ptr]
 refine(K3.act (xYj K3.at_ K3.inv (K3.sz.fit K3.inv hF (by omega)) 2 ⟨#[78]⟩ (yJB 6)) (yZT K3.inv _ _ _) (K3.sz.set _ _ _)).mono ?_
 rintro e w9 ⟨rfl,L4,K4⟩
 rw[s3,k4_c]
 obtain⟨d4,hd4⟩:∃d4,d4=(d0.begin.set 1 ⟨#[78]⟩ (yJB 5)).begin.set 2 ⟨#[78]⟩ (yJB 6):=⟨_,rfl⟩
 have s4:d4.σ=k4:=by rw[hd4,Dat.set_σ,s3];rfl
 rw[←hd4]at K4
 clear hd4
 refine⟨_,rfl,Br.of (λc=>by cases c) λ_=>?_⟩
 rw[←K3.ptr,K4.ptr]
 refine(K4.act (xKR K4.at_ K4.inv.l8) (yKw K4.inv) K4.sz.back).mono ?_
 rintro e aP ⟨rfl,L5,K5⟩
 rw[s4,k5_c]
 have s5:d4.back.σ=k5:=by show zVj d4.σ=_;rw[s4];rfl
 refine⟨_,rfl,Br.of (λc=>by cases c) λ_=>?_⟩
 rw[←K4.ptr,K5.ptr]
 refine(K5.act (end_c K5.at_ K5.inv (K5.sz.fit K5.inv hF (by omega))) (yYw K5.inv) K5.sz.end_).mono ?_
 rintro e aU ⟨rfl,L6,K6⟩
 rw[s5,k6_c]
 have s6:d4.back.end_.σ=k6:=by rw[Dat.end_σ,s5];rfl
 obtain⟨d6,hd6⟩:∃d6,d6=d4.back.end_:=⟨_,rfl⟩
 rw[←hd6]at K6 s6
 clear hd6
 refine⟨_,rfl,Br.of (λc=>by cases c) λ_=>?_⟩
 rw[K6.ptr]
 have hdone:d6.σ.done=[zYb [1,2],zYb [5,2]]:=by rw[s6,xYR]
 refine(zYw K6.at_ (λt ht=>(K6.inv.done t ht).ok) 1).mono ?_
 rintro e aQ ⟨x,rfl,hx,dO⟩
 have eC:zVJ d6.σ 1=0:=by unfold zVJ;rw[hdone];rfl
 have eT:zZ8 d6.σ 1=zYb [5,2]:=by unfold zZ8;rw[hdone];rfl
 rw[eC]
 rw[eT]at hx
 refine⟨_,x.f,x.r,_,rfl,alB λaJ bj nY=>zQg nY zK8.symm rfl rfl λbB iB ob _=>zQc λbm fg _=>?_⟩
 have fT:Pu aQ bB:=bj.andNew ob λi hi=>by rw[show i=_ from hi];exact Nat.le_refl _
 have mM:=fT.trans fg
 have iN:=fg.blk iB
 have K7:=(K6.on dO).on mM
 have hx15:=hx.pu mM
 refine⟨λu=>Pu bm u,Pu.refl _,Br.of (λ_=>(yXE K7.at_ (by rw[hdone];decide)).mono ?_) (λc=>by cases c)⟩
 rintro e bF ⟨rfl,dQ⟩
 rw[hdone]
 refine⟨_,rfl,dQ,Br.of (λ_=>⟨x.page,λu hu=>cl (hu.blk iN) 0,x.f,λu hu=>cl (hu.blk iN) 1,x.r,λu hu=>cl (hu.blk iN) 2,alB λbH kq sI=>⟨dQ.trans kq,(one_c (l:=[5,2]) (by decide) sI).mono ?_⟩⟩) (λc=>by cases c)⟩
 rintro e bU ⟨f2,q2,rfl,hO2,mQ⟩
 have rL:=(dQ.trans kq).trans mQ
 have hp_x:x.page=(zYb [5,2]).page:=hx.tab.page
 refine⟨_,f2,q2,rfl,rL,?_⟩
 rw[hp_x]
 refine(zYh ((hx15.pu rL).rd v52) (hO2.rd (zXz v52))).mono ?_
 rintro e cM ⟨rfl,hp19⟩
 rw[decide_eq_true rfl]
 have sL:=rL.trans hp19
 refine⟨_,rfl,sL,Br.of (λ_=>⟨x.page,λu hu=>cl (hu.blk iN) 0,x.f,λu hu=>cl (hu.blk iN) 1,x.r,λu hu=>cl (hu.blk iN) 2,?_⟩) (λc=>by cases c)⟩
 have K8:=K7.on sL
 have e8:d6.σ.t=zYb [5,2]:=by rw[s6,k6_t]
 refine(zV8 K8.at_ K8.inv.t.ok).mono ?_
 rintro e bT ⟨y,rfl,hy,iM⟩
 rw[e8]at hy
 have hp_y:y.page=(zYb [5,2]).page:=hy.tab.page
 refine⟨_,y.f,y.r,rfl,sL.trans iM,?_⟩
 rw[hp_x,hp_y]
 refine(zYh (hy.rd v52) ((hx15.pu (sL.trans iM)).rd v52)).mono ?_
 rintro e bX ⟨rfl,rD⟩
 rw[decide_eq_true rfl]
 exact⟨_,rfl,rfl,(K8.on (iM.trans rD)).pu⟩
end Go.Proofs.YtaeecpjhfmcliaaGreatDoor
/- The log: a store and the reference side by side; an act of a script. No condition but those stated. -/
namespace Go.Proofs.YtaeecpjhfmcliaaGreatDoor
open Go.Sh Go.RowKit Tryz
variable {w0 w w' : World} {X : Nat -> Prop} {S Sr n m : Nat} {p : Int} {f : List Fld} {F : Fls} {d d' : Dat} {σ σ' : Sto} {L L' : SL} {R R' : RL} {x : zZf} {s : ScV}
structure Duo(w0 w:World)(S Sr:Nat)(p:Int)(f:List Fld)(F:Fls)(n:Nat)(d:Dat)(σ:Sto)(L:SL)(R:RL):Prop where
 S:L.S=S
 Sr:R.S=Sr
 st:zQF R.own w L d 0
 rf:zQH L.own w R σ
 dj:∀b,L.own b->¬R.own b
 inv:Inv p f d
 sz:Sz F n d
 pu:Pu w0 w
 ol:∀b,L.own b->w0.heap.size<=b
 or_:∀b,R.own b->w0.heap.size<=b
theorem Duo.on(h:Duo w0 w S Sr p f F n d σ L R)(hp:Pu w w'):Duo w0 w' S Sr p f F n d σ L R:=⟨h.S,h.Sr,h.st.pu hp,h.rf.pu hp,h.dj,h.inv,h.sz,h.pu.trans hp,h.ol,h.or_⟩
theorem Duo.ptr(h:Duo w0 w S Sr p f F n d σ L R):Value.pointer (some ⟨S,0,none⟩)=L.ptr:=by rw[←h.S]
theorem Duo.ptrR(h:Duo w0 w S Sr p f F n d σ L R):Value.pointer (some ⟨Sr,0,none⟩)=R.ptr:=by rw[←h.Sr]
theorem zQH.side(h:zQH L.own w R σ)(hl:zXY w w' L L')(hd:∀b,L.own b->¬R.own b)(hL:∀b,L'.own b->b<w'.heap.size):zQH L'.own w' R σ where
 st:=hl.fr.blk h.st λe=>hd _ e (.inl rfl)
 cm:=h.cm.fr hl.fr λb hb e=>hd b e (.inr (.inl hb))
 op:=h.op.fr hl.fr λb hb e=>hd b e (.inr (.inr hb))
 cln:=h.cln
 oln:=h.oln
 dj:=h.dj
 xl:=hL
 kp:=λw2 h2=>h.kp w2 ((hl.fr.mono λb hb _=>.inr hb).trans h2 λb hb hlt=>hb.imp id λhb=>(hl.own b hb).resolve_right (by omega))
theorem zQF.side(h:zQF R.own w L d 0)(hl:zXt w w' R R')(hd:∀b,L.own b->¬R.own b)(hR:∀b,R'.own b->b<w'.heap.size):zQF R'.own w' L d 0:=
 have hn:∀b,L.own b->¬R.own b:=hd
 {
  st:=hl.fr.blk h.st (hn _ (.inl rfl))
  lv:=h.lv.fr hl.fr λb hb=>hn b (.inr (.inl hb))
  dn:=h.dn.fr hl.fr λb hb=>hn b (.inr (.inr (.inl hb)))
  wr:=h.wr.fr hl.fr λb hb=>hn b (.inr (.inr (.inr (.inl hb))))
  pt:=h.pt.fr hl.fr λb hb=>hn b (.inr (.inr (.inr (.inr (.inl hb)))))
  now:=h.now.fr hl.fr λb hb=>hn b (.inr (.inr (.inr (.inr (.inr ⟨_,List.mem_cons_self,hb⟩)))))
  ll:=h.ll
  dl:=h.dl
  wl:=h.wl
  lvs:=λi x t h1 h2=>(h.lvs i x t h1 h2).fr hl.fr λb hb=>hn b (.inr (.inr (.inr (.inr (.inr ⟨_,List.mem_cons_of_mem _ (List.mem_of_getElem? h1),hb⟩)))))
  ld:=h.ld
  dj:=h.dj
  djl:=h.djl
  xl:=hR
  kp:=λw2 h2=>h.kp w2 ((hl.fr.mono λb hb _=>.inr hb).trans h2 λb hb hlt=>hb.imp id λhb=>(hl.own b hb).resolve_right (by omega)) }
theorem Duo.act1 (h:Duo w0 w S Sr p f F n d σ L R) {i:Nat} {v:Value} {args:Array Value} (hc:Calls prog i args w (yXg R.own w L v d')) (hi:Inv p f d') (hz:Sz F m d'):Calls prog i args w λe w'=>e=.returned v/\Fr L.own w w'/\∃L',Duo w0 w' S Sr p f F m d' σ L' R:=by
 refine hc.mono ?_
 rintro e w2 ⟨rfl,L2,h2,hl⟩
 have vX:=h.pu.size
 refine⟨rfl,hl.fr,L2,hl.ptr.trans h.S,h.Sr,h2,h.rf.side hl h.dj λb hb=>h2.own_lt hb,λb hb hr=>?_,hi,hz,h.pu.andNew hl.fr h.ol,λb hb=>(hl.own b hb).elim (h.ol b) λhb=>by omega,h.or_⟩
 rcases hl.own b hb with hb|hb
 ·exact h.dj b hb hr
 ·have:=h.rf.own_lt hr;omega
theorem Duo.act2 (h:Duo w0 w S Sr p f F n d σ L R) {i:Nat} {v:Value} {args:Array Value} (hc:Calls prog i args w (zJ6 L.own w R v σ')):Calls prog i args w λe w'=>e=.returned v/\Fr R.own w w'/\∃R',Duo w0 w' S Sr p f F n d σ' L R':=by
 refine hc.mono ?_
 rintro e w2 ⟨rfl,R2,h2,hl⟩
 have vX:=h.pu.size
 refine⟨rfl,hl.fr,R2,h.S,hl.ptr.trans h.Sr,h.st.side hl h.dj λb hb=>h2.own_lt hb,h2,λb hb hr=>?_,h.inv,h.sz,h.pu.andNew hl.fr h.or_,h.ol,λb hb=>(hl.own b hb).elim (h.or_ b) λhb=>by omega⟩
 rcases hl.own b hr with hr|hr
 ·exact h.dj b hb hr
 ·have:=h.st.own_lt hb;omega
def zJJ(x:zZf)(a:Act)(d:Dat):Dat:=
 if a.op=0 then d.begin else if a.op=1 then d.end_ else if a.op=2 then d.back else if a.op=3 then d.app (zVb x a.b)else if a.op=4 then d.put a.a (zVb x a.b)else if a.op=5 then d.mark a.a (a.c != 0)else if a.op=6 then d.set a.a a.s (zW9 x a.b)else d.clean
theorem xJn(h:Duo w0 w S Sr p f F n d d.σ L R)(hx:xXA w0 x s)(hF:F.1.length<=400000000/\F.2.length<=400000000)(hn:n<=99)(a:Act) :
  Calls prog 17 #[.pointer (some ⟨S,0,none⟩),.pointer (some ⟨Sr,0,none⟩),scA x s,actA a] w λe w'=>e=.returned (.bool true)/\∃L' R',Duo w0 w' S Sr p f F (n+1) (zJJ x a d) (zJJ x a d).σ L' R':=by
 have hfit:=h.sz.fit h.inv hF (by omega)
 have hdn:d.σ.done.length<=1000000:=by have:=h.sz.dn;omega
 have sK:=h.inv.l8
 refine xXv _ _ _ _ _ _ _ _ _ _ _ _ _ _ w _ (alB λw1 ar aA=>alB λw2 aq aN=>⟨a.op,cl0 aN,?_⟩)
 have aE:=ar.trans aq
 have b6:=aq.blk aA
 have h2:=h.on aE
 have xd:∀{b:Nat},w.heap.size<=b->¬L.own b:=λhb ho=>by have:=h.st.own_lt ho;omega
 refine Br.of (λc=>?_) (λc0=>Br.of (λc=>?_) (λc1=>Br.of (λc=>?_) (λc2=>Br.of (λc=>?_) (λc3=>Br.of (λc=>?_) (λc4=>Br.of (λc=>?_) (λc5=>Br.of (λc=>?_) (λc6=>?_)))))))
 ·have c:a.op=0:=by simpa using c
  have eP:zJJ x a d=d.begin:=by unfold zJJ;rw[if_pos c]
  rw[eP,h2.ptr]
  refine(h2.act1 (yJy h2.st h2.inv.toInvW) (zY8 h2.inv) h2.sz.begin).mono ?_
  rintro e w3 ⟨rfl,_,L3,h3⟩
  refine⟨_,rfl,?_⟩
  rw[h3.ptrR]
  refine(h3.act2 (xZ2 h3.rf h.inv.t.ok)).mono ?_
  rintro e w4 ⟨rfl,_,R4,h4⟩
  exact⟨_,rfl,by simp,L3,R4,h4⟩
 ·have c:a.op=1:=by simpa using c
  have c0:¬a.op=0:=by simpa using c0
  have eP:zJJ x a d=d.end_:=by unfold zJJ;rw[if_neg c0,if_pos c]
  rw[eP,h2.ptr]
  refine(h2.act1 (end_c h2.st h2.inv hfit) (yYw h2.inv) h2.sz.end_).mono ?_
  rintro e w3 ⟨rfl,_,L3,h3⟩
  refine⟨_,rfl,?_⟩
  rw[h3.ptrR]
  refine(h3.act2 (rend_c h3.rf h.inv.t.ok h.inv.ne hdn (by omega))).mono ?_
  rintro e w4 ⟨rfl,_,R4,h4⟩
  refine⟨_,rfl,by simp,L3,R4,?_⟩
  rw[Dat.end_σ];exact h4
 ·have c:a.op=2:=by simpa using c
  have c0:¬a.op=0:=by simpa using c0
  have c1:¬a.op=1:=by simpa using c1
  have eP:zJJ x a d=d.back:=by unfold zJJ;rw[if_neg c0,if_neg c1,if_pos c]
  rw[eP,h2.ptr]
  refine(h2.act1 (xKR h2.st h2.inv.l8) (yKw h2.inv) h2.sz.back).mono ?_
  rintro e w3 ⟨rfl,_,L3,h3⟩
  refine⟨_,rfl,?_⟩
  rw[h3.ptrR]
  refine(h3.act2 (xYP h3.rf (by omega))).mono ?_
  rintro e w4 ⟨rfl,_,R4,h4⟩
  exact⟨_,rfl,by simp,L3,R4,h4⟩
 ·have c:a.op=3:=by simpa using c
  have eP:zJJ x a d=d.app (zVb x a.b):=by unfold zJJ;rw[c];rfl
  rw[eP]
  refine⟨_,cl b6 0,s.f,cl b6 1,s.r,cl b6 2,s.rs,cl b6 3,s.vs,cl b6 4,s.ac,cl b6 5,a.b,cl aN 2,(yXc hx h2.pu a.b).mono ?_⟩
  rintro e w3 ⟨q,rfl,hq,au⟩
  refine⟨_,q,rfl,?_⟩
  have h3:=h2.on au
  have keep:∀{wz:World},Pu w0 wz->∀{B:Nat->Prop},(∀b,B b->w0.heap.size<=b)->∀w2,Fr B wz w2->zX3 w2 q (zVb x a.b).v:=λhz B hB w2 h2=>hq.pu (hz.andNew h2 hB)
  rw[h3.ptr]
  refine(h3.act1 (app_c h3.st h3.inv hfit (keep h3.pu h3.ol)) (xYq h3.inv _) (h3.sz.app _)).mono ?_
  rintro e w4 ⟨rfl,fe,L4,h4⟩
  have qt:=fe.blk (au.blk b6) (xd (Nat.le_refl _))
  have xe:=fe.blk (au.blk aN) (xd ar.size)
  refine⟨_,_,rfl,_,cl qt 0,s.f,cl qt 1,s.r,cl qt 2,s.rs,cl qt 3,s.vs,cl qt 4,s.ac,cl qt 5,a.b,cl xe 2,(yXc hx h4.pu a.b).mono ?_⟩
  rintro e w5 ⟨q',rfl,hq',aT⟩
  have h5:=h4.on aT
  refine⟨_,q',rfl,?_⟩
  rw[h5.ptrR]
  refine(h5.act2 (rapp_c h5.rf h.inv hdn (hq'.pu h5.pu))).mono ?_
  rintro e w6 ⟨rfl,_,R6,h6⟩
  refine⟨_,_,rfl,Br.of (λ_=>⟨by simp,L4,R6,?_⟩) (λc=>by simp at c)⟩
  rw[Dat.app_σ];exact h6
 ·have c:a.op=4:=by simpa using c
  have eP:zJJ x a d=d.put a.a (zVb x a.b):=by unfold zJJ;rw[c];rfl
  rw[eP]
  refine zQc λw9 cE _=>?_
  have xf:=cE.blk b6
  have rT:=cE.blk aN
  have h9:=h2.on cE
  refine⟨λu=>u.heap[w.heap.size]?=some (.cells (scC x s).toArray 41)/\u.heap[w1.heap.size]?=some (.cells a.vals.toArray 48),⟨xf,rT⟩,a.a,λu hu=>cl hu.2 1,x.t.page,λu hu=>cl hu.1 0,s.f,λu hu=>cl hu.1 1,s.r,λu hu=>cl hu.1 2,s.rs,λu hu=>cl hu.1 3,s.vs,λu hu=>cl hu.1 4,s.ac,λu hu=>cl hu.1 5,a.b,λu hu=>cl hu.2 2,a.a,λu hu=>cl hu.2 1,x.t.page,λu hu=>cl hu.1 0,s.f,λu hu=>cl hu.1 1,s.r,λu hu=>cl hu.1 2,s.rs,λu hu=>cl hu.1 3,s.vs,λu hu=>cl hu.1 4,s.ac,λu hu=>cl hu.1 5,a.b,λu hu=>cl hu.2 2,(yXc hx h9.pu a.b).mono ?_⟩
  rintro e w3 ⟨q,rfl,hq,au⟩
  have h3:=h9.on au
  refine⟨_,q,rfl,⟨au.blk xf,au.blk rT⟩,?_⟩
  rw[h3.ptr]
  refine(h3.act1 (put_c h3.st h3.inv hfit a.a (λw2 h2=>hq.pu (h3.pu.andNew h2 h3.ol))) (xY9 h3.inv _ _) (h3.sz.put _ _)).mono ?_
  rintro e w4 ⟨rfl,fe,L4,h4⟩
  have qt:=fe.blk (au.blk xf) (xd (Nat.le_refl _))
  have xe:=fe.blk (au.blk rT) (xd ar.size)
  refine⟨_,rfl,⟨qt,xe⟩,(yXc hx h4.pu a.b).mono ?_⟩
  rintro e w5 ⟨q',rfl,hq',aT⟩
  have h5:=h4.on aT
  refine⟨_,q',rfl,⟨aT.blk qt,aT.blk xe⟩,?_⟩
  rw[h5.ptrR]
  refine(h5.act2 (xVW h5.rf h.inv hdn a.a (hq'.pu h5.pu))).mono ?_
  rintro e w6 ⟨rfl,_,R6,h6⟩
  refine⟨_,rfl,by simp,L4,R6,?_⟩
  rw[Dat.put_σ];exact h6
 ·have c:a.op=5:=by simpa using c
  have eP:zJJ x a d=d.mark a.a (a.c != 0):=by unfold zJJ;rw[c];rfl
  rw[eP]
  refine zQc λw9 cE _=>?_
  have rT:=cE.blk aN
  have h9:=h2.on cE
  refine⟨λu=>u.heap[w1.heap.size]?=some (.cells a.vals.toArray 48),rT,a.a,λu hu=>cl hu 1,a.c,λu hu=>cl hu 3,a.a,λu hu=>cl hu 1,a.c,λu hu=>cl hu 3,?_⟩
  rw[h9.ptr]
  refine(h9.act1 (mark_c h9.st h9.inv hfit a.a (a.c != 0)) (xJi h9.inv _ _) (h9.sz.mark _ _)).mono ?_
  rintro e w4 ⟨rfl,fe,L4,h4⟩
  refine⟨_,rfl,fe.blk rT (xd ar.size),?_⟩
  rw[h4.ptrR]
  refine(h4.act2 (xVY h4.rf h.inv hdn a.a (a.c != 0))).mono ?_
  rintro e w6 ⟨rfl,_,R6,h6⟩
  refine⟨_,rfl,by simp,L4,R6,?_⟩
  rw[Dat.mark_σ];exact h6
 ·have c:a.op=6:=by simpa using c
  have eP:zJJ x a d=d.set a.a a.s (zW9 x a.b):=by unfold zJJ;rw[c];rfl
  rw[eP]
  refine zQc λw9 cE _=>?_
  have xf:=cE.blk b6
  have rT:=cE.blk aN
  have h9:=h2.on cE
  refine⟨λu=>u.heap[w.heap.size]?=some (.cells (scC x s).toArray 41)/\u.heap[w1.heap.size]?=some (.cells a.vals.toArray 48),⟨xf,rT⟩,a.a,λu hu=>cl hu.2 1,a.s,λu hu=>cl hu.2 4,x.t.page,λu hu=>cl hu.1 0,s.f,λu hu=>cl hu.1 1,s.r,λu hu=>cl hu.1 2,s.rs,λu hu=>cl hu.1 3,s.vs,λu hu=>cl hu.1 4,s.ac,λu hu=>cl hu.1 5,a.b,λu hu=>cl hu.2 2,a.a,λu hu=>cl hu.2 1,a.s,λu hu=>cl hu.2 4,x.t.page,λu hu=>cl hu.1 0,s.f,λu hu=>cl hu.1 1,s.r,λu hu=>cl hu.1 2,s.rs,λu hu=>cl hu.1 3,s.vs,λu hu=>cl hu.1 4,s.ac,λu hu=>cl hu.1 5,a.b,λu hu=>cl hu.2 2,(yYB hx h9.pu a.b).mono ?_⟩
  rintro e w3 ⟨rfl,au⟩
  have h3:=h9.on au
  refine⟨_,_,_,rfl,⟨au.blk xf,au.blk rT⟩,?_⟩
  rw[h3.ptr]
  refine(h3.act1 (xYj h3.st h3.inv hfit a.a a.s (zW9 x a.b)) (yZT h3.inv _ _ _) (h3.sz.set _ _ _)).mono ?_
  rintro e w4 ⟨rfl,fe,L4,h4⟩
  have qt:=fe.blk (au.blk xf) (xd (Nat.le_refl _))
  have xe:=fe.blk (au.blk rT) (xd ar.size)
  refine⟨_,rfl,⟨qt,xe⟩,(yYB hx h4.pu a.b).mono ?_⟩
  rintro e w5 ⟨rfl,aT⟩
  have h5:=h4.on aT
  refine⟨_,_,_,rfl,⟨aT.blk qt,aT.blk xe⟩,?_⟩
  rw[h5.ptrR]
  refine(h5.act2 (rset_c h5.rf h.inv hdn a.a a.s (zW9 x a.b))).mono ?_
  rintro e w6 ⟨rfl,_,R6,h6⟩
  refine⟨_,rfl,by simp,L4,R6,?_⟩
  rw[Dat.set_σ];exact h6
 ·have c0:¬a.op=0:=by simpa using c0
  have c1:¬a.op=1:=by simpa using c1
  have c2:¬a.op=2:=by simpa using c2
  have c3:¬a.op=3:=by simpa using c3
  have c4:¬a.op=4:=by simpa using c4
  have c5:¬a.op=5:=by simpa using c5
  have c6:¬a.op=6:=by simpa using c6
  have eP:zJJ x a d=d.clean:=by unfold zJJ;rw[if_neg c0,if_neg c1,if_neg c2,if_neg c3,if_neg c4,if_neg c5,if_neg c6]
  rw[eP,h2.ptr]
  refine(h2.act1 (xY7 h2.st h2.inv hfit) (yVS h2.inv) (h2.sz.clean h2.inv)).mono ?_
  rintro e w3 ⟨rfl,_,L3,h3⟩
  refine⟨_,rfl,?_⟩
  rw[h3.ptrR]
  refine(xJa h3.rf).mono ?_
  rintro e w4 ⟨rfl,aK⟩
  refine⟨_,rfl,by simp,L3,R,?_⟩
  rw[Dat.clean_σ];exact h3.on aK
end Go.Proofs.YtaeecpjhfmcliaaGreatDoor
/- The log: a script is begun, and played. No condition but those stated. -/
namespace Go.Proofs.YtaeecpjhfmcliaaGreatDoor
open Go.Sh Go.RowKit Tryz
variable {w0 w w' : World} {X : Nat -> Prop} {S Sr n m : Nat} {p : Int} {f : List Fld} {F : Fls} {d d' : Dat} {σ σ' : Sto} {L L' : SL} {R R' : RL} {x : zZf} {s : ScV} {mu : Int}
theorem zQF.reX{Y:Nat->Prop}(h:zQF X w L d mu)(hp:Pu w w')(hY:∀b,Y b->b<w'.heap.size)(hk:∀b,Y b->b<w.heap.size->X b):zQF Y w' L d mu:=
 let h1:=h.pu hp
 {
  st:=h1.st,lv:=h1.lv,dn:=h1.dn,wr:=h1.wr,pt:=h1.pt,now:=h1.now,ll:=h1.ll,dl:=h1.dl,wl:=h1.wl,lvs:=h1.lvs,ld:=h1.ld,dj:=h1.dj,djl:=h1.djl,xl:=hY
  kp:=λw2 h2=>h.kp w2 ((Fr.pu hp:Fr (λb=>L.own b∨X b) w w').trans h2 λb hb hlt=>hb.imp id λhb=>hk b hb hlt) }
theorem Duo.alone(h:Duo w0 w S Sr p f F n d σ L R):KnS (λ_=>False) w0 w S p f F n d L:=⟨h.S,h.st.reX (Pu.refl _) (λb hb=>hb.elim) (λb hb=>hb.elim),h.inv,h.sz,h.pu,h.ol⟩
theorem yZ7{t:Tbl}(hv:zQh t=0):(zQk t,([]:List UInt8)).1.length<=400000000/\(zQk t,([]:List UInt8)).2.length<=400000000:=⟨by have:=zZX (zJf.of hv);show(zQk t).length<=_;omega,by show 0<=_;omega⟩
def BegR(w:World)(x:zZf):Rt:=λe w'=>Pu w w'/\((zQh x.t ≠ 0/\e=.returned (.tuple #[.pointer none,.pointer none,.bool true]))∨zQh x.t=0/\∃S Sr L R,e=.returned (.tuple #[.pointer (some ⟨S,0,none⟩),.pointer (some ⟨Sr,0,none⟩),.bool true])/\
 Duo w w' S Sr x.t.page x.t.fields (zQk x.t,[]) 0 (Dat.new x.t (zQk x.t,[])) (Dat.new x.t (zQk x.t,[])).σ L R)
theorem xY4 {t:Tbl} {f r:SV} {w1 w2:World} (hv:zQh t=0) (h1:zQF (λ_=>False) w1 L (Dat.new t (zQk t,[])) 0) (ho:∀b,L.own b->w.heap.size<=b) (hp:Pu w w1) (aq:Pu w1 w2) (h2:zQH L.own w2 R (Sto.new t)) (hR:∀b,R.own b->w1.heap.size<=b) :
  Duo w w2 L.S R.S t.page t.fields (zQk t,[]) 0 (Dat.new t (zQk t,[])) (Dat.new t (zQk t,[])).σ L R:=
 ⟨rfl,rfl,h1.reX aq (λb hb=>h2.own_lt hb) (λb hb hlt=>by have:=hR b hb;omega),h2,λb hb hr=>by have:=h1.own_lt hb;have:=hR b hr;omega,yZt hv (yXv hv),Sz.new _ _,hp.trans aq,ho,λb hb=>by have:=hR b hb;have:=hp.size;omega⟩
theorem xYz(h:xXA w x s)(hl:Lim.ok x.t.fields):Calls prog 16 #[scA x s] w (BegR w x):=by
 refine xQ1 _ _ _ _ _ _ w _ (alB λw1 ar aA=>⟨_,cl aA 0,s.f,cl aA 1,s.r,cl aA 2,(new_c (X:=λ_=>False) (h.t.pu ar) hl λb hb=>hb.elim).mono ?_⟩)
 rintro e w2 ⟨aq,⟨hv,rfl⟩|⟨hv,q,rfl,L,rfl,h2,ho⟩⟩
 ·have b2:=aq.blk aA
  refine⟨_,_,rfl,_,cl b2 0,s.f,cl b2 1,s.r,cl b2 2,(xJS (X:=λ_=>False) (h.t.pu (ar.trans aq)) λb hb=>hb.elim).mono ?_⟩
  rintro e w3 ⟨au,⟨_,rfl⟩|⟨hv',_⟩⟩
  ·have hne:(true == (zQh x.t != 0))=true:=by simp[hv]
   exact⟨_,_,rfl,Br.of (λc=>by simp at c) λ_=>⟨true,w3,zJc vu24 _ _ none w3,Br.of (λc=>by rw[hne]at c;cases c) λ_=>⟨(ar.trans aq).trans au,.inl ⟨hv,rfl⟩⟩⟩⟩
  ·exact absurd hv' hv
 ·have b2:=aq.blk aA
  refine⟨_,_,rfl,_,cl b2 0,s.f,cl b2 1,s.r,cl b2 2,(xJS (X:=L.own) (h.t.pu (ar.trans aq)) λb hb=>h2.own_lt hb).mono ?_⟩
  rintro e w3 ⟨au,⟨hv',_⟩|⟨_,q,rfl,R,rfl,h3,hR⟩⟩
  ·exact absurd hv hv'
  ·refine⟨_,_,rfl,Br.of (λc=>by cases c) λ_=>⟨false,w3,zJc vu24 _ _ (some _) w3,Br.of (λc=>by cases c) λ_=>⟨(ar.trans aq).trans au,.inr ⟨hv,L.S,R.S,L,R,rfl,?_⟩⟩⟩⟩
   exact xY4 (f:=s.f) (r:=s.r) hv h2 (λb hb=>by have:=ho b hb;have:=ar.size;omega) (ar.trans aq) au h3 hR
end Go.Proofs.YtaeecpjhfmcliaaGreatDoor
/- The log: what a fall leaves. No condition but those stated. -/
namespace Go.Proofs.YtaeecpjhfmcliaaGreatDoor
open Go.Sh Go.RowKit Tryz
variable {w0 w w' : World} {X : Nat -> Prop} {S n m : Nat} {p : Int} {f : List Fld} {F : Fls} {d d' : Dat} {L L' : SL}
theorem zJD.at_ {q:SV} {l:List Int} (hq:zJD w0 w q l) {k:Nat} {v:Int} (hv:l[k]?=some v):∃a,q.a=some a/\w.cell? (a.add (k * 1))=some (.int .i64 v):=by
 have h1:=hq.1
 rw[show l.map yJv=l.flatMap (λv=>[yJv v])by clear hv h1 hq;induction l with|nil=>rfl|cons a l ih=>rw[List.map_cons,List.flatMap_cons,ih];rfl]at h1
 obtain⟨a,ha,_,c0⟩:=h1.elem (cells:=λv=>[yJv v]) (l:=l) (λ_=>rfl) hv (o:=0) rfl
 exact⟨a,ha,by rw[yVM]at c0;exact c0⟩
end Go.Proofs.YtaeecpjhfmcliaaGreatDoor
/- The law of what is opened, walked. No condition. -/
namespace Go.Proofs.YtaeecpjhfmcliaaGreatDoor
open Go.Sh Go.RowKit Tryz
variable {w w' : World}
end Go.Proofs.YtaeecpjhfmcliaaGreatDoor
/- The law of one fall, walked. No condition. -/
namespace Go.Proofs.YtaeecpjhfmcliaaGreatDoor
open Go.Sh Go.RowKit Tryz
variable {w0 w w' : World} {S n m : Nat} {p : Int} {f : List Fld} {F : Fls} {d d' : Dat} {L L' : SL} {x : zZf} {s : ScV}
def xXR(w:World):Rt:=λe w'=>e=.returned (.bool true)/\Pu w w'
theorem xXc(hp:Pu w0 w):Calls prog 10 #[] w λe w1=>∃b:Bool,e=.returned (.bool b)/\zQb prog [] w1 λw2=>xXR w0 (.returned (.bool b)) w2:=by
 refine(xYm w).mono ?_
 rintro e w1 ⟨rfl,ar⟩
 exact⟨_,rfl,rfl,hp.trans ar⟩
theorem KnS.small (h:KnS (λ_=>False) w0 w S x.t.page x.t.fields (zQk x.t,[]) n d L) (hv:zQh x.t=0) (hn:n<=100):Small d:=h.sz.small h.inv (yZ7 hv) hn
theorem KnS.pts (h:KnS (λ_=>False) w0 w S p f F n d L) (hn:n<=100):d.pts.length<=1000000:=by
 have:=h.inv.hist.len
 have:=h.sz.dn
 omega
end Go.Proofs.YtaeecpjhfmcliaaGreatDoor
/- The law of what is played, walked. No condition. -/
namespace Go.Proofs.YtaeecpjhfmcliaaGreatDoor
open Go.Sh Go.RowKit Tryz
variable {w0 w w' : World} {S Sr n m : Nat} {p : Int} {f : List Fld} {F : Fls} {d d' : Dat} {L L' : SL} {R R' : RL} {x : zZf} {s : ScV} {q : SV}
theorem zZJ.rdV{t:Tbl}{a b:SV}(h:zZJ w0 w t a b)(hv:zQh t=0):zXi w t a b:=h.rd (zXz hv)
theorem Duo.dn(h:Duo w0 w S Sr p f F n d d.σ L R)(hn:n<=100):d.σ.done.length<=1000000:=by have:=h.sz.dn;omega
theorem xQC(h:Duo w0 w S Sr p f F n d d.σ L R)(hn:n<=100):F4_5 (xXR w0) (some ⟨S,0,none⟩) (some ⟨Sr,0,none⟩) [] w:=by
 have hpl:=h.inv.hist.len
 have hdn:=h.dn hn
 unfold F4_5
 rw[h.ptr]
 refine(xZ4 h.st (by omega)).mono ?_
 rintro e w1 ⟨q,rfl,hq,ar⟩
 have h1:=h.on ar
 have hql:=hq.len
 refine⟨q,rfl,?_⟩
 rw[h1.ptrR]
 refine(zWV h1.rf hdn).mono ?_
 rintro e w2 ⟨rfl,aq⟩
 refine⟨_,rfl,Br.of (λc=>absurd (zQw c) (by rw[hql];push_cast;omega)) λ_=>?_⟩
 have aE:=ar.trans aq
 refine zQx d.pts.length (λk u w'=>u=(k:Int)/\Pu w w'/\Pu w1 w') ⟨rfl,aE,aq⟩ ?_
 rintro k J u wa hk ⟨hu,hpa,xg⟩ hJ
 obtain rfl:u=(k:Int):=hu
 refine Br.of (λc=>zQc λwb hpb _=>?_) (λc=>xXc (h.pu.trans hpa))
 have hkn:k<d.pts.length:=by have:=zQj c;omega
 obtain⟨v,hv⟩:=zQK hkn
 have hpab:=hpa.trans hpb
 have hqb:=hq.pu (xg.trans hpb)
 obtain⟨a,ha,c0⟩:=hqb.at_ hv
 have hvb:=h.inv.hist.le v (List.mem_of_getElem? hv)
 refine⟨λu=>Pu wb u,Pu.refl _,a,ha,by omega,by omega,v,λu hu=>by rw[zXn];exact hu.cell c0,Br.of (λc1=>absurd (zQj c1) (by omega)) λ_=>⟨a,ha,by omega,by omega,v,λu hu=>by rw[zXn];exact hu.cell c0,?_⟩⟩
 have hb:=h.on hpab
 rw[h.ptr]
 refine(xJw hb.st).mono ?_
 rintro e wc ⟨rfl,hpc⟩
 refine⟨_,rfl,hpc,Br.of (λc1=>absurd (zQj c1) (by omega)) λ_=>Br.of (λc2=>?_) λc2=>?_⟩
 ·have fh:0<k:=by have:=zQj c2;omega
  obtain⟨v',hv'⟩:=zQK (l:=d.pts) (k:=k - 1) (by omega)
  obtain⟨a',ha',c0'⟩:=hqb.at_ hv'
  rw[ha]at ha';cases ha'
  have hlt:v'<v:=by
   have:=List.pairwise_iff_getElem.1 h.inv.hist.asc (k - 1) k (by omega) hkn (by omega)
   rw[(List.getElem?_eq_some_iff.1 hv').2,(List.getElem?_eq_some_iff.1 hv).2]at this
   exact this
  have ew:IntKind.i64.wrap ((k:Int) - 1)=((k - 1:Nat):Int):=by rw[zQa (by omega) (by omega)];omega
  refine⟨a,ha,by omega,by omega,v,λu hu=>by rw[zXn];exact hu.cell c0,a,ha,?_⟩
  rw[ew,zXn]
  refine⟨by omega,by omega,v',λu hu=>hu.cell c0',Br.of (λc3=>absurd (zQj c3) (by omega)) λ_=>?_⟩
  rw[zQa (n:=(k:Int)+1) (by omega) (by omega)]
  exact hJ _ _ hkn ⟨by omega,hpab.trans hpc,(xg.trans hpb).trans hpc⟩
 ·rw[zQa (n:=(k:Int)+1) (by omega) (by omega)]
  exact hJ _ _ hkn ⟨by omega,hpab.trans hpc,(xg.trans hpb).trans hpc⟩
theorem yWp(h:Duo w0 w S Sr p f F n d d.σ L R)(hn:n<=100):F4_9 (xXR w0) (some ⟨S,0,none⟩) (some ⟨Sr,0,none⟩) [] w:=by
 have hpl:=h.inv.hist.len
 have hdn:=h.dn hn
 have hdv:∀t ∈ d.σ.done,zQh t=0:=λt ht=>(h.inv.done t ht).ok
 refine zQx (d.σ.done.length+2) (λk u w'=>u=(k:Int) - 1/\Pu w w') ⟨by omega,Pu.refl _⟩ ?_
 rintro k J u wa hk ⟨hu,hpa⟩ hJ
 have ha:=h.on hpa
 unfold F4_6
 rw[ha.ptrR]
 refine(zWV ha.rf hdn).mono ?_
 rintro e wb ⟨rfl,hpb⟩
 have hb:=ha.on hpb
 refine⟨_,rfl,?_⟩
 rw[zQa (n:=((d.σ.done.length:Nat):Int) - 1+1) (by omega) (by omega)]
 refine Br.of (λc=>?_) (λc=>?_)
 ·have c:=zQj c
  have hkn:k<d.σ.done.length+2:=by omega
  rw[hb.ptr]
  refine(zYw hb.st hdv u).mono ?_
  rintro e wc ⟨z,rfl,hz,hpc⟩
  refine⟨_,z.f,z.r,_,rfl,alB λwd hpd hbd=>zQg hbd zK8.symm rfl rfl λwe hbe hfe _=>?_⟩
  have hpce:Pu wc we:=hpd.andNew hfe λi hi=>by rw[show i=_ from hi];exact Nat.le_refl _
  have he:=hb.on (hpc.trans hpce)
  refine(yZC he.rf hdv u).mono ?_
  rintro e wf ⟨f2,r2,rfl,hO,hpf⟩
  refine⟨_,f2,r2,_,rfl,alB λwg hpg hbg=>zQg hbg zK8.symm rfl rfl λwh hbh hfh _=>?_⟩
  have hpfh:Pu wf wh:=hpg.andNew hfh λi hi=>by rw[show i=_ from hi];exact Nat.le_refl _
  have b8:=(hpf.trans hpfh).blk hbe
  refine⟨_,cl b8 0,z.f,cl b8 1,z.r,cl b8 2,_,cl hbh 0,f2,cl hbh 1,r2,cl hbh 2,?_⟩
  have ez:z.page=(zZ8 d.σ u).page:=hz.tab.page
  rw[ez]
  have hva:zXi wh (zZ8 d.σ u) z.f z.r:=by
   by_cases hin:0<=u/\u<d.σ.done.length
   ·refine(hz.pu ((hpce.trans hpf).trans hpfh)).rd ?_
    unfold zZ8
    rw[if_pos hin]
    obtain⟨t,ht⟩:=zQK (l:=d.σ.done) (k:=u.toNat) (by omega)
    rw[List.getD_eq_getElem?_getD,ht]
    exact hdv t (List.mem_of_getElem? ht)
   ·have e:zZ8 d.σ u=zYt:=by unfold zZ8;rw[if_neg hin]
    rw[e]at hz ⊢
    have vX:=hz.pu ((hpce.trans hpf).trans hpfh)
    have l1:z.f.len=0:=vX.f.len zZx (by decide)
    have l2:z.r.len=0:=vX.tab.rw_.len zQL (by decide) |>.trans vX.tab.len
    exact⟨⟨by decide,by decide⟩,⟨l1,by rw[l1];exact Nat.zero_le _,by rw[l1];exact Nat.zero_le _,λi y hy=>by simp[zYt]at hy⟩,⟨l2,by rw[l2];exact Nat.zero_le _,by rw[l2];exact Nat.zero_le _,λi y hy=>by simp[zYt]at hy⟩⟩
  have hvb:zXi wh (zZ8 d.σ u) f2 r2:=by
   refine(hO.pu hpfh).rd ?_
   by_cases hin:0<=u/\u<d.σ.done.length
   ·refine zXz ?_
    unfold zZ8
    rw[if_pos hin]
    obtain⟨t,ht⟩:=zQK (l:=d.σ.done) (k:=u.toNat) (by omega)
    rw[List.getD_eq_getElem?_getD,ht]
    exact hdv t (List.mem_of_getElem? ht)
   ·have e:zZ8 d.σ u=zYt:=by unfold zZ8;rw[if_neg hin]
    rw[e];exact yQP.zero
  refine(zYh hva hvb).mono ?_
  rintro e wi ⟨rfl,hpi⟩
  rw[decide_eq_true rfl]
  refine⟨_,rfl,Br.of (λc1=>by cases c1) λ_=>Br.of (λc1=>by simp at c1) λ_=>?_⟩
  rw[zQa (n:=u+1) (by omega) (by omega)]
  exact hJ _ _ hkn ⟨by omega,((((hpa.trans hpb).trans hpc).trans hpce).trans hpf).trans (hpfh.trans hpi)⟩
 ·have h2:=hb
  exact xQC hb hn
end Go.Proofs.YtaeecpjhfmcliaaGreatDoor
/- The law of what is played: each act, and all. No condition. -/
namespace Go.Proofs.YtaeecpjhfmcliaaGreatDoor
open Go.Sh Go.RowKit Tryz
variable {w0 w1 w w' : World} {S Sr n m : Nat} {p : Int} {f : List Fld} {F : Fls} {d d' : Dat} {L L' : SL} {R R' : RL} {x : zZf} {s : ScV} {q : SV}
theorem xQq (h:Duo w1 w S Sr p f F n d d.σ L R) (hx:xXA w1 x s) (hF:F.1.length<=400000000/\F.2.length<=400000000) (hn:n<x.acts.length) (h80:x.acts.length<=80) {b:Nat} (hb:w1.heap[b]?=some (.cells #[.int .i64 x.t.page,.slice s.f.a s.f.len s.f.cap,.slice s.r.a s.r.len s.r.cap,.slice s.rs.a s.rs.len s.rs.cap,.slice s.vs.a s.vs.len s.vs.cap,.slice s.ac.a s.ac.len s.ac.cap] 41)) {J:Int->World->Prop}
  (hJ:∀w' L' R' d',Duo w1 w' S Sr p f F (n+1) d' d'.σ L' R'->J ((n+1:Nat):Int) w'):xYG (xXR w0) J (some ⟨b,0,none⟩) (some ⟨S,0,none⟩) (some ⟨Sr,0,none⟩) (n:Int) [] w:=by
 have hal:=hx.ac.len
 refine zQc λwb hpb _=>?_
 have hDb:=h.on hpb
 have bb:=hDb.pu.blk hb
 obtain⟨a,ha⟩:=zQK hn
 obtain⟨ad,had,hadl,_,c0,c1,c2,c3,c4,c5⟩:=actAt (hx.ac.pu hDb.pu) ha
 refine⟨_,cl bb 0,s.f,cl bb 1,s.r,cl bb 2,s.rs,cl bb 3,s.vs,cl bb 4,s.ac,cl bb 5,s.ac,cl bb 5,ad,had,by omega,by omega,?_⟩
 rw[zXn]
 refine⟨_,c0,_,c1,_,c2,_,c3,_,c4,_,c5,(xJn hDb hx hF (by omega) a).mono ?_⟩
 rintro e wc ⟨rfl,L',R',hDc⟩
 obtain⟨d',hd'⟩:∃d',d'=zJJ x a d:=⟨_,rfl⟩
 rw[←hd']at hDc
 have hv:=hDc.inv.t.ok
 have hdn:=hDc.dn (by omega)
 refine⟨_,rfl,Br.of (λc=>by cases c) λ_=>?_⟩
 rw[hDc.ptr]
 refine(zV8 hDc.st hv).mono ?_
 rintro e w2 ⟨y,rfl,hy,aq⟩
 have hy:zWw wc w2 d'.σ.t y:=hy
 have h2:=hDc.on aq
 refine⟨y.page,y.f,y.r,rfl,?_⟩
 rw[h2.ptrR]
 refine(xZo h2.rf hv).mono ?_
 rintro e w3 ⟨f2,r2,rfl,hO,au⟩
 have h3:=h2.on au
 refine⟨_,f2,r2,rfl,?_⟩
 rw[hy.tab.page]
 refine(zYh ((hy.pu au).rd hv) (hO.rdV hv)).mono ?_
 rintro e w4 ⟨rfl,aK⟩
 have h4:=h3.on aK
 rw[decide_eq_true rfl]
 refine⟨_,rfl,Br.of (λc=>by cases c) λ_=>(xVX h4.st).mono ?_⟩
 rintro e w5 ⟨rfl,aT⟩
 have h5:=h4.on aT
 refine⟨_,rfl,(xZ9 h5.rf).mono ?_⟩
 rintro e w6 ⟨rfl,bE⟩
 have h6:=h5.on bE
 refine⟨_,rfl,Br.of (λc=>by simp at c) λ_=>(yXE h6.st hdn).mono ?_⟩
 rintro e w7 ⟨rfl,cy⟩
 have h7:=h6.on cy
 refine⟨_,rfl,(zWV h7.rf hdn).mono ?_⟩
 rintro e w8 ⟨rfl,bW⟩
 have h8:=h7.on bW
 refine⟨_,rfl,Br.of (λc=>by simp at c) λ_=>(yXm h8.st h8.inv.toInvW hdn).mono ?_⟩
 rintro e w9 ⟨q1,rfl,vT,cE⟩
 have h9:=h8.on cE
 refine⟨q1,rfl,(xY2 h9.rf h9.inv.toInvW hdn).mono ?_⟩
 rintro e aP ⟨q2,rfl,pR,dr⟩
 have mV:=h9.on dr
 refine⟨q2,rfl,(yWc (vT.pu dr) pR).mono ?_⟩
 rintro e aU ⟨rfl,eG⟩
 have pB:=mV.on eG
 refine⟨_,rfl,Br.of (λc=>by cases c) λ_=>?_⟩
 show J (IntKind.i64.wrap ((n:Int)+1)) aU
 rw[zQa (by omega) (by omega)]
 exact hJ _ _ _ _ pB
theorem yWY(w:World)(x:zZf)(s:ScV)(h:xXA w x s)(hl:Lim.ok x):Calls prog 4 #[scA x s] w λe w'=>e=.returned (.bool true)/\Pu w w':=by
 have hal:=h.ac.len
 refine xJu _ _ _ _ _ _ w (xXR w) (alB λw1 ar aA=>⟨_,cl aA 0,s.f,cl aA 1,s.r,cl aA 2,s.rs,cl aA 3,s.vs,cl aA 4,s.ac,cl aA 5,(over_c (h.pu ar)).mono ?_⟩)
 have z1:=ar.size
 rintro e w2 ⟨b,rfl,aq,hov⟩
 have aE:=ar.trans aq
 have b2:=aq.blk aA
 refine⟨b,rfl,Br.of (λ_=>xXc aE) λc=>⟨_,cl b2 0,s.f,cl b2 1,s.r,cl b2 2,s.rs,cl b2 3,s.vs,cl b2 4,s.ac,cl b2 5,(xYz (h.pu aE) hl.1.1).mono ?_⟩⟩
 have h80:=(hov c).1
 rintro e w3 ⟨au,⟨hv,rfl⟩|⟨hv,S,Sr,L,R,rfl,hD⟩⟩
 ·exact⟨_,_,_,rfl,Br.of (λc=>by cases c) λ_=>⟨true,w3,zJc vu24 _ _ none w3,Br.of (λ_=>Br.of (λ_=>xXc (aE.trans au)) λc=>by cases c) λc=>by cases c⟩⟩
 ·refine⟨_,_,_,rfl,Br.of (λc=>by cases c) λ_=>⟨false,w3,zJc vu24 _ _ (some _) w3,Br.of (λc=>by cases c) λ_=>?_⟩⟩
  refine zQx x.acts.length (λk u w'=>u=(k:Int)/\∃L R d,Duo w2 w' S Sr x.t.page x.t.fields (zQk x.t,[]) k d d.σ L R) ⟨rfl,L,R,_,hD⟩ ?_
  rintro k J u wa hk ⟨hu,La,Ra,da,hDa⟩ hJ
  obtain rfl:u=(k:Int):=hu
  have ba:=hDa.pu.blk b2
  refine⟨s.ac,cl ba 5,Br.of (λc=>?_) (λc=>?_)⟩
  ·have hkn:k<x.acts.length:=by have:=zQj c;omega
   exact xQq hDa (h.pu aE) (yZ7 hv) hkn h80 b2 λw' L' R' d' hD'=>hJ _ _ hkn ⟨rfl,L',R',d',hD'⟩
  ·have hkn:k=x.acts.length:=by have:=zQd c;omega
   have hD0:Duo w wa S Sr x.t.page x.t.fields (zQk x.t,[]) k da da.σ La Ra:=⟨hDa.S,hDa.Sr,hDa.st,hDa.rf,hDa.dj,hDa.inv,hDa.sz,aE.trans hDa.pu,λb hb=>by have:=hDa.ol b hb;have:=aE.size;omega,λb hb=>by have:=hDa.or_ b hb;have:=aE.size;omega⟩
   exact yWp hD0 (by omega)
end Go.Proofs.YtaeecpjhfmcliaaGreatDoor
