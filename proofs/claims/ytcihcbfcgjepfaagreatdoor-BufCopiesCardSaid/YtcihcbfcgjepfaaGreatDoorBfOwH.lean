import Derived.Test.YtcihcbfcgjepfaaGreatDoorBfOwG
/- Desks: the reference's Set, Mark, Revert, Fall. No condition but those stated. -/
set_option maxRecDepth 100000
set_option linter.unusedVariables false
set_option linter.unusedSimpArgs false
namespace Go.Proofs.YtcihcbfcgjepfaaGreatDoor
open Go.Sh Go.RowKit Tryz
variable {w w' : World} {d d' : zQs} {val : Nat -> List Val}
theorem zQ7.spot {val' val'':Nat->List Val} {d'':zQs} {w'':World} (h:zQ7 w w' d d' val') (h2:zQr w'' d'' val'') (hf:Fr (Own d') w' w'') (ho:d''.o=d'.o) (hS:d''.S=d'.S):zQ7 w w'' d d'' val'':=
 h.trans ⟨h2,hf,λb hb=>.inl (by rw[←ho];exact hb),hS⟩
theorem rSet_c (h:zQr w d val) (hI:Inv (zQa d val)) (hM:Md (zQa d val)) (u:Int) (field:ByteArray) (v:Val) :
  Calls prog 64 #[d.ptr,.int .i64 u,.string field,zZh v] w λe w'=>e=.returned (.int .i64 (setC u field v (zQa d val)))/\∃d' val',zQ7 w w' d d' val'/\zQa d' val'=setS u field v (zQa d val):=by
 refine yVO _ u field _ _ _ w _ (alB λw1 al ay=>Calls.mono (zYb u w1) ?_)
 rintro e w2 ⟨rfl,rfl⟩
 have z1:w.heap.size<w2.heap.size:=zQy ay
 have bad:∀{w3:World} (n:Int),Pu w2 w3->setC u field v (zQa d val)=n->n ≠ 0->Ending.returned (.int .i64 n)=.returned (.int .i64 (setC u field v (zQa d val)))/\∃d' val',zQ7 w w3 d d' val'/\zQa d' val'=setS u field v (zQa d val):=λ{w3} n hp hn h0=>
  ⟨by rw[hn],d,val,zQ7.pu h (al.trans hp),by rw[setS,hn,if_neg h0]⟩
 refine⟨_,rfl,Br.of (λc=>?_) (λc=>?_)⟩
 ·have hu:¬isU u=true:=by simpa using c
  exact bad 1 (Pu.refl _) (by rw[setC,if_pos hu]) (by decide)
 have hu:isU u=true:=by simpa using c
 obtain⟨n,rfl,hn⟩:=zQY hu
 have h2:=h.pu al
 have eA:((zQa d val).us n).at_=d.at_ n:=rfl
 refine⟨(u4 hn).1,(u4 hn).2,d.at_ n,h2.uAt hn,Br.of (λc1=>?_) (λc1=>?_)⟩
 ·have c1:d.at_ n=0:=zQA c1
  exact bad 9 (Pu.refl _) (by rw[setC,if_neg (by simp[hu]),zQI,eA,if_pos c1]) (by decide)
 have c1:d.at_ n ≠ 0:=zQo c1
 refine⟨d.fs,h2.flds,(zYh (h2.fld hI.vf) field).mono ?_⟩
 rintro e w7 ⟨rfl,bU⟩
 have eC:setC (n:Int) field v (zQa d val)=match zWl d.flds field with|none=>4|some i=>if (zZM (d.flds.getD i default) d.page v).2 ≠ 0 then(zZM (d.flds.getD i default) d.page v).2 else lockC n (zQa d val):=by
  rw[setC,if_neg (by simp[hu]),zQI,eA,if_neg c1];rfl
 refine⟨_,_,rfl,Br.of (λc2=>?_) (λc2=>?_)⟩
 ·have c2:zWl d.flds field=none:=by simpa using c2
  rw[c2]at eC
  exact bad 4 bU eC (by decide)
 have c2:(zWl d.flds field).isSome=true:=by simpa using c2
 obtain⟨i,hi⟩:=Option.isSome_iff_exists.1 c2
 have hil:=zWQ hi
 obtain⟨fd,hfd⟩:=zXe hil
 have eD:d.flds.getD i default=fd:=by rw[List.getD_eq_getElem?_getD,hfd];rfl
 have eK:yXb d.flds field=(i:Int):=by rw[yXb,hi];rfl
 rw[hi]at eC
 simp only[eD]at eC
 rw[eK]
 refine zQf λw9 bR _=>?_
 have kB:=bU.trans bR
 have h9:=h2.pu kB
 have kR:=kB.blk ay
 obtain⟨a,ea,_,_,_,_,f0,f1,f2,f3⟩:=zZ2 (h9.fld hI.vf) hfd
 have hfl:=(h9.fld hI.vf).len
 -- behind the zQO value
 have tail:∀{aD:World},Pu w9 aD->∀{r:Nat},w.heap.size<=r->aD.heap[r]?=some (.cells #[.int .i64 (zZM fd d.page v).1.kind,.int .i64 (zZM fd d.page v).1.n,.string (zZM fd d.page v).1.s] 28)->
   Br ((zZM fd d.page v).2 != 0) (Ending.returned (.int .i64 (zZM fd d.page v).2)=.returned (.int .i64 (setC (n:Int) field v (zQa d val)))/\∃d' val',zQ7 w aD d d' val'/\zQa d' val'=setS (n:Int) field v (zQa d val))
    (Calls prog 123 #[.pointer (some ⟨d.S,0,none⟩),.int .i64 (n:Int)] aD λe br=>∃jJ:Option Addr,∃cG:Int,e=.returned (.tuple #[.pointer jJ,.int .i64 cG])/\
     Br (cG != 0) (Ending.returned (.int .i64 cG)=.returned (.int .i64 (setC (n:Int) field v (zQa d val)))/\∃d' val',zQ7 w br d d' val'/\zQa d' val'=setS (n:Int) field v (zQa d val))
      (dwE br λbE=>zQi jJ λa20=>∃oP:SV,bE.cell? (a20.add 1)=some (.slice oP.a oP.len oP.cap)/\∃aW:Int,bE.cell? ((⟨r,0,none⟩:Addr).add 0)=some (.int .i64 aW)/\∃aX:Int,bE.cell? ((⟨r,0,none⟩:Addr).add 1)=some (.int .i64 aX)/\
       ∃aY:ByteArray,bE.cell? ((⟨r,0,none⟩:Addr).add 2)=some (.string aY)/\∃a21:Addr,oP.a=some a21/\0<=(i:Int)/\(i:Int)<((oP.len:Nat):Int)/\
       stA prog 28 (a21.add ((i:Int).toNat * 3)) #[.int .i64 aW,.int .i64 aX,.string aY] bE λcS=>Ending.returned (.int .i64 0)=.returned (.int .i64 (setC (n:Int) field v (zQa d val)))/\∃d' val',zQ7 w cS d d' val'/\zQa d' val'=setS (n:Int) field v (zQa d val))):=λ{aD} aT {r} hzr hr=>by
  have ri:=kB.trans aT
  have h15:=h2.pu ri
  refine Br.of (λc3=>?_) (λc3=>?_)
  ·have c3:=zQ4 c3
   exact bad _ ri (by rw[eC,if_pos c3]) c3
  have c3:=zQu c3
  rw[if_neg (by simp[c3])]at eC
  refine Calls.mono (yWv h15 hI hn c1 (hM n hn)) ?_
  rintro e br ⟨p,rfl,hP⟩
  refine⟨p,_,rfl,?_⟩
  rcases hP with⟨hc,rP⟩|⟨hc,a,d',val',s,x,rfl,hL,hok,hlen,hf⟩
  ·refine Br.of (λ_=>bad _ (ri.trans rP) eC hc) (λc4=>absurd (zQu c4) hc)
  refine Br.of (λc4=>absurd hc (zQ4 c4)) (λ_=>zQf λbE hp19 _=>?_)
  have nr:d.o r=none:=h.bd.out hzr
  have h19:=hL.sys.pu hp19
  have hr19:=hp19.blk (hL.fr.blk hr (λe=>e nr))
  obtain⟨b,hb,hj,hst⟩:=zWz.set hn hok h19 (j:=i) (by rw[hlen];exact hil) (zZM fd d.page v).1 (K:=λcS=>Ending.returned (.int .i64 0)=.returned (.int .i64 (setC (n:Int) field v (zQa d val)))/\∃d' val',zQ7 w cS d d' val'/\zQa d' val'=setS (n:Int) field v (zQa d val)) λcS val2 h22 hf22 ha22=>by
   refine⟨by rw[eC,hc],d',val2,(((zQ7.pu h (al.trans ri)).trans hL).putU hp19).spot h22 hf22 rfl rfl,?_⟩
   rw[ha22,hf]
   unfold setS
   rw[eC,if_pos hc]
   have e0:(zQa d val).flds=d.flds:=rfl
   have e1:(zQa d val).page=d.page:=rfl
   rw[e0,e1,hi]
   simp only[eD,zQI]
  refine⟨x.s,zWz.cell hn hok h19,_,cl hr19 0,_,cl hr19 1,_,cl hr19 2,b,hb,by omega,by omega,?_⟩
  rw[zQI]
  exact hst
 refine⟨λy=>Pu w9 y,Pu.refl _,d.fs,λy hy=>hy.cell h9.flds,a,ea,by omega,by omega,fd.name,λy hy=>hy.cell f0,fd.kind,λy hy=>hy.cell f1,fd.width,λy hy=>hy.cell f2,fd.null,λy hy=>hy.cell f3,d.page,λy hy=>hy.cell h9.page,v.kind,λy hy=>cl (hy.blk kR) 0,v.n,λy hy=>cl (hy.blk kR) 1,v.s,λy hy=>cl (hy.blk kR) 2,?_,?_⟩
 ·refine(xZ7 fd d.page v w9).mono ?_
  rintro e aE ⟨rfl,aQ⟩
  refine⟨_,_,_,_,rfl,alB λaI dq gH=>zQj gH zWp.symm rfl rfl λaD pz uS _=>?_⟩
  have z9:=kB.size
  have z13:=aQ.size
  exact tail ((aQ.trans dq).andNew uS λi hi=>by rw[show i=aE.heap.size from hi];exact z13) (by omega) pz
 ·refine alB λcP gK hb24=>⟨gK,(xZ7 fd d.page v cP).mono ?_⟩
  rintro e dQ ⟨rfl,kw⟩
  refine⟨_,_,_,_,rfl,zQj (kw.blk hb24) zWp.symm rfl rfl λbV hb26 hf26 _=>?_⟩
  have z9:=kB.size
  exact tail ((gK.trans kw).andNew hf26 λi hi=>by rw[show i=w9.heap.size from hi];exact Nat.le_refl _) (by omega) hb26
theorem xJN (h:zQr w d val) (hI:Inv (zQa d val)) (hM:Md (zQa d val)) (u:Int) (g:Bool) :
  Calls prog 65 #[d.ptr,.int .i64 u,.bool g] w λe w'=>e=.returned (.int .i64 (markC u (zQa d val)))/\∃d' val',zQ7 w w' d d' val'/\zQa d' val'=markS u g (zQa d val):=by
 refine yVr _ u g w _ (Calls.mono (zYb u w) ?_)
 rintro e w1 ⟨rfl,rfl⟩
 have bad:∀{w3:World} (n:Int),Pu w1 w3->markC u (zQa d val)=n->n ≠ 0->Ending.returned (.int .i64 n)=.returned (.int .i64 (markC u (zQa d val)))/\∃d' val',zQ7 w1 w3 d d' val'/\zQa d' val'=markS u g (zQa d val):=λ{w3} n hp hn h0=>
  ⟨by rw[hn],d,val,zQ7.pu h hp,by rw[markS,hn,if_neg h0]⟩
 refine⟨_,rfl,Br.of (λc=>?_) (λc=>?_)⟩
 ·have hu:¬isU u=true:=by simpa using c
  exact bad 1 (Pu.refl _) (by rw[markC,if_pos hu]) (by decide)
 have hu:isU u=true:=by simpa using c
 obtain⟨n,rfl,hn⟩:=zQY hu
 have eA:((zQa d val).us n).at_=d.at_ n:=rfl
 refine⟨(u4 hn).1,(u4 hn).2,d.at_ n,h.uAt hn,Br.of (λc1=>?_) (λc1=>?_)⟩
 ·have c1:d.at_ n=0:=zQA c1
  exact bad 9 (Pu.refl _) (by rw[markC,if_neg (by simp[hu]),zQI,eA,if_pos c1]) (by decide)
 have c1:d.at_ n ≠ 0:=zQo c1
 have eC:markC (n:Int) (zQa d val)=lockC n (zQa d val):=by rw[markC,if_neg (by simp[hu]),zQI,eA,if_neg c1]
 refine Calls.mono (yWv h hI hn c1 (hM n hn)) ?_
 rintro e w5 ⟨p,rfl,hP⟩
 refine⟨p,_,rfl,?_⟩
 rcases hP with⟨hc,aB⟩|⟨hc,a,d',val',s,x,rfl,hL,hok,hlen,hf⟩
 ·refine Br.of (λ_=>bad _ aB eC hc) (λc4=>absurd (zQu c4) hc)
 refine Br.of (λc4=>absurd hc (zQ4 c4)) (λ_=>?_)
 show st1 a _ _ _
 refine zWz.mark hn hok hL.sys g λw8 d8 h8 hf8 ho8 hS8 ha8=>?_
 refine⟨by rw[eC,hc],d8,val',hL.spot h8 hf8 ho8 hS8,?_⟩
 rw[ha8,hf]
 unfold markS
 rw[eC,if_pos hc,zQI]
theorem zVC (hst:w.heap[d.S]?=some (.cells (zZ5 d) 125)) {l:List (Int × Int)} (hl:zQ3 w zQM zQM d.L l) (hLS:d.L ≠ d.S) {u:Nat} (hu:u<4) (hN:d.rs.len<=1000) (hlr:∀k v,AL.get l k=some v->1<=k/\k<=d.rs.len/\1<=v) :
  Calls prog 127 #[d.ptr,.int .i64 (u:Int)] w λe w'=>e=.returned (.tuple #[])/\w'.heap[d.S]?=some (.cells (zZ5 { d with cs:=λv=>if v=u then⟨none,0,0⟩else d.cs v,asv:=λv=>if v=u then⟨none,0,0⟩else d.asv v }) 125)/\
   Fr (λb=>b=d.S∨b=d.L) w w'/\∃l',zQ3 w' zQM zQM d.L l'/\∀k,AL.get l' k=if AL.get l k=some ((u:Int)+1)then none else AL.get l k:=by
 refine yZO _ _ w _ (zQf λw1 al _=>?_)
 have hst1:=al.blk hst
 refine⟨(u4 hu).1,(u4 hu).2,?_⟩
 rw[zQn,zJa,zQc]
 refine zQt hst1 (by show 3+u * 4+2<20;omega) λw2 qX ag=>?_
 have dh:Fr (·=d.S) w1 w2:=by rw[qX];exact Fr.cell w1 _ _ _
 have ag:w2.heap[d.S]?=some (.cells (zZ5 { d with cs:=λv=>if v=u then⟨none,0,0⟩else d.cs v }) 125):=by
  rw[ag]
  exact congrArg (λc=>some (Obj.cells c 125)) (zYj hu ⟨none,0,0⟩)
 refine⟨(u4 hu).1,(u4 hu).2,?_⟩
 rw[zQc]
 refine zQt ag (by show 3+u * 4+3<20;omega) λw3 hw3 aH=>?_
 have bP:Fr (·=d.S) w2 w3:=by rw[hw3];exact Fr.cell w2 _ _ _
 have aH:w3.heap[d.S]?=some (.cells (zZ5 { d with cs:=λv=>if v=u then⟨none,0,0⟩else d.cs v,asv:=λv=>if v=u then⟨none,0,0⟩else d.asv v }) 125):=by
  rw[aH]
  exact congrArg (λc=>some (Obj.cells c 125)) (zY1 (d:={ d with cs:=λv=>if v=u then⟨none,0,0⟩else d.cs v }) hu ⟨none,0,0⟩)
 have dp:Fr (·=d.S) w1 w3:=dh.trans bP λi hi _=>hi
 have vv:zQ3 w3 zQM zQM d.L l:=(hl.pu al).fr dp hLS
 refine zQ1 d.rs.len (λk t w'=>t=(k:Int)+1/\∃lk:List (Int × Int),zQ3 w' zQM zQM d.L lk/\(∀x,AL.get lk x=if 1<=x/\x<=(k:Int)/\AL.get l x=some ((u:Int)+1)then none else AL.get l x)/\Fr (·=d.L) w3 w'/\w'.heap[d.S]?=some (.cells (zZ5 { d with cs:=λv=>if v=u then⟨none,0,0⟩else d.cs v,asv:=λv=>if v=u then⟨none,0,0⟩else d.asv v }) 125))
  ⟨rfl,l,vv,λx=>by rw[if_neg (by omega)],Fr.refl _ _,aH⟩ ?_
 rintro k J t w4 hkn ⟨ht,lk,rJ,vZ,bp,aZ⟩ hJ
 obtain rfl:t=(k:Int)+1:=ht
 have cellR:w4.cell? ((⟨d.S,0,none⟩:Addr).add 2)=some (.slice d.rs.a d.rs.len d.rs.cap):=by rw[zQc,zQq aZ];rfl
 have cellL:w4.cell? ((⟨d.S,0,none⟩:Addr).add 19)=some (.map (some d.L)):=by rw[zQc,zQq aZ];rfl
 refine⟨d.rs,cellR,Br.of (λd1=>?_) (λd1=>?_)⟩
 ·have ak:k<d.rs.len:=by have:=zQm d1;omega
  refine⟨some d.L,cellL,_,w4,zZ0 rJ _,?_⟩
  have e1:AL.get lk ((k:Int)+1)=AL.get l ((k:Int)+1):=by rw[vZ,if_neg (by omega)]
  rw[zQd (n:=(u:Int)+1) (by omega) (by omega)]
  refine Br.of (λc=>?_) (λc=>?_)
  ·have c:=zQA c
   obtain⟨w5,hd,hm5,bT,rI⟩:=rJ.del (P:=prog) (r0:=0) (tys:=#[80,3]) zWJ rfl yYh ((k:Int)+1)
   refine⟨some d.L,cellL,w5,hd,?_⟩
   rw[zQd (by omega) (by omega)]
   refine hJ _ _ ak ⟨by omega,AL.del lk ((k:Int)+1),hm5,λx=>?_,bp.trans bT λi hi _=>hi,bT.blk aZ (Ne.symm hLS)⟩
   rw[AL.get_del rJ.nodup]
   by_cases e:(k:Int)+1=x
   ·rw[if_pos e]
    rw[e]at c e1
    rw[e1]at c
    cases hq:AL.get l x with
    | none=>rw[hq]at c;exfalso;have c:(0:Int)=(u:Int)+1:=c;omega
    | some v=>
     rw[hq]at c
     have c:v=(u:Int)+1:=c
     rw[if_pos ⟨by omega,by omega,by rw[c]⟩]
   ·rw[if_neg e,vZ]
    by_cases q:1<=x/\x<=(k:Int)/\AL.get l x=some ((u:Int)+1)
    ·rw[if_pos q,if_pos ⟨q.1,by omega,q.2.2⟩]
    ·rw[if_neg q,if_neg λq2=>q ⟨q2.1,by omega,q2.2.2⟩]
  ·have c:=zQo c
   rw[zQd (by omega) (by omega)]
   refine hJ _ _ ak ⟨by omega,lk,rJ,λx=>?_,bp,aZ⟩
   rw[vZ]
   by_cases q:1<=x/\x<=(k:Int)/\AL.get l x=some ((u:Int)+1)
   ·rw[if_pos q,if_pos ⟨q.1,by omega,q.2.2⟩]
   ·rw[if_neg q,if_neg λq2=>?_]
    by_cases e:(k:Int)+1=x
    ·rw[e]at e1 c
     rw[e1,q2.2.2]at c
     exact c rfl
    ·exact q ⟨q2.1,by omega,q2.2.2⟩
 ·have ak:k=d.rs.len:=by have:=zQh d1;omega
  subst ak
  refine⟨rfl,aZ,((Fr.pu al:Fr (λb=>b=d.S∨b=d.L) w w1).trans dp λi hi _=>.inl hi).trans bp λi hi _=>.inr hi,lk,rJ,λx=>?_⟩
  rw[vZ]
  by_cases q:AL.get l x=some ((u:Int)+1)
  ·have:=hlr x _ q
   rw[if_pos q,if_pos ⟨this.1,this.2.1,q⟩]
  ·rw[if_neg q,if_neg λq2=>q q2.2.2]
theorem zYO (h:zQr w d val) (hlr:∀k v,d.lk k=some v->1<=k/\k<=d.rh.length/\0<=v/\v<4) {l:List (Int × Int)} (hk:∀k,AL.get l k=(d.lk k).map (· + 1)):∀k v,AL.get l k=some v->1<=k/\k<=d.rh.length/\1<=v:=λk v hv=>by
 rw[hk]at hv
 obtain⟨x,hx,rfl⟩:=Option.map_eq_some_iff.1 hv
 have:=hlr k x hx
 exact⟨this.1,this.2.1,by omega⟩
theorem zYI (hlr:∀k v,d.lk k=some v->1<=k/\k<=d.rh.length/\0<=v/\v<4) (sd:d.sd=true) {u:Nat} {l l':List (Int × Int)} (hk:∀k,AL.get l k=(d.lk k).map (· + 1)) (hk':∀k,AL.get l' k=if AL.get l k=some ((u:Int)+1)then none else AL.get l k) (k:Int) :
  AL.get l' k=((if d.lk k=some (u:Int)then none else d.lk k).map λv=>if d.sd then v+1 else v):=by
 rw[hk',hk,sd]
 cases hq:d.lk k with
 | none=>simp
 | some v=>
  have hv:=hlr k v hq
  by_cases e:v=(u:Int)
  ·subst e;simp
  ·have e2:¬v+1=(u:Int)+1:=by omega
   simp[e,e2]
theorem yXP(h:zQr w d val)(hlr:∀k v,d.lk k=some v->1<=k/\k<=d.rh.length/\0<=v/\v<4)(jM:d.rh.length<=1000){u:Nat}(hu:u<4) :
  Calls prog 127 #[d.ptr,.int .i64 (u:Int)] w λe w'=>e=.returned (.tuple #[])/\∃d',zQ7 w w' d d' val/\zQa d' val=zXB u (zQa d val):=by
 obtain⟨l,hl,hk⟩:=h.lm
 have hLS:d.L ≠ d.S:=λe=>by have:=h.bd.oL;rw[e,h.bd.oS]at this;cases this
 have hrl:=h.rs_len
 refine(zVC h.st hl hLS hu (by omega) (by rw[hrl];exact zYO h hlr hk)).mono ?_
 rintro e w4 ⟨rfl,aZ,hF,lk,rJ,vZ⟩
 have ne:∀{b:Nat} {κ:zXx},d.o b=some κ->κ ≠ .S->κ ≠ .L->¬(b=d.S∨b=d.L):=λ{b κ} hb h1 h2 e=>by
  rcases e with e|e
  ·rw[e,h.bd.oS]at hb;exact h1 (Option.some.inj hb).symm
  ·rw[e,h.bd.oL]at hb;exact h2 (Option.some.inj hb).symm
 have hbd:=h.bd.genL hu (lk':=λk=>if d.lk k=some (u:Int)then none else d.lk k) (o':=d.o) (rs':=d.rs) (rh':=d.rh) (as':=⟨none,0,0⟩) (ah':=[]) (cs':=⟨none,0,0⟩) (ch':=[]) (C':=d.C u) hF
  ⟨lk,rJ,zYI hlr h.sd hk vZ⟩ h.bd.oL (λb κ hbo k0 k1 k2 k3 k4=>⟨ne hbo k1 k0,hbo⟩) h.bd.oS (h.bd.rw_.fr hF λb hb=>ne (h.bd.oR b hb) (by simp) (by simp)) h.bd.oR (zQl.nil _ _ _) (by simp[zQb]) (λe=>absurd (e.symm.trans h.sd) (by simp)) (λ_=>⟨zQl.nil _ _ _,by simp[zQb]⟩) (λx hx=>by
   simp only[List.append_nil,chH,List.flatMap_nil,List.nil_append]at hx
   exact .inl ⟨x,zQJ hx,rfl⟩) (by
   have hnd:=(yXi hu).1 h.bd.nd
   have e:zXa d u=d.rh ++ (zXa d u).drop d.rh.length:=by simp[zXa]
   rw[e]at hnd
   simp only[zKO,chH,List.flatMap_nil,List.nil_append]
   rw[zQp]at hnd
   exact(List.nodup_append.1 hnd).2.1) (λb hbo=>Nat.lt_of_lt_of_le (h.bd.lt b hbo) hF.size)
 refine⟨rfl,_,⟨⟨aZ,hbd,h.sd⟩,hF.mono λi hi _=>?_,λb hbo=>.inl hbo,rfl⟩,?_⟩
 ·rcases hi with rfl|rfl
  ·rw[h.bd.oS];simp
  ·rw[h.bd.oL];simp
 ·simp only[zQa,zXB,Dsk.setU,Dsk.mk.injEq]
  refine⟨rfl,rfl,rfl,?_,rfl⟩
  funext v
  by_cases e:v=u
  ·subst e;simp[zZ9,zQs.gen]
  ·simp[zZ9,zQs.gen,e]
theorem yQ3 (h:zQr w d val) (hI:Inv (zQa d val)) (u:Int) :
  Calls prog 73 #[d.ptr,.int .i64 u] w λe w'=>e=.returned (.tuple #[.int .i64 (revertN u (zQa d val):Nat),.int .i64 (uC u)])/\∃d' val',zQ7 w w' d d' val'/\zQa d' val'=revertS u (zQa d val):=by
 refine yVS _ u w _ (Calls.mono (zYb u w) ?_)
 rintro e w1 ⟨rfl,rfl⟩
 refine⟨_,rfl,Br.of (λc=>?_) (λc=>zQf λw3 am _=>?_)⟩
 ·have hu:¬isU u=true:=by simpa using c
  exact⟨by rw[revertN,if_neg hu,uC,if_neg hu];rfl,d,val,zQ7.refl h,by rw[revertS,if_neg hu]⟩
 have hu:isU u=true:=by simpa using c
 obtain⟨n,rfl,hn⟩:=zQY hu
 have h3:=h.pu am
 have hcl:=h.cs_len hn
 have hal:=h.as_len hn
 have rg:=hI.chl hn
 have fG:=hI.ah hn
 have jM:=hI.rh
 have eA:((zQa d val).us n).at_=d.at_ n:=rfl
 have e0:(zQa d val).recs.length=d.rh.length:=by simp[zQa]
 have hlr:∀k v,d.lk k=some v->1<=k/\k<=d.rh.length/\0<=v/\v<4:=λk v hv=>by
  have:=hI.lr k v hv
  rw[e0]at this;exact this
 have eN:IntKind.i64.wrap ((((d.cs n).len:Nat):Int)+(((d.asv n).len:Nat):Int))=(revertN (n:Int) (zQa d val):Nat):=by
  rw[zQd (by omega) (by omega),revertN,if_pos hu,zQI,zKQ,zXr];omega
 have eU:uC (n:Int)=0:=by rw[uC,if_pos hu]
 refine⟨(u4 hn).1,(u4 hn).2,d.cs n,h3.uCs hn,(u4 hn).1,(u4 hn).2,d.asv n,h3.uAp hn,(u4 hn).1,(u4 hn).2,d.at_ n,h3.uAt hn,Br.of (λc1=>?_) (λc1=>?_)⟩
 ·have c1:=zQm c1
  refine⟨(u4 hn).1,(u4 hn).2,?_⟩
  rw[zJa,zQc]
  refine h3.own (d':=d.withAt n 0) (by omega) (zJM hn 0) rfl rfl (λx hb=>hb.same _ _) λw8 h8 hf8 hs8=>?_
  refine Calls.mono (yXP h8 hlr (by show d.rh.length<=1000;omega) hn) ?_
  rintro e w9 ⟨rfl,d',hL,habs⟩
  refine⟨rfl,by rw[eN,eU],d',val,((zQ7.pu h am).trans (zQ7.cell h3 h8 hf8 rfl rfl)).trans hL,?_⟩
  rw[habs,zVS,revertS,if_pos hu,zQI,revertU,eA,if_pos c1]
 ·have c1:=zQh c1
  refine Calls.mono (yXP h3 hlr (by omega) hn) ?_
  rintro e w9 ⟨rfl,d',hL,habs⟩
  refine⟨rfl,by rw[eN,eU],d',val,(zQ7.pu h am).trans hL,?_⟩
  rw[habs,revertS,if_pos hu,zQI,revertU,eA,if_neg c1]
  congr 1
  simp only[Dsk.setU]
  have:(λv=>if v=n then { (zQa d val).us n with at_:=d.at_ n }else(zQa d val).us v)=(zQa d val).us:=by
   funext v
   by_cases e:v=n
   ·subst e;rw[if_pos rfl,←eA]
   ·rw[if_neg e]
  rw[this]
theorem yQj:zX1 prog 122=4:=by kernel_rfl
theorem xJx (h:zQr w d val) (hI:Inv (zQa d val)) (u:Int) :
  Calls prog 74 #[d.ptr,.int .i64 u] w λe w'=>e=.returned (.int .i64 (uC u))/\∃d' val',zQ7 w w' d d' val'/\zQa d' val'=fallS u (zQa d val):=by
 refine yKz _ u w _ ((yQ3 h hI u).mono ?_)
 rintro e w1 ⟨rfl,d',val',hL,habs⟩
 refine⟨_,_,rfl,Br.of (λc=>?_) (λc=>?_)⟩
 ·have hu:¬isU u=true:=zJZ c
  exact⟨rfl,d',val',hL,by rw[habs,revertS,if_neg hu,fallS,if_neg hu]⟩
 have hu:=zKs c
 obtain⟨n,rfl,hn⟩:=zQY hu
 have eU:uC (n:Int)=0:=by rw[uC,if_pos hu]
 have hU:zQa d' val'=revertU n (zQa d val):=by rw[habs,revertS,if_pos hu,zQI]
 have hch:d'.ch n=[]:=by
  have h1:=congrArg (λσ:Dsk=>(σ.us n).ch) hU
  have h2:((revertU n (zQa d val)).us n).ch=[]:=by simp[revertU,zXB,Dsk.setU]
  have h3:(d'.ch n).map (toC val')=[]:=h1.trans h2
  exact List.map_eq_nil_iff.1 h3
 have hah:d'.ah n=[]:=by
  have h1:=congrArg (λσ:Dsk=>(σ.us n).ap) hU
  have h2:((revertU n (zQa d val)).us n).ap=[]:=by simp[revertU,zXB,Dsk.setU]
  have h3:(d'.ah n).map (toR val')=[]:=h1.trans h2
  exact List.map_eq_nil_iff.1 h3
 refine⟨(u4 hn).1,(u4 hn).2,yQj.symm,rfl,?_⟩
 rw[←show(⟨d'.S,0,none⟩:Addr)=⟨d.S,0,none⟩by rw[hL.ptr],zJa]
 have h1:=hL.sys
 show st1 (⟨d'.S,3+n * 4,none⟩:Addr) (.int .i64 0) w1 λw2=>st1 ((⟨d'.S,3+n * 4,none⟩:Addr).add 1) (.int .i64 0) w2 λw3=>st1 ((⟨d'.S,3+n * 4,none⟩:Addr).add 2) (.slice none 0 0) w3 λw4=>st1 ((⟨d'.S,3+n * 4,none⟩:Addr).add 3) (.slice none 0 0) w4 _
 refine h1.own (d':=d'.withMode n 0) (by omega) (zWV hn 0) rfl rfl (λx hb=>hb.same _ _) λw2 h2 dh fC=>?_
 rw[zQc]
 refine h2.own (d':=(d'.withMode n 0).withAt n 0) (by show 3+n * 4+1<20;omega) (zJM (d:=d'.withMode n 0) hn 0) rfl rfl (λx hb=>hb.same _ _) λw3 h3 bP pL=>?_
 rw[zQc]
 refine h3.own (d':={ (d'.withMode n 0).withAt n 0 with cs:=λv=>if v=n then⟨none,0,0⟩else d'.cs v }) (by show 3+n * 4+2<20;omega) (zYj (d:=(d'.withMode n 0).withAt n 0) hn ⟨none,0,0⟩) rfl rfl (λx hb=>⟨hb.fl,hb.rw_,hb.aw,hb.mp,λe v hv=>?_,hb.lm,hb.vr,hb.low,hb.nd,hb.oS,hb.oL,hb.oC,λe v hv b hbm=>?_,hb.oF,hb.oR,hb.oA,hb.oV,hb.lt⟩) λw4 h4 bp se=>?_
 ·by_cases q:v=n
  ·subst q
   show zQl x 136 5 (if v=v then⟨none,0,0⟩else d'.cs v) ((d'.ch v).flatMap chC)
   rw[if_pos rfl,hch];exact zQl.nil _ _ _
  ·show zQl x 136 5 (if v=n then⟨none,0,0⟩else d'.cs v) ((d'.ch v).flatMap chC)
   rw[if_neg q];exact hb.ml e v hv
 ·have hbm:b ∈ zQb (if v=n then⟨none,0,0⟩else d'.cs v):=hbm
  by_cases q:v=n
  ·rw[if_pos q]at hbm;simp[zQb]at hbm
  ·rw[if_neg q]at hbm;exact hb.oK e v hv b hbm
 rw[zQc]
 refine h4.own (d':={ (d'.withMode n 0).withAt n 0 with cs:=λv=>if v=n then⟨none,0,0⟩else d'.cs v,asv:=λv=>if v=n then⟨none,0,0⟩else d'.asv v }) (by show 3+n * 4+3<20;omega) (zY1 (d:={ (d'.withMode n 0).withAt n 0 with cs:=λv=>if v=n then⟨none,0,0⟩else d'.cs v }) hn ⟨none,0,0⟩) rfl rfl (λx hb=>⟨hb.fl,hb.rw_,λv hv=>?_,hb.mp,hb.ml,hb.lm,hb.vr,hb.low,hb.nd,hb.oS,hb.oL,hb.oC,hb.oK,hb.oF,hb.oR,λv hv b hbm=>?_,hb.oV,hb.lt⟩) λw5 h5 bT rI=>?_
 ·by_cases q:v=n
  ·subst q
   show zQl x 77 2 (if v=v then⟨none,0,0⟩else d'.asv v) ((d'.ah v).flatMap zJR)
   rw[if_pos rfl,hah];exact zQl.nil _ _ _
  ·show zQl x 77 2 (if v=n then⟨none,0,0⟩else d'.asv v) ((d'.ah v).flatMap zJR)
   rw[if_neg q];exact hb.aw v hv
 ·have hbm:b ∈ zQb (if v=n then⟨none,0,0⟩else d'.asv v):=hbm
  by_cases q:v=n
  ·rw[if_pos q]at hbm;simp[zQb]at hbm
  ·rw[if_neg q]at hbm;exact hb.oA v hv b hbm
 refine⟨by rw[eU],_,val',hL.trans ((((zQ7.cell h1 h2 dh rfl rfl).trans (zQ7.cell h2 h3 bP rfl rfl)).trans (zQ7.cell h3 h4 bp rfl rfl)).trans (zQ7.cell h4 h5 bT rfl rfl)),?_⟩
 have e1:zQa { (d'.withMode n 0).withAt n 0 with cs:=λv=>if v=n then⟨none,0,0⟩else d'.cs v,asv:=λv=>if v=n then⟨none,0,0⟩else d'.asv v } val'=zQa ((d'.withMode n 0).withAt n 0) val':=rfl
 rw[e1,zVS,zWt,hU,fallS,if_pos hu,zQI]
 simp only[Dsk.setU,Dsk.mk.injEq,true_and,and_true]
 funext v
 by_cases e:v=n
 ·subst e;simp
 ·simp[e]
end Go.Proofs.YtcihcbfcgjepfaaGreatDoor
/- Desks: the reference's Store. No condition but those stated. -/
namespace Go.Proofs.YtcihcbfcgjepfaaGreatDoor
open Go.Sh Go.RowKit Tryz
variable {w w' : World} {d d' : zQs} {val : Nat -> List Val}
theorem yWH{α:Type}(f:α->α)(z:α):∀(l:List α) (k:Nat),(l.modify k f).set k z=l.set k z
 | [],k=>by simp
 | y :: l,0=>rfl
 | y :: l,k+1=>by rw[List.set_cons_succ,List.modify_succ_cons,List.set_cons_succ,yWH]
theorem rSetRh (h:zQr w d val) {i:Nat} {x y:zQx} (hx:d.rh[i]?=some x) (hs:x.s=y.s) (hf:Fr (· ∈ zQb d.rs) w w') (hrow:zQl w' 77 2 d.rs ((d.rh.set i y).flatMap zJR)):zQr w' { d with rh:=d.rh.set i y } val:=by
 have own:∀b ∈ zQb d.rs,d.o b=some .R:=h.bd.oR
 have hu:0<4:=by decide
 have hm:x ∈ zQX d:=zQJ (List.mem_of_getElem? hx)
 have ne:∀{b:Nat} {κ:zXx},d.o b=some κ->κ ≠ .R->¬b ∈ zQb d.rs:=λ{b κ} hb hk e=>by rw[own b e]at hb;exact hk (Option.some.inj hb).symm
 have hbd:zQE w' (d.gen 0 d.o d.rs (d.rh.set i y) (d.asv 0) (d.ah 0) (d.cs 0) (d.ch 0) (d.C 0)) val:=by
  refine h.bd.gen hu hf (λb κ hb _ hk _ _=>⟨ne hb hk,hb⟩) h.bd.oS hrow own ((h.bd.aw 0 hu).fr hf λb hb=>ne (h.bd.oA 0 hu b hb) (by simp)) (h.bd.oA 0 hu) (λe=>⟨(h.bd.mp e 0 hu).fr hf (ne (h.bd.oC e 0 hu) (by simp)),h.bd.oC e 0 hu⟩) (λe=>⟨(h.bd.ml e 0 hu).fr hf λb hb=>ne (h.bd.oK e 0 hu b hb) (by simp),h.bd.oK e 0 hu⟩) (λz hz=>?_) ?_ (λb hb=>Nat.lt_of_lt_of_le (h.bd.lt b hb) hf.size)
  ·left
   simp only[List.mem_append]at hz
   rcases hz with(hz|hz)|hz
   ·exact⟨z,zZr hu (List.mem_append_left _ hz),rfl⟩
   ·exact⟨z,zXj hu hz,rfl⟩
   ·rcases List.mem_or_eq_of_mem_set hz with hz|rfl
    ·exact⟨z,zQJ hz,rfl⟩
    ·exact⟨x,hm,hs.symm⟩
  ·have hnd:=(yXi hu).1 h.bd.nd
   have e:zXa d 0=d.rh ++ (zXa d 0).drop d.rh.length:=by simp[zXa]
   rw[e]at hnd
   unfold zKO
   rw[zQp,zQp (d.rh.set _ _),zWD (y:=y) hx hs,←zQp,←zQp]
   exact hnd
 rw[zWw]at hbd
 exact⟨hf.blk h.st (ne h.bd.oS (by simp)),hbd,h.sd⟩
theorem xQc (h:zQr w d val) {c:zQx × zQx} (m1:c.1 ∈ zQX d) (m2:c.2 ∈ zQX d) {i:Nat} {x:zQx} (hx:d.rh[i]?=some x) (n1:∀b ∈ zQb x.s,b ∉ zQb c.1.s) (n2:∀b ∈ zQb x.s,b ∉ zQb c.2.s)
  (l1:(hv val c.1).length=(hv val c.2).length) (l2:(hv val x).length=(hv val c.2).length) (lb:(hv val c.2).length<=1000000) (lp:0<(hv val c.2).length) {a:Addr} (ha:d.rs.a=some a) {r:Nat} {k:Int}
  (hr:w.heap[r]?=some (.cells #[.int .i64 k,.bool c.1.g,.slice c.1.s.a c.1.s.len c.1.s.cap,.bool c.2.g,.slice c.2.s.a c.2.s.len c.2.s.cap] 136)) (nr:d.o r=none) {R:Rt} {J1:Int->World->Prop} {p0 fu:Option Addr} {ba n1':Int}
  (hJ:∀w' y val',y.s=x.s->zQr w' { d with rh:=d.rh.set i y } val'->Fr (RV d) w w'->zQa { d with rh:=d.rh.set i y } val'={ zQa d val with recs:=(zQa d val).recs.modify i (zZZ (toR val c.1,toR val c.2)) }->J1 (IntKind.i64.wrap (ba+1)) w') :
  xJJ R J1 p0 n1' fu ba (some ⟨r,0,none⟩) (some (a.add (i * 2))) 0 [] w:=by
 have hm:x ∈ zQX d:=zQJ (List.mem_of_getElem? hx)
 have hi:i<d.rh.length:=(List.getElem?_eq_some_iff.1 hx).1
 have eX:(zQa d val).recs[i]?=some (toR val x):=by show(d.rh.map (toR val))[i]?=_;rw[List.getElem?_map,hx];rfl
 have k1:zQl w 28 3 c.1.s ((hv val c.1).flatMap zXJ):=h.bd.vr _ m1
 have k2:zQl w 28 3 c.2.s ((hv val c.2).flatMap zXJ):=h.bd.vr _ m2
 have ox:∀b ∈ zQb x.s,d.o b=some .V:=λb hb=>h.bd.oV b (zQN hm hb)
 have oR:=h.bd.oR
 have r0:=h.bd.vr x hm
 obtain⟨ab,hab⟩:=zX8 (i:=0) r0 (by omega)
 have s1:=k1.len zQF (by decide)
 have s2:=k2.len zQF (by decide)
 have s3:=r0.len zQF (by decide)
 have mixl:∀k,(zJc ((hv val c.1).take k) ((hv val c.2).take k) (hv val x)).length=(hv val x).length:=λk=>zWr _ _ _
 have nX:¬r ∈ zQb x.s:=λe=>by rw[ox _ e]at nr;cases nr
 refine zQ1 (hv val x).length (λk t w'=>t=(k:Int)/\zQl w' 28 3 x.s ((zJc ((hv val c.1).take k) ((hv val c.2).take k) (hv val x)).flatMap zXJ)/\Fr (· ∈ zQb x.s) w w') ⟨rfl,by rw[List.take_zero,List.take_zero,mix0];exact r0,Fr.refl _ _⟩ ?_
 rintro j J2 t w4 hj ⟨ht,hr4,bp⟩ pM
 obtain rfl:t=(j:Int):=ht
 have hrow4:∀{wz:World},Fr (· ∈ zQb x.s) w wz->zQl wz 77 2 d.rs (d.rh.flatMap zJR):=λ{wz} hf=>h.bd.rw_.fr hf λb hb e=>by have h5:=oR b hb;rw[ox b e]at h5;cases h5
 have xcell:∀{wz:World},Fr (· ∈ zQb x.s) w wz->wz.cell? ((a.add (i * 2)).add 1)=some (.slice x.s.a x.s.len x.s.cap):=λ{wz} hf=>by
  obtain⟨aR,haR,_,hcl⟩:=(hrow4 hf).elem zQk hx (o:=1) (v:=.slice x.s.a x.s.len x.s.cap) rfl
  rw[ha]at haR;cases haR
  exact hcl
 refine⟨x.s,xcell bp,Br.of (λd1=>zQf λw5 aB _=>?_) (λd1=>?_)⟩
 ·have nh:j<(hv val x).length:=by have:=zQm d1;omega
  obtain⟨p,hp⟩:=zXe (l:=hv val c.1) (k:=j) (by omega)
  obtain⟨q,hq⟩:=zXe (l:=hv val c.2) (k:=j) (by omega)
  obtain⟨z,hz⟩:=zXe nh
  have bT:Fr (· ∈ zQb x.s) w w5:=bp.trans (Fr.pu aB:Fr (· ∈ zQb x.s) w4 w5) λi hi _=>hi
  have aP:=bT.blk hr nX
  have V1:RdV w5 c.1.s (hv val c.1):=zZ8.rd (w0:={ w with heap:=#[] }) ⟨k1.fr bT λb hb ag=>n1 b ag hb,λ_ _=>Nat.zero_le _⟩ (by omega)
  have V2:RdV w5 c.2.s (hv val c.2):=zZ8.rd (w0:={ w with heap:=#[] }) ⟨k2.fr bT λb hb ag=>n2 b ag hb,λ_ _=>Nat.zero_le _⟩ (by omega)
  obtain⟨pa,hpa,a0,a1,a2⟩:=V1.get j p hp
  obtain⟨pb,hpb,b0,b1,b2⟩:=V2.get j q hq
  refine⟨c.1.s,by rw[zQc,zQc,zQq aP];rfl,pa,hpa,by omega,by omega,_,a0,_,a1,_,a2,c.2.s,by rw[zQc,zQc,zQq aP];rfl,pb,hpb,by omega,by omega,_,b0,_,b1,_,b2,(zXX p q w5).mono ?_⟩
  rintro e w6 ⟨rfl,bx⟩
  refine⟨_,rfl,Br.of (λd2=>zQf λw7 bU _=>?_) (λd2=>?_)⟩
  ·have d2:p ≠ q:=by simpa using d2
   have dr:=bx.trans bU
   have dg:Fr (· ∈ zQb x.s) w w7:=bT.trans (Fr.pu dr:Fr (· ∈ zQb x.s) w5 w7) λi hi _=>hi
   have bQ:=dr.blk aP
   have vw:=hr4.pu (aB.trans dr)
   obtain⟨pb',hpb',c0,c1,c2⟩:=(V2.pu dr).get j q hq
   obtain⟨b,hb,hst⟩:=vw.stElem (P:=prog) (t:=28) zQF (by decide) (i:=j) (by rw[mixl];omega) q zWp.symm rfl (K:=λw'=>J2 (IntKind.i64.wrap ((j:Int)+1)) w') λw9 hr9 jX hs9=>by
    rw[zQd (by omega) (by omega)]
    refine pM _ _ nh ⟨by omega,?_,dg.trans jX λi hi _=>hi⟩
    rw[zKw hp hq hz,if_neg d2]
    exact hr9
   exact⟨x.s,xcell dg,c.2.s,by rw[zQc,zQc,zQq bQ];rfl,pb',hpb',by omega,by omega,_,c0,_,c1,_,c2,b,hb,by omega,by omega,hst⟩
  ·have d2:p=q:=by simpa using d2
   rw[zQd (by omega) (by omega)]
   refine pM _ _ nh ⟨by omega,?_,bT.trans (Fr.pu bx:Fr (· ∈ zQb x.s) w5 w6) λi hi _=>hi⟩
   rw[zKw hp hq hz,if_pos d2,zKd (by rw[yQT];exact hz)]
   exact(hr4.pu aB).pu bx
 ·have nh:j=(hv val x).length:=by have:=zQh d1;omega
  subst nh
  rw[List.take_of_length_le (by omega),List.take_of_length_le (by omega)]at hr4
  have hD:=h.setVal hm hab bp hr4
  have hF4:Fr (RV d) w w4:=bp.mono λi hi _=>.inr (ox i hi)
  have aZ:=bp.blk hr nX
  have ea:=zZP (val:=val) (x:=zJc (hv val c.1) (hv val c.2) (hv val x)) h.bd.nd h.bd.low hx hab
  have vx:hv (zXE val ab.block (zJc (hv val c.1) (hv val c.2) (hv val x))) x=zJc (hv val c.1) (hv val c.2) (hv val x):=zZs hab rfl
  -- the end, with the record as it is then
  have fin:∀{w5:World} (y:zQx),y.s=x.s->y.g=(if c.1.g=c.2.g then x.g else c.2.g)->zQr w5 { d with rh:=d.rh.set i y } (zXE val ab.block (zJc (hv val c.1) (hv val c.2) (hv val x)))->Fr (RV d) w w5->J1 (IntKind.i64.wrap (ba+1)) w5:=λ{w5} y hys hyg h5 bT=>by
   refine hJ w5 y _ hys h5 bT ?_
   have e1:zQa { d with rh:=d.rh.set i y } (zXE val ab.block (zJc (hv val c.1) (hv val c.2) (hv val x)))={ zQa d (zXE val ab.block (zJc (hv val c.1) (hv val c.2) (hv val x)))with recs:=(zQa d (zXE val ab.block (zJc (hv val c.1) (hv val c.2) (hv val x)))).recs.set i (toR (zXE val ab.block (zJc (hv val c.1) (hv val c.2) (hv val x))) y) }:=by
    simp only[zQa,List.map_set]
    rfl
   have e2:toR (zXE val ab.block (zJc (hv val c.1) (hv val c.2) (hv val x))) y=zZZ (toR val c.1,toR val c.2) (toR val x):=by
    have:hv (zXE val ab.block (zJc (hv val c.1) (hv val c.2) (hv val x))) y=zJc (hv val c.1) (hv val c.2) (hv val x):=Eq.trans (by unfold hv;rw[hys]) vx
    rw[toR,this,hyg];rfl
   rw[e1,ea,e2]
   show({ zQa d val with recs:=_ }:Dsk)=_
   rw[yWH,zXY eX]
  refine⟨_,cl aZ 1,_,cl aZ 3,Br.of (λd3=>?_) (λd3=>?_)⟩
  ·have d3:c.1.g ≠ c.2.g:=by simpa using d3
   obtain⟨a1,dm,hst⟩:=hD.bd.rw_.stField (i:=i) (o:=0) zQk hi (by decide) { x with g:=c.2.g } (.bool c.2.g) (λy hy=>by rw[hx]at hy;cases hy;rfl) (K:=λw5=>J1 (IntKind.i64.wrap (ba+1)) w5) λw5 hr5 bT rI=>
    fin { x with g:=c.2.g } rfl (by rw[if_neg d3]) (rSetRh hD hx rfl bT hr5) (hF4.trans bT λi hi _=>.inl (oR i hi))
   rw[ha]at dm;cases dm
   rw[zKk]at hst
   exact⟨_,cl aZ 3,hst⟩
  ·have d3:c.1.g=c.2.g:=by simpa using d3
   have e:d.rh.set i x=d.rh:=zKd hx
   exact fin x rfl (by rw[if_pos d3]) (by rw[e];exact hD) hF4
theorem zV5 (h:zQr w d val) {u:Nat} (hu:u<4) {w5:World} {rs' t:SV} {out:List Int} (at':Int) (hst:w5.heap[d.S]?=some (.cells (zZ5 (({ d with rs:=rs' }:zQs).withAt u at')) 125)) (hrow:zQl w5 77 2 rs' ((d.rh ++ d.ah u).flatMap zJR))
  (hb:∀b ∈ zQb rs',b ∈ zQb d.rs∨w.heap.size<=b) (hf:Fr (λb=>b=d.S∨b ∈ zQb d.rs) w w5) (hN:zX6 w w5 t out) (hlr:∀k v,d.lk k=some v->1<=k/\k<=d.rh.length/\0<=v/\v<4) (jM:d.rh.length+(d.ah u).length<=1000) :
  Calls prog 127 #[d.ptr,.int .i64 (u:Int)] w5 λe w6=>e=.returned (.tuple #[])/\zX6 w w6 t out/\∃d',zQ7 w w6 d d' val/\
   zQa d' val=zXB u ({ zQa d val with recs:=(zQa d val).recs ++ ((zQa d val).us u).ap }.setU u { (zQa d val).us u with at_:=at' }):=by
 obtain⟨l,hl,hk⟩:=h.lm
 have hLS:d.L ≠ d.S:=λe=>by have:=h.bd.oL;rw[e,h.bd.oS]at this;cases this
 have oR:=h.bd.oR
 have nL:¬(d.L=d.S∨d.L ∈ zQb d.rs):=λe=>by
  rcases e with e|e
  ·exact hLS e
  ·have:=oR _ e;rw[h.bd.oL]at this;cases this
 have hrlen:=hrow.len zQk (by decide)
 rw[List.length_append]at hrlen
 refine(zVC (d:=({ d with rs:=rs' }:zQs).withAt u at') hst (hl.fr hf nL) hLS hu (by show rs'.len<=1000;omega) (λk v hv=>?_)).mono ?_
 ·have:=zYO h hlr hk k v hv
  exact⟨this.1,by show k<=((rs'.len:Nat):Int);omega,this.2.2⟩
 rintro e w6 ⟨rfl,qc,bb,l',hl',hk'⟩
 have z5:=hf.size
 have z6:=bb.size
 have hF:Fr (λb=>b=d.S∨b ∈ zQb d.rs∨b=d.L) w w6:=(hf.mono (B':=λb=>b=d.S∨b ∈ zQb d.rs∨b=d.L) λi hi _=>hi.elim .inl λh=>.inr (.inl h)).trans bb λi hi _=>by
  rcases hi with hi|hi
  ·exact .inl hi
  ·exact .inr (.inr hi)
 have zr:=hrow.lt
 have nt:∀b ∈ zQb t,¬(b=d.S∨b=d.L):=λb hb e=>by
  have h1:=h.bd.out (hN.2 b hb)
  rcases e with e|e
  ·rw[e,h.bd.oS]at h1;cases h1
  ·rw[e,h.bd.oL]at h1;cases h1
 have ne:∀{b:Nat} {κ:zXx},d.o b=some κ->κ ≠ .S->κ ≠ .L->κ ≠ .R->¬(b=d.S∨b ∈ zQb d.rs∨b=d.L):=λ{b κ} hb h1 h2 h3 e=>by
  rcases e with e|e|e
  ·rw[e,h.bd.oS]at hb;exact h1 (Option.some.inj hb).symm
  ·rw[oR b e]at hb;exact h3 (Option.some.inj hb).symm
  ·rw[e,h.bd.oL]at hb;exact h2 (Option.some.inj hb).symm
 have up:∀{b:Nat} {κ:zXx},d.o b=some κ->κ ≠ .R->(if b ∈ zQb rs' then some zXx.R else d.o b)=some κ:=λ{b κ} hbo hk=>by
  have hlw:b<w.heap.size:=h.bd.lt b (by rw[hbo];simp)
  rw[if_neg λe=>?_]
  ·exact hbo
  ·rcases hb b e with e|e
   ·rw[oR b e]at hbo;exact hk (Option.some.inj hbo).symm
   ·omega
 have nrs:∀b ∈ zQb rs',¬(b=d.S∨b=d.L):=λb ag e=>by
  rcases hb b ag with h1|h1
  ·have h2:=oR b h1
   rcases e with e|e
   ·rw[e,h.bd.oS]at h2;cases h2
   ·rw[e,h.bd.oL]at h2;cases h2
  ·have h2:=h.bd.out h1
   rcases e with e|e
   ·rw[e,h.bd.oS]at h2;cases h2
   ·rw[e,h.bd.oL]at h2;cases h2
 have hbd:=h.bd.genL hu (lk':=λk=>if d.lk k=some (u:Int)then none else d.lk k) (o':=λb=>if b ∈ zQb rs' then some .R else d.o b) (rs':=rs') (rh':=d.rh ++ d.ah u) (as':=⟨none,0,0⟩) (ah':=[]) (cs':=⟨none,0,0⟩) (ch':=[]) (C':=d.C u) hF
  ⟨l',hl',zYI hlr h.sd hk hk'⟩ (up h.bd.oL (by simp)) (λb κ hbo k0 k1 k2 k3 k4=>⟨ne hbo k1 k0 k2,up hbo k2⟩) (up h.bd.oS (by simp)) (hrow.fr bb nrs) (λb ag=>if_pos ag) (zQl.nil _ _ _) (by simp[zQb]) (λe=>absurd (e.symm.trans h.sd) (by simp)) (λ_=>⟨zQl.nil _ _ _,by simp[zQb]⟩) (λx hx=>by
   simp only[List.append_nil,chH,List.flatMap_nil,List.nil_append,List.mem_append]at hx
   rcases hx with hx|hx
   ·exact .inl ⟨x,zQJ hx,rfl⟩
   ·exact .inl ⟨x,zXj hu hx,rfl⟩) (by
   have hnd:=(yXi hu).1 h.bd.nd
   have e:zXa d u=d.rh ++ (zXa d u).drop d.rh.length:=by simp[zXa]
   rw[e]at hnd
   simp only[zKO,chH,List.flatMap_nil,List.nil_append]
   have p:(d.rh ++ d.ah u ++ (zXa d u).drop d.rh.length).Perm (d.ah u ++ (d.rh ++ (zXa d u).drop d.rh.length)):=by
    rw[List.append_assoc];exact List.perm_append_comm_assoc ..
   refine(zXF p).nodup_iff.2 ?_
   rw[uH,List.append_assoc,zQp]at hnd
   exact(List.nodup_append.1 hnd).2.1) (λb hbo=>by
   by_cases e2:b ∈ zQb rs'
   ·have:=zr b e2;omega
   ·rw[if_neg e2]at hbo
    exact Nat.lt_of_lt_of_le (h.bd.lt b hbo) hF.size)
 refine⟨rfl,hN.fr bb nt,_,⟨⟨qc,hbd.same d.mode (λv=>if v=u then at' else d.at_ v),h.sd⟩,hF.mono λi hi _=>?_,λb hbo=>?_,rfl⟩,?_⟩
 ·rcases hi with rfl|hi|rfl
  ·rw[h.bd.oS];simp
  ·rw[oR i hi];simp
  ·rw[h.bd.oL];simp
 ·have hbo:(if b ∈ zQb rs' then some zXx.R else d.o b) ≠ none:=hbo
  by_cases e2:b ∈ zQb rs'
  ·rcases hb b e2 with h1|h1
   ·left;rw[oR b h1];simp
   ·right;exact h1
  ·rw[if_neg e2]at hbo;exact .inl hbo
 ·simp only[zQa,zXB,Dsk.setU,List.map_append,Dsk.mk.injEq]
  refine⟨rfl,rfl,by simp[zQs.gen,zZ9],?_,rfl⟩
  funext v
  by_cases e:v=u
  ·subst e;simp[zZ9,zQs.gen]
  ·simp[zZ9,zQs.gen,e]
theorem yQE (h:zQr w d val) {u:Nat} (hu:u<4) (hb:d.rh.length+(d.ah u).length<=1000) (hat:-(d.at_ u)<=(d.ah u).length) (hlr:∀k v,d.lk k=some v->1<=k/\k<=d.rh.length/\0<=v/\v<4) {R:Rt}
  (hR:∀w' q d',zX6 w w' q (storeL u (zQa d val))->zQ7 w w' d d' val->zQa d' val=xQF u (zQa d val)->R (.returned (.tuple #[.slice q.a q.len q.cap,.int .i64 0])) w') :
  xKd R (some ⟨d.S,0,none⟩) (u:Int) (some (((⟨d.S,0,none⟩:Addr).add 3).add ((u:Int).toNat * 4))) [] w:=by
 have hal:=h.as_len hu
 have hrl:=h.rs_len
 have oR:=h.bd.oR
 have eA:((zQa d val).us u).at_=d.at_ u:=rfl
 have eR:(zQa d val).recs.length=d.rh.length:=by simp[zQa]
 have eP:((zQa d val).us u).ap.length=(d.ah u).length:=zXr
 have eL:storeL u (zQa d val)=(List.range (d.ah u).length).map λ(j:Nat)=>((d.rh.length:Int)+j)+1:=by unfold storeL;rw[eP,eR]
 rw[zJa]
 refine zQ1 (d.ah u).length (λk t w'=>t.2=(k:Int)/\∃rk:SV,zQl w' 77 2 rk ((d.rh ++ (d.ah u).take k).flatMap zJR)/\(∀b ∈ zQb rk,b ∈ zQb d.rs∨w.heap.size<=b)/\w'.heap[d.S]?=some (.cells (zZ5 { d with rs:=rk }) 125)/\
  zX6 w w' t.1 ((List.range k).map λ(j:Nat)=>((d.rh.length:Int)+j)+1)/\Fr (λb=>b=d.S∨b ∈ zQb d.rs) w w') ⟨rfl,d.rs,by simpa using h.bd.rw_,λb hb=>.inl hb,h.st,zX6.nil _ _,Fr.refl _ _⟩ ?_
 rintro k J ⟨t,n⟩ w1 hk ⟨hn,rk,hrow,hrb,hst,hN,hf⟩ hJ
 obtain rfl:n=(k:Int):=hn
 dsimp only at hN
 have nA:∀b ∈ zQb (d.asv u),¬(b=d.S∨b ∈ zQb d.rs):=λb hb e=>by
  have h1:=h.bd.oA u hu b hb
  rcases e with e|e
  ·rw[e,h.bd.oS]at h1;cases h1
  ·rw[oR b e]at h1;cases h1
 have hasv:=(h.bd.aw u hu).fr hf nA
 have hkl:=List.length_take_le k (d.ah u)
 have hrlen:=hrow.len zQk (by decide)
 rw[List.length_append]at hrlen
 have ucell:∀(o:Nat),w1.cell? ((uR d u).add o)=(zZ5 { d with rs:=rk })[3+u * 4+o]?:=λo=>by rw[zQc,zQq hst]
 have cA:w1.cell? ((uR d u).add 3)=some (.slice (d.asv u).a (d.asv u).len (d.asv u).cap):=by rw[ucell];exact yWu (d:={ d with rs:=rk }) hu
 refine⟨d.asv u,cA,Br.of (λd1=>zQf λw2 aj _=>?_) (λd1=>?_)⟩
 ·have ak:k<(d.ah u).length:=by have:=zQm d1;omega
  have hkt:((d.ah u).take k).length=k:=by rw[List.length_take];omega
  obtain⟨x,hx⟩:=zXe ak
  have hasv2:=hasv.pu aj
  obtain⟨a,ea,_,g0⟩:=hasv2.elem zQk hx (o:=0) (v:=.bool x.g) rfl
  obtain⟨a',ea',_,g1⟩:=hasv2.elem zQk hx (o:=1) (v:=.slice x.s.a x.s.len x.s.cap) rfl
  rw[ea]at ea';cases ea'
  have hst2:=aj.blk hst
  refine⟨λy=>Pu w2 y,Pu.refl _,rk,λy hy=>by rw[zQc,zQq (hy.blk hst2)];rfl,d.asv u,λy hy=>(aj.trans hy).cell cA,a,ea,by omega,by omega,x.g,λy hy=>hy.cell g0,x.s,λy hy=>hy.cell g1,alB λw5 aB aP=>⟨aB,?_⟩⟩
  have aT:=aj.trans aB
  have pv:=hrow.pu aT
  obtain⟨r',w6,hra,iE,bb,dM,_⟩:=zQ6 (P:=prog) (ty:=23) xZy zJd rfl (by omega) pv (A:=some ⟨w2.heap.size,0,none⟩) (m:=1) (c:=1) (news:=[.bool x.g,.slice x.s.a x.s.len x.s.cap]) rfl (λj y hy=>⟨_,rfl,by rw[cl aP];simpa using hy⟩) (λy hy=>by simp at hy;rcases hy with rfl|rfl <;> rfl) (by show(rk.len+1) * (32+1)<=_;omega)
  refine⟨r',w6,hra,?_⟩
  have z1:=hf.size
  have z5:=aT.size
  have nS:∀b ∈ zQb rk,¬b=d.S:=λb hb e=>by
   rcases hrb b hb with h1|h1
   ·have:=oR b h1;rw[e,h.bd.oS]at this;cases this
   ·have:=h.bd.out h1;rw[e,h.bd.oS]at this;cases this
  have qc:=bb.blk (aT.blk hst) (λe=>nS _ e rfl)
  rw[zQn,zQc]
  refine zQt qc (by show 0+2<20;omega) λw7 uG bQ=>?_
  have dg:Fr (·=d.S) w6 w7:=by rw[uG];exact Fr.cell w6 _ _ _
  have bQ:w7.heap[d.S]?=some (.cells (zZ5 { d with rs:=r' }) 125):=bQ
  have nS':∀b ∈ zQb r',¬b=d.S:=λb hb e=>by
   rcases dM b hb with h1|h1
   ·exact nS b h1 e
   ·have h2:=h.bd.lt d.S (by rw[h.bd.oS];simp)
    omega
  have px:=iE.fr dg nS'
  refine⟨r',by rw[zQc,zQq bQ];rfl,alB λw8 aV dz=>?_⟩
  have er:r'.len=rk.len+1:=by
   have h1:=px.1
   simp only[List.length_append,zQ0 zQk,List.length_cons,List.length_nil]at h1
   omega
  have eint:((r'.len:Nat):Int)=((d.rh.length:Int)+k)+1:=by rw[er,hrlen,hkt];omega
  rw[eint]at dz
  have hNt:zX6 w w5 t _:=hN.pu aT
  have ap1:∀b ∈ zQb t,b ∉ zQb rk:=zZO hNt.1 pv (by decide)
  have uM:=((hNt.fr bb ap1).fr dg λb hb e=>by have h1:=h.bd.out (hN.2 b hb);rw[e,h.bd.oS]at h1;cases h1).pu aV
  have z6:=bb.size
  have z7:=dg.size
  have z8:=aV.size
  obtain⟨t',w9,hra9,hN9,jX⟩:=uM.push (by omega) dz (by simp;omega)
  refine⟨t',w9,hra9,?_⟩
  rw[zQd (by omega) (by omega)]
  have py:=px.pu aV
  have ap2:∀b ∈ zQb r',b ∉ zQb t:=zZO py uM.1 (by decide)
  refine hJ _ _ ak ⟨by simp,r',?_,λb hb=>?_,jX.blk (aV.blk bQ) (λe=>by have h1:=h.bd.out (hN.2 _ e);rw[h.bd.oS]at h1;cases h1),?_,?_⟩
  ·rw[zQP hx,←List.append_assoc,List.flatMap_append,List.flatMap_singleton]
   exact py.fr jX ap2
  ·rcases dM b hb with h1|h1
   ·exact hrb b h1
   ·right;omega
  ·rw[List.range_succ,List.map_append];exact hN9
  ·have q1:Fr (λb=>b=d.S∨b ∈ zQb d.rs) w w6:=(hf.trans (Fr.pu aT:Fr (λb=>b=d.S∨b ∈ zQb d.rs) w1 w5) λi hi _=>hi).trans bb λi hi hlt=>by
    rcases hrb i hi with h1|h1
    ·exact .inr h1
    ·omega
   exact((q1.trans dg λi hi _=>.inl hi).trans (Fr.pu aV:Fr (λb=>b=d.S∨b ∈ zQb d.rs) w7 w8) λi hi _=>hi).trans jX λi hi hlt=>by have:=hN.2 i hi;omega
 ·have ak:k=(d.ah u).length:=by have:=zQh d1;omega
  subst ak
  rw[List.take_length]at hrow
  have eU:w1.cell? ((uR d u).add 1)=some (.int .i64 (d.at_ u)):=by rw[ucell];exact yZb (d:={ d with rs:=rk }) hu
  refine⟨_,eU,Br.of (λc=>?_) (λc=>?_)⟩
  ·have c:=zQm c
   have ew:IntKind.i64.wrap ((IntKind.i64.wrap (0 - d.at_ u)) - 1)=-d.at_ u - 1:=by rw[zQd (n:=0 - d.at_ u) (by omega) (by omega),zQd (by omega) (by omega)];omega
   have hlt:(-d.at_ u - 1).toNat<(d.ah u).length:=by omega
   have hNl:=hN.len
   simp only[List.length_map,List.length_range]at hNl
   obtain⟨a,ha,hc,_⟩:=hN.1.cell (j:=(-d.at_ u - 1).toNat) (v:=.int .i64 ((d.rh.length:Int) - d.at_ u)) (by
    rw[List.getElem?_map,List.getElem?_map,List.getElem?_range hlt]
    simp only[Option.map_some,Option.some.injEq]
    congr 1;omega)
   refine⟨_,eU,a,ha,?_⟩
   rw[ew]
   refine⟨by omega,by show -d.at_ u - 1<((t.len:Nat):Int);omega,(d.rh.length:Int) - d.at_ u,by rw[Nat.mul_one];exact hc,?_⟩
   rw[zQn,zQc]
   refine zQt hst (by show 3+u * 4+1<20;omega) λw2 qX ag=>?_
   have dh:Fr (·=d.S) w1 w2:=by rw[qX];exact Fr.cell w1 _ _ _
   rw[zJM hu]at ag
   have nS:∀b ∈ zQb rk,¬b=d.S:=λb hb e=>by
    rcases hrb b hb with h1|h1
    ·have:=oR b h1;rw[e,h.bd.oS]at this;cases this
    ·have:=h.bd.out h1;rw[e,h.bd.oS]at this;cases this
   refine(zV5 h hu _ ag (hrow.fr dh nS) hrb (hf.trans dh λi hi _=>.inl hi) (hN.fr dh λb hb e=>by have h1:=h.bd.out (hN.2 b hb);rw[e,h.bd.oS]at h1;cases h1) hlr hb).mono ?_
   rintro e w3 ⟨rfl,re,d',hL,habs⟩
   refine⟨rfl,hR w3 t d' (by rw[eL];exact re) hL ?_⟩
   rw[habs]
   simp only[xQF,eA,eR]
   rw[if_pos c]
  ·have c:=zQh c
   have e1:zZ5 { d with rs:=rk }=zZ5 (({ d with rs:=rk }:zQs).withAt u (d.at_ u)):=by
    have e:(λv=>if v=u then d.at_ u else d.at_ v)=d.at_:=by funext v;by_cases e:v=u <;> simp[e]
    simp only[zQs.withAt,e]
   rw[e1]at hst
   refine(zV5 h hu _ hst hrow hrb hf hN hlr hb).mono ?_
   rintro e w3 ⟨rfl,re,d',hL,habs⟩
   refine⟨rfl,hR w3 t d' (by rw[eL];exact re) hL ?_⟩
   rw[habs]
   simp only[xQF,eA,eR]
   rw[if_neg c]
end Go.Proofs.YtcihcbfcgjepfaaGreatDoor
/- Desks: the reference's Store as a whole, and Go. No condition but those stated. -/
namespace Go.Proofs.YtcihcbfcgjepfaaGreatDoor
open Go.Sh Go.RowKit Tryz
variable {w w' : World} {d d' : zQs} {val : Nat -> List Val}
theorem bs136:zX1 prog 136=5:=by kernel_rfl
theorem Inv.lrL (hI:Inv (zQa d val)):∀k v,d.lk k=some v->1<=k/\k<=d.rh.length/\0<=v/\v<4:=λk v hv=>by
 have:=hI.lr k v hv
 rw[show(zQa d val).recs.length=d.rh.length by simp[zQa]]at this
 exact this
theorem zQr.chg (h:zQr w d val) {u:Nat} (hu:u<4) {k:Nat} {p:Chg} (hp:(d.ch u)[k]?=some p):∃a,(d.cs u).a=some a/\k<(d.cs u).len/\w.cell? ((a.add (k * 5)).add 0)=some (.int .i64 p.1)/\w.cell? ((a.add (k * 5)).add 1)=some (.bool p.2.1.g)/\
  w.cell? ((a.add (k * 5)).add 2)=some (.slice p.2.1.s.a p.2.1.s.len p.2.1.s.cap)/\w.cell? ((a.add (k * 5)).add 3)=some (.bool p.2.2.g)/\w.cell? ((a.add (k * 5)).add 4)=some (.slice p.2.2.s.a p.2.2.s.len p.2.2.s.cap):=by
 have ent:∀o v,(chC p)[o]?=some v->∃a,(d.cs u).a=some a/\k<(d.cs u).len/\w.cell? ((a.add (k * 5)).add o)=some v:=λo v hv=>by
  obtain⟨a,ea,hk,g0⟩:=(h.cs_row hu).elem zXC hp (o:=o) (v:=v) hv
  exact⟨a,ea,hk,g0⟩
 obtain⟨a,ea,hk,g0⟩:=ent 0 _ rfl
 obtain⟨a1,uL,_,g1⟩:=ent 1 _ rfl
 obtain⟨a2,qZ,_,g2⟩:=ent 2 _ rfl
 obtain⟨a3,ea3,_,g3⟩:=ent 3 _ rfl
 obtain⟨a4,ea4,_,g4⟩:=ent 4 _ rfl
 rw[ea]at uL qZ ea3 ea4;cases uL;cases qZ;cases ea3;cases ea4
 exact⟨a,ea,hk,g0,g1,g2,g3,g4⟩
theorem zYT (h:zQr w d val) (hI:Inv (zQa d val)) {u:Nat} (hu:u<4) {R:Rt}
  (hR:∀w' q d' val',zX6 w w' q (storeL u (zQa d val))->zQ7 w w' d d' val'->zQa d' val'=storedS u (zQa d val)->R (.returned (.tuple #[.slice q.a q.len q.cap,.int .i64 0])) w') :
  yKH R (some ⟨d.S,0,none⟩) (u:Int) (some (((⟨d.S,0,none⟩:Addr).add 3).add ((u:Int).toNat * 4))) [] w:=by
 have vv:=hI.chl hu
 have fG:=hI.ah hu
 have jM:=hI.rh
 have hat:=hI.at_ u hu
 have eA:((zQa d val).us u).at_=d.at_ u:=rfl
 rw[eA,zXr]at hat
 have dA:d.flds.length<=16:=hI.f16
 have nf:0<d.flds.length:=List.length_pos_iff.2 (zQG hI.vf).1
 have hrl:=h.rs_len
 have hcl:=h.cs_len hu
 have eCh:((zQa d val).us u).ch=(d.ch u).map (toC val):=rfl
 have hnd:((d.ch u).map Prod.fst).Nodup:=by
  have h1:=hI.cn u hu
  rw[eCh,List.map_map]at h1
  exact h1
 refine zQ1 (d.ch u).length (λk t w'=>t=(k:Int)/\∃(rhk:List zQx) (valk:Nat->List Val),zQr w' { d with rh:=rhk } valk/\Fr (RV d) w w'/\
  zQa { d with rh:=rhk } valk={ zQa d val with recs:=zZF ((zQa d val).us u).ch ((d.ch u).drop k) (zQa d val).recs })
  ⟨rfl,d.rh,val,h,Fr.refl _ _,by rw[List.drop_zero,eCh,zVR]⟩ ?_
 rintro k J t w1 hk ⟨ht,rhk,valk,hD,hf,habs⟩ hJ
 obtain rfl:t=(k:Int):=ht
 have erl:rhk.length=d.rh.length:=by
  have:=congrArg (λσ:Dsk=>σ.recs.length) habs
  simp only[zVK]at this
  simpa[zQa] using this
 have eus:∀p ∈ d.ch u,toC valk p=toC val p:=by
  have h1:=congrArg (λσ:Dsk=>(σ.us u).ch) habs
  exact List.map_inj_left.1 h1
 refine⟨d.cs u,hD.uCs hu,Br.of (λd1=>?_) (λd1=>?_)⟩
 ·have ak:k<(d.ch u).length:=by have:=zQm d1;omega
  obtain⟨p,hp⟩:=zXe ak
  have hpm:p ∈ d.ch u:=List.mem_of_getElem? hp
  have ed:(d.ch u).drop k=p :: (d.ch u).drop (k+1):=zJq hp
  have hg:AL.get ((d.ch u).drop k) p.1=some p.2:=by rw[ed];simp[AL.get]
  have hgc:AL.get (d.ch u) p.1=some p.2:=AL.get_of_mem hnd hpm
  have hxr:=(hI.gc u hu (toC val p) (List.mem_map.2 ⟨p,hpm,rfl⟩))
  have hkr:1<=p.1/\p.1<=d.rh.length:=by simpa[toC,zQa] using hxr.2
  obtain⟨a,ea,hka,g0,g1,g2,g3,g4⟩:=hD.chg hu hp
  have ea:(d.cs u).a=some a:=ea
  have hka:k<(d.cs u).len:=hka
  refine⟨d.cs u,hD.uCs hu,a,ea,by omega,by omega,_,by rw[zQI];exact g0,_,by rw[zQI];exact g1,p.2.1.s,by rw[zQI];exact g2,_,by rw[zQI];exact g3,p.2.2.s,by rw[zQI];exact g4,alB λw2 aj ag=>zQj ag bs136.symm rfl rfl λw3 aH bP _=>zQf λw4 ar _=>?_⟩
  have aQ:Pu w1 w3:=aj.andNew bP λi hi=>by rw[show i=w1.heap.size from hi];exact Nat.le_refl _
  have dq:=aQ.trans ar
  have aZ:=ar.blk aH
  have hD4:=hD.pu dq
  have hlt:(p.1 - 1).toNat<rhk.length:=by omega
  obtain⟨x,hx⟩:=zXe hlt
  obtain⟨aR,eaR,_,_⟩:=hD4.bd.rw_.elem zQk hx (o:=0) (v:=.bool x.g) rfl
  have eaR:d.rs.a=some aR:=eaR
  refine⟨d.rs,hD4.recs,_,cl0 aZ,aR,eaR,?_⟩
  rw[zQd (n:=p.1 - 1) (by omega) (by omega)]
  refine⟨by omega,by omega,?_⟩
  have mc:=zXA (d:={ d with rh:=rhk }) hu (c:=p) hpm
  have hap:=(zWv hD4.bd.nd hD4.bd.low).2 u
  have hxv:∀b ∈ zQb x.s,b ∈ vB rhk:=λb hb=>zQN (List.mem_of_getElem? hx) hb
  have hcv:∀z,z=p.2.1∨z=p.2.2->∀b ∈ zQb z.s,b ∈ vB (uH d u):=λz hz b hb=>zQN (List.mem_append_left _ (List.mem_flatMap.2 ⟨p,hpm,by rcases hz with rfl|rfl <;> simp⟩)) hb
  have ep:=eus p hpm
  have e1:hv valk p.2.1=hv val p.2.1:=congrArg (λz:Int × (Rec × Rec)=>z.2.1.v) ep
  have e2:hv valk p.2.2=hv val p.2.2:=congrArg (λz:Int × (Rec × Rec)=>z.2.2.v) ep
  have k1:(hv val p.2.1).length=d.flds.length:=zQ2 hxr.1.1
  have k2:(hv val p.2.2).length=d.flds.length:=zQ2 hxr.1.2
  have exr:(hv valk x).length=d.flds.length:=by
   have h1:=congrArg (λσ:Dsk=>σ.recs[(p.1 - 1).toNat]?) habs
   simp only[zVN (i:=(p.1 - 1).toNat) (k:=p.1) (by omega) hg]at h1
   have h2:(rhk.map (toR valk))[(p.1 - 1).toNat]?=(zQa d val).recs[(p.1 - 1).toNat]?:=h1
   rw[List.getElem?_map,hx]at h2
   exact zQ2 (hI.gr (toR valk x) (List.mem_of_getElem? h2.symm))
  have nr:({ d with rh:=rhk }:zQs).o w1.heap.size=none:=hD.bd.out (Nat.le_refl _)
  refine xQc hD4 (c:=p.2) mc.1 mc.2 hx (λb hb ag=>hap b (hxv b hb) (hcv _ (.inl rfl) b ag)) (λb hb ag=>hap b (hxv b hb) (hcv _ (.inr rfl) b ag)) (by rw[e1,e2,k1,k2]) (by rw[e2,k2,exr]) (by rw[e2,k2];omega) (by rw[e2,k2];exact nf) eaR aZ nr λw6 y val' hys hD6 bb uN=>?_
  have bb:Fr (RV d) w4 w6:=bb
  rw[zQd (by omega) (by omega)]
  refine hJ _ _ ak ⟨by omega,rhk.set (p.1 - 1).toNat y,val',hD6,(hf.trans (Fr.pu dq:Fr (RV d) w1 w4) λi hi _=>hi).trans bb λi hi _=>hi,?_⟩
  have e3:(toR valk p.2.1,toR valk p.2.2)=(toR val p.2.1,toR val p.2.2):=congrArg Prod.snd ep
  have h7:zQa { d with rh:=rhk.set (p.1 - 1).toNat y } val'={ zQa { d with rh:=rhk } valk with recs:=(zQa { d with rh:=rhk } valk).recs.modify (p.1 - 1).toNat (zZZ (toR valk p.2.1,toR valk p.2.2)) }:=uN
  rw[h7,habs,e3]
  have hndk:(((d.ch u).drop k).map Prod.fst).Nodup:=by rw[List.map_drop];exact hnd.drop
  have h8:=zWI (l:=(zQa d val).recs) (ch:=((zQa d val).us u).ch) (i:=(p.1 - 1).toNat) (k:=p.1) (by omega) hndk hg (C:=(toR val p.2.1,toR val p.2.2)) (by rw[eCh,zXM,hgc];rfl)
  have h9:AL.del ((d.ch u).drop k) p.1=(d.ch u).drop (k+1):=by rw[ed];simp[AL.del]
  rw[h9]at h8
  simp only[h8]
 ·have ak:k=(d.ch u).length:=by have:=zQh d1;omega
  subst ak
  rw[List.drop_length,zVH]at habs
  refine yQE hD hu (by show rhk.length+(d.ah u).length<=1000;omega) (by show -(d.at_ u)<=((d.ah u).length:Int);omega) (by show ∀k v,d.lk k=some v->1<=k/\k<=(rhk.length:Int)/\0<=v/\v<4;rw[erl];exact hI.lrL) λw' q d' hN hL ha=>?_
  have hL1:zQ7 w w1 d { d with rh:=rhk } valk:=⟨hD,hf.mono λi hi hlt=>by
   rcases hi with hi|hi
   ·rw[hi];simp
   ·rw[hi];simp,λb hb=>.inl hb,rfl⟩
  refine hR w' q d' valk ?_ (hL1.trans hL) ?_
  ·have e:storeL u (zQa { d with rh:=rhk } valk)=storeL u (zQa d val):=by
    rw[habs];unfold storeL;simp only[zXv]
   rw[e]at hN
   exact hN.low hf.size
  ·rw[ha,habs,zWB]
def xJw(w:World)(d:zQs)(val:Nat->List Val)(u:Int)(force:Bool):Rt:=λe w'=>∃q:SV,e=.returned (.tuple #[.slice q.a q.len q.cap,.int .i64 (storeE u force (zQa d val))])/\
 zX6 w w' q (storeEL u force (zQa d val))/\∃d' val',zQ7 w w' d d' val'/\zQa d' val'=storeES u force (zQa d val)
theorem xJw.bad (h:zQr w d val) {u:Int} {force:Bool} {w1:World} (hp:Pu w w1) {n:Int} (hn:storeE u force (zQa d val)=n) (h0:n ≠ 0):xJw w d val u force (.returned (.tuple #[.slice none 0 0,.int .i64 n])) w1:=
 ⟨⟨none,0,0⟩,by rw[hn],by rw[storeEL,hn,if_neg h0];exact zX6.nil _ _,d,val,zQ7.pu h hp,by
  unfold storeES
  split
  ·next hu=>
   unfold storeE at hn
   rw[if_pos hu]at hn
   rw[storeS,hn,if_neg h0]
  ·rfl⟩
theorem zW8 (h:zQr w d val) (hI:Inv (zQa d val)) {u:Nat} (hu:u<4) {force:Bool} (hc:¬(force=false/\clashK (zQa d val) u ≠ [])) {w1:World} (al:Pu w w1) :
  yXH (xJw w d val (u:Int) force) (some ⟨d.S,0,none⟩) (u:Int) (some (((⟨d.S,0,none⟩:Addr).add 3).add ((u:Int).toNat * 4))) 0 [] w1:=by
 have hU:isU (u:Int)=true:=by simp[isU];omega
 have eE:storeE (u:Int) force (zQa d val)=if busyB (zQa d val) u=true then 12 else 0:=by rw[storeE,if_pos hU,zQI,storeC,if_neg hc]
 have vv:=hI.chl hu
 have hcl:=h.cs_len hu
 have hlr:=hI.lrL
 refine zQ1 (d.ch u).length (λk t w'=>t=(k:Int)/\Pu w1 w'/\∀c ∈ (d.ch u).take k,zWZ d u c.1=false) ⟨rfl,Pu.refl _,by simp⟩ ?_
 rintro k J t w2 hk ⟨ht,aj,hB⟩ hJ
 obtain rfl:t=(k:Int):=ht
 have h2:=h.pu (al.trans aj)
 refine⟨d.cs u,h2.uCs hu,Br.of (λd1=>zQf λw3 am _=>?_) (λd1=>?_)⟩
 ·have ak:k<(d.ch u).length:=by have:=zQm d1;omega
  obtain⟨p,hp⟩:=zXe ak
  have h3:=h2.pu am
  obtain⟨a,ea,hka,g0,_⟩:=h3.chg hu hp
  obtain⟨l,hl,hkl⟩:=h3.lm
  rw[zKk]at g0
  refine⟨some d.L,h3.locks,d.cs u,h3.uCs hu,a,ea,by omega,by omega,p.1,by rw[zQI];exact g0,_,zZ0 hl _,?_⟩
  have goOn:zWZ d u p.1=false->J (IntKind.i64.wrap ((k:Int)+1)) w3:=λhb=>by
   rw[zQd (by omega) (by omega)]
   refine hJ _ _ ak ⟨by omega,aj.trans am,λc hc=>?_⟩
   rw[zQP hp,List.mem_append]at hc
   rcases hc with hc|hc
   ·exact hB c hc
   ·simp at hc;rw[hc];exact hb
  rw[hkl]
  cases hv:d.lk p.1 with
  | none=>exact Br.of (λq=>by cases q) (λ_=>goOn (by unfold zWZ;rw[hv]))
  | some v=>
   have hv2:=hlr p.1 v hv
   refine Br.of (λ_=>Br.of (λq=>?_) (λq=>goOn ?_)) (λq=>?_)
   ·have q:v+1 ≠ (u:Int)+1:=by
     have:=zQ4 q
     rwa [zQd (n:=(u:Int)+1) (by omega) (by omega)]at this
    have hb:busyB (zQa d val) u=true:=by
     rw[zW2,List.any_eq_true]
     exact⟨p,List.mem_of_getElem? hp,by unfold zWZ;rw[hv];simp;omega⟩
    rw[hb]at eE
    exact xJw.bad h ((al.trans aj).trans am) (n:=12) eE (by decide)
   ·have q:v+1=(u:Int)+1:=by
     have:=zQu q
     rwa [zQd (n:=(u:Int)+1) (by omega) (by omega)]at this
    unfold zWZ;rw[hv];simp;omega
   ·have:v+1=0:=zQu q
    omega
 ·have ak:k=(d.ch u).length:=by have:=zQh d1;omega
  subst ak
  rw[List.take_length]at hB
  have hb:busyB (zQa d val) u=false:=by
   rw[zW2,List.any_eq_false]
   intro p hp
   rw[hB p hp];simp
  rw[hb]at eE
  have eE:storeE (u:Int) force (zQa d val)=0:=eE
  have eC:storeC u force (zQa d val)=0:=by rw[storeE,if_pos hU,zQI]at eE;exact eE
  refine zYT h2 hI hu λw' q d' val' hN hL habs=>?_
  exact⟨q,by rw[eE],by rw[storeEL,eE,if_pos rfl,zQI];exact hN.low (al.trans aj).size,d',val',(zQ7.pu h (al.trans aj)).trans hL,by rw[habs,storeES,if_pos hU,zQI,storeS,eC,if_pos rfl]⟩
theorem zYq (h:zQr w d val) (hI:Inv (zQa d val)) (u:Int) (force:Bool):Calls prog 71 #[d.ptr,.int .i64 u,.bool force] w (xJw w d val u force):=by
 refine yKJ _ u force w _ ((zVE h hI u).mono ?_)
 rintro e w1 ⟨q,rfl,hN,al⟩
 refine⟨q,_,rfl,Br.of (λc=>?_) (λc=>?_)⟩
 ·have hu:¬isU u=true:=zJZ c
  have e1:uC u=1:=by rw[uC,if_neg hu]
  rw[e1]
  exact xJw.bad h al (by rw[storeE,if_neg hu]) (by decide)
 have hu:=zKs c
 obtain⟨n,rfl,hn⟩:=zQY hu
 have hql:=hN.len
 rw[clashesL,if_pos hu,List.length_map,zQI]at hql
 refine Br.of (λc1=>Br.of (λc2=>?_) (λc2=>?_)) (λc1=>?_)
 ·have c1:=zQm c1
  have c2:force=false:=by simpa using c2
  have hne:clashK (zQa d val) n ≠ []:=List.length_pos_iff.1 (by omega)
  exact xJw.bad h al (by rw[storeE,if_pos hu,zQI,storeC,if_pos ⟨c2,hne⟩]) (by decide)
 ·have c2:force=true:=by simpa using c2
  exact⟨(u4 hn).1,(u4 hn).2,zW8 h hI hn (λe=>by rw[c2]at e;cases e.1) al⟩
 ·have c1:=zQh c1
  have he:clashK (zQa d val) n=[]:=List.eq_nil_of_length_eq_zero (by omega)
  exact⟨(u4 hn).1,(u4 hn).2,zW8 h hI hn (λe=>e.2 he) al⟩
theorem rGo_c (h:zQr w d val) (hI:Inv (zQa d val)) (u k:Int) :
  Calls prog 63 #[d.ptr,.int .i64 u,.int .i64 k] w λe w'=>e=.returned (.int .i64 (goC u k (zQa d val)))/\∃d' val',zQ7 w w' d d' val'/\zQa d' val'=goS u k (zQa d val):=by
 refine yKq _ u k w _ (Calls.mono (zYb u w) ?_)
 rintro e w1 ⟨rfl,rfl⟩
 have bad:∀{w3:World} (n:Int),Pu w1 w3->goC u k (zQa d val)=n->n ≠ 0->Ending.returned (.int .i64 n)=.returned (.int .i64 (goC u k (zQa d val)))/\∃d' val',zQ7 w1 w3 d d' val'/\zQa d' val'=goS u k (zQa d val):=λ{w3} n hp hn h0=>
  ⟨by rw[hn],d,val,zQ7.pu h hp,by rw[goS,if_pos (by rw[hn];exact h0)]⟩
 refine⟨_,rfl,Br.of (λc=>?_) (λc=>?_)⟩
 ·have hu:¬isU u=true:=by simpa using c
  exact bad 1 (Pu.refl _) (by rw[goC,if_pos hu]) (by decide)
 have hu:isU u=true:=by simpa using c
 obtain⟨n,rfl,hn⟩:=zQY hu
 have eA:((zQa d val).us n).at_=d.at_ n:=rfl
 have e0:goC (n:Int) k (zQa d val)=if seenR (zQa d val) n k=none then 4 else if k=d.at_ n then 0 else leaveC n (zQa d val):=by
  rw[goC,if_neg (by simp[hu]),zQI,eA]
 refine Calls.mono (yXD h hn k (by have:=hI.ah hn;omega)) ?_
 rintro e w2 ⟨rfl,rfl⟩
 refine⟨_,rfl,Br.of (λc1=>?_) (λc1=>?_)⟩
 ·have c1:seenR (zQa d val) n k=none:=by simpa using c1
  exact bad 4 (Pu.refl _) (by rw[e0,if_pos c1]) (by decide)
 have c1:seenR (zQa d val) n k ≠ none:=by simpa using c1
 rw[if_neg c1]at e0
 have fin:∀{w8:World} {d8:zQs} {kD:Nat->List Val},zQ7 w2 w8 d d8 kD->goC (n:Int) k (zQa d val)=0->zQa d8 kD=(if k=d.at_ n then zQa d val else leaveS n (zQa d val))->
   yJq (λe w'=>e=.returned (.int .i64 (goC (n:Int) k (zQa d val)))/\∃d' val',zQ7 w2 w' d d' val'/\zQa d' val'=goS (n:Int) k (zQa d val)) (some ⟨d.S,0,none⟩) (n:Int) k [] w8:=λ{w8 d8 kD} L8 hc hab=>by
  refine⟨(u4 hn).1,(u4 hn).2,?_⟩
  rw[←show(⟨d8.S,0,none⟩:Addr)=⟨d.S,0,none⟩by rw[L8.ptr],zJa,zQc]
  refine L8.sys.own (d':=d8.withAt n k) (by omega) (zJM hn k) rfl rfl (λx hb=>hb.same _ _) λw9 h9 jX hs9=>?_
  refine⟨by rw[hc],_,kD,L8.trans (zQ7.cell L8.sys h9 jX rfl rfl),?_⟩
  have eG:goS (n:Int) k (zQa d val)=(if k=d.at_ n then zQa d val else leaveS n (zQa d val)).setU n { (if k=d.at_ n then zQa d val else leaveS n (zQa d val)).us n with at_:=k }:=by
   rw[goS,if_neg (by rw[hc];simp)]
   simp only[zQI,eA]
  rw[zVS,hab,eG]
 have no:((zQa d val).us n).rows=false∨((zQa d val).us n).emp=true->leaveC n (zQa d val)=0/\leaveS n (zQa d val)=zQa d val:=λhh=>⟨by rw[leaveC,if_pos hh],by rw[leaveS,if_pos hh]⟩
 refine Calls.mono (yVb h hn) ?_
 rintro e w3 ⟨rfl,rfl⟩
 refine⟨_,rfl,Br.of (λc2=>⟨(u4 hn).1,(u4 hn).2,d.at_ n,h.uAt hn,Br.of (λc3=>?_) (λc3=>?_)⟩) (λc2=>?_)⟩
 ·have c3:k ≠ d.at_ n:=zQ4 c3
  refine(yVd h hn (by have:=hI.chl hn;omega) (by have:=hI.ah hn;omega)).mono ?_
  rintro e w4 ⟨rfl,ar⟩
  rw[if_neg c3]at e0
  refine⟨_,rfl,Br.of (λc4=>?_) (λc4=>?_)⟩
  ·have c4:((zQa d val).us n).emp=false:=by simpa using c4
   have hno:¬(((zQa d val).us n).rows=false∨((zQa d val).us n).emp=true):=by rw[c2,c4];simp
   have e1:leaveC n (zQa d val)=storeE (n:Int) false (zQa d val):=by rw[leaveC,if_neg hno,storeE,if_pos hu,zQI]
   have e2:leaveS n (zQa d val)=storeES (n:Int) false (zQa d val):=by rw[leaveS,if_neg hno,storeES,if_pos hu,zQI]
   refine(zYq (h.pu ar) hI (n:Int) false).mono ?_
   rintro e w5 ⟨q,rfl,-,d5,wk,hL,habs⟩
   refine⟨q,_,rfl,Br.of (λc5=>?_) (λc5=>?_)⟩
   ·have c5:storeE (n:Int) false (zQa d val) ≠ 0:=zQ4 c5
    refine⟨by rw[e0,e1],d5,wk,(zQ7.pu h ar).trans hL,?_⟩
    rw[habs,←e2,zJ7 (by rw[e1];exact c5),goS,if_pos (by rw[e0,e1];exact c5)]
   ·have c5:storeE (n:Int) false (zQa d val)=0:=zQu c5
    exact fin ((zQ7.pu h ar).trans hL) (by rw[e0,e1,c5]) (by rw[habs,if_neg c3,e2])
  ·have c4:((zQa d val).us n).emp=true:=by simpa using c4
   exact fin (zQ7.pu h ar) (by rw[e0,(no (.inr c4)).1]) (by rw[if_neg c3,(no (.inr c4)).2])
 ·have c3:k=d.at_ n:=zQu c3
  exact fin (zQ7.refl h) (by rw[e0,if_pos c3]) (by rw[if_pos c3])
 ·refine fin (zQ7.refl h) ?_ ?_
  ·rw[e0,(no (.inl c2)).1];simp
  ·rw[(no (.inl c2)).2];simp
end Go.Proofs.YtcihcbfcgjepfaaGreatDoor
/- Desks: the reference's Append. No condition but those stated. -/
namespace Go.Proofs.YtcihcbfcgjepfaaGreatDoor
open Go.Sh Go.RowKit Tryz
variable {w w' : World} {d d' : zQs} {val : Nat -> List Val}
theorem yWN (h:zQr w d val) {u:Nat} (hu:u<4) {x:zQx} {r':SV} (at':Int) {w5:World} (hst:w5.heap[d.S]?=some (.cells (zZ5 (({ d with rs:=r' }:zQs).withAt u at')) 125)) (hrow:zQl w5 77 2 r' ((d.rh ++ [x]).flatMap zJR))
  (hb:∀b ∈ zQb r',b ∈ zQb d.rs∨w.heap.size<=b) (hf:Fr (λb=>b=d.S∨b ∈ zQb d.rs) w w5) (hx:zQl w 28 3 x.s ((hv val x).flatMap zXJ)) (hxo:∀b ∈ zQb x.s,d.o b=some .V) (hxn:∀b ∈ zQb x.s,b ∉ vB (zQX d)) :
  ∃d',zQ7 w w5 d d' val/\zQa d' val=({ zQa d val with recs:=(zQa d val).recs ++ [toR val x] }:Dsk).setU u { (zQa d val).us u with at_:=at' }:=by
 have oR:=h.bd.oR
 have ne:∀{b:Nat} {κ:zXx},d.o b=some κ->κ ≠ .S->κ ≠ .R->¬(b=d.S∨b ∈ zQb d.rs):=λ{b κ} hb h1 h3 e=>by
  rcases e with e|e
  ·rw[e,h.bd.oS]at hb;exact h1 (Option.some.inj hb).symm
  ·rw[oR b e]at hb;exact h3 (Option.some.inj hb).symm
 have up:∀{b:Nat} {κ:zXx},d.o b=some κ->κ ≠ .R->(if b ∈ zQb r' then some zXx.R else d.o b)=some κ:=λ{b κ} hbo hk=>by
  have hlw:b<w.heap.size:=h.bd.lt b (by rw[hbo];simp)
  rw[if_neg λe=>?_]
  ·exact hbo
  ·rcases hb b e with e|e
   ·rw[oR b e]at hbo;exact hk (Option.some.inj hbo).symm
   ·omega
 have hbd:=h.bd.gen hu (o':=λb=>if b ∈ zQb r' then some .R else d.o b) (rs':=r') (rh':=d.rh ++ [x]) (as':=d.asv u) (ah':=d.ah u) (cs':=d.cs u) (ch':=d.ch u) (C':=d.C u) hf
  (λb κ hbo k1 k2 k3 k4=>⟨ne hbo k1 k2,up hbo k2⟩) (up h.bd.oS (by simp)) hrow (λb ag=>if_pos ag) ((h.bd.aw u hu).fr hf λb hb=>ne (h.bd.oA u hu b hb) (by simp) (by simp)) (λb hb=>up (h.bd.oA u hu b hb) (by simp))
  (λe=>⟨(h.bd.mp e u hu).fr hf (ne (h.bd.oC e u hu) (by simp) (by simp)),up (h.bd.oC e u hu) (by simp)⟩) (λe=>⟨(h.bd.ml e u hu).fr hf λb hb=>ne (h.bd.oK e u hu b hb) (by simp) (by simp),λb hb=>up (h.bd.oK e u hu b hb) (by simp)⟩)
  (λz hz=>by
   simp only[List.mem_append,List.mem_singleton]at hz
   rcases hz with(hz|hz)|hz|rfl
   ·exact .inl ⟨z,zZr hu (List.mem_append_left _ hz),rfl⟩
   ·exact .inl ⟨z,zXj hu hz,rfl⟩
   ·exact .inl ⟨z,zQJ hz,rfl⟩
   ·exact .inr ⟨hx.fr hf λb hb=>ne (hxo b hb) (by simp) (by simp),λb hb=>up (hxo b hb) (by simp)⟩) (by
   have p:=zJo d hu
   have e:zXa d u=d.rh ++ (zXa d u).drop d.rh.length:=by simp[zXa]
   rw[e,←List.append_assoc]at p
   have:=yX6 p h.bd.nd hxn
   simpa[zKO,uH,List.append_assoc] using this) (λb hbo=>by
   by_cases e2:b ∈ zQb r'
   ·exact hrow.lt b e2
   ·rw[if_neg e2]at hbo
    exact Nat.lt_of_lt_of_le (h.bd.lt b hbo) hf.size)
 have hC:zZ5 ({ (d.gen u (λb=>if b ∈ zQb r' then some .R else d.o b) r' (d.rh ++ [x]) (d.asv u) (d.ah u) (d.cs u) (d.ch u) (d.C u))with at_:=λv=>if v=u then at' else d.at_ v }:zQs)=zZ5 (({ d with rs:=r' }:zQs).withAt u at'):=by
  have e:∀{α:Type} (f:Nat->α),(λv=>if v=u then f u else f v)=f:=λf=>by funext v;by_cases e:v=u <;> simp[e]
  simp only[zQs.gen,e]
  rfl
 refine⟨{ (d.gen u (λb=>if b ∈ zQb r' then some .R else d.o b) r' (d.rh ++ [x]) (d.asv u) (d.ah u) (d.cs u) (d.ch u) (d.C u))with at_:=λv=>if v=u then at' else d.at_ v },⟨⟨by rw[hC];exact hst,hbd.same d.mode (λv=>if v=u then at' else d.at_ v),h.sd⟩,hf.mono λi hi _=>?_,λb hbo=>?_,rfl⟩,?_⟩
 ·rcases hi with rfl|hi
  ·rw[h.bd.oS];simp
  ·rw[oR i hi];simp
 ·have hbo:(if b ∈ zQb r' then some zXx.R else d.o b) ≠ none:=hbo
  by_cases e2:b ∈ zQb r'
  ·rcases hb b e2 with h1|h1
   ·left;rw[oR b h1];simp
   ·right;exact h1
  ·rw[if_neg e2]at hbo;exact .inl hbo
 ·simp only[zQa,Dsk.setU,Dsk.mk.injEq]
  refine⟨rfl,rfl,by simp[zQs.gen],?_,rfl⟩
  funext v
  by_cases e:v=u
  ·subst e;simp[zZ9,zQs.gen]
  ·simp[zZ9,zQs.gen,e]
theorem xJz (h:zQr w d val) {u:Nat} (hu:u<4) {x:zQx} {r':SV} (at':Int) {w5:World} (hst:w5.heap[d.S]?=some (.cells (zZ5 (({ d with asv:=λv=>if v=u then r' else d.asv v }:zQs).withAt u at')) 125)) (hrow:zQl w5 77 2 r' ((d.ah u ++ [x]).flatMap zJR))
  (hb:∀b ∈ zQb r',b ∈ zQb (d.asv u)∨w.heap.size<=b) (hf:Fr (λb=>b=d.S∨b ∈ zQb (d.asv u)) w w5) (hx:zQl w 28 3 x.s ((hv val x).flatMap zXJ)) (hxo:∀b ∈ zQb x.s,d.o b=some .V) (hxn:∀b ∈ zQb x.s,b ∉ vB (zQX d)) :
  ∃d',zQ7 w w5 d d' val/\zQa d' val=(zQa d val).setU u { (zQa d val).us u with ap:=((zQa d val).us u).ap ++ [toR val x],at_:=at' }:=by
 have oR:=h.bd.oA u hu
 have ne:∀{b:Nat} {κ:zXx},d.o b=some κ->κ ≠ .S->κ ≠ .A u->¬(b=d.S∨b ∈ zQb (d.asv u)):=λ{b κ} hb h1 h3 e=>by
  rcases e with e|e
  ·rw[e,h.bd.oS]at hb;exact h1 (Option.some.inj hb).symm
  ·rw[oR b e]at hb;exact h3 (Option.some.inj hb).symm
 have up:∀{b:Nat} {κ:zXx},d.o b=some κ->κ ≠ .A u->(if b ∈ zQb r' then some (zXx.A u)else d.o b)=some κ:=λ{b κ} hbo hk=>by
  have hlw:b<w.heap.size:=h.bd.lt b (by rw[hbo];simp)
  rw[if_neg λe=>?_]
  ·exact hbo
  ·rcases hb b e with e|e
   ·rw[oR b e]at hbo;exact hk (Option.some.inj hbo).symm
   ·omega
 have hbd:=h.bd.gen hu (o':=λb=>if b ∈ zQb r' then some (.A u)else d.o b) (rs':=d.rs) (rh':=d.rh) (as':=r') (ah':=d.ah u ++ [x]) (cs':=d.cs u) (ch':=d.ch u) (C':=d.C u) hf
  (λb κ hbo k1 k2 k3 k4=>⟨ne hbo k1 k3,up hbo k3⟩) (up h.bd.oS (by simp)) (h.bd.rw_.fr hf λb hb=>ne (h.bd.oR b hb) (by simp) (by simp)) (λb hb=>up (h.bd.oR b hb) (by simp)) hrow (λb ag=>if_pos ag)
  (λe=>⟨(h.bd.mp e u hu).fr hf (ne (h.bd.oC e u hu) (by simp) (by simp)),up (h.bd.oC e u hu) (by simp)⟩) (λe=>⟨(h.bd.ml e u hu).fr hf λb hb=>ne (h.bd.oK e u hu b hb) (by simp) (by simp),λb hb=>up (h.bd.oK e u hu b hb) (by simp)⟩)
  (λz hz=>by
   simp only[List.mem_append,List.mem_singleton]at hz
   rcases hz with(hz|hz|rfl)|hz
   ·exact .inl ⟨z,zZr hu (List.mem_append_left _ hz),rfl⟩
   ·exact .inl ⟨z,zXj hu hz,rfl⟩
   ·exact .inr ⟨hx.fr hf λb hb=>ne (hxo b hb) (by simp) (by simp),λb hb=>up (hxo b hb) (by simp)⟩
   ·exact .inl ⟨z,zQJ hz,rfl⟩) (by
   have p:=zJo d hu
   have e:zXa d u=d.rh ++ (zXa d u).drop d.rh.length:=by simp[zXa]
   rw[e]at p
   have:=yX6 p h.bd.nd hxn
   simpa[zKO,uH,List.append_assoc] using this) (λb hbo=>by
   by_cases e2:b ∈ zQb r'
   ·exact hrow.lt b e2
   ·rw[if_neg e2]at hbo
    exact Nat.lt_of_lt_of_le (h.bd.lt b hbo) hf.size)
 have hC:zZ5 ({ (d.gen u (λb=>if b ∈ zQb r' then some (.A u)else d.o b) d.rs d.rh r' (d.ah u ++ [x]) (d.cs u) (d.ch u) (d.C u))with at_:=λv=>if v=u then at' else d.at_ v }:zQs)=zZ5 (({ d with asv:=λv=>if v=u then r' else d.asv v }:zQs).withAt u at'):=by
  have e:∀{α:Type} (f:Nat->α),(λv=>if v=u then f u else f v)=f:=λf=>by funext v;by_cases e:v=u <;> simp[e]
  simp only[zQs.gen,e]
  rfl
 refine⟨{ (d.gen u (λb=>if b ∈ zQb r' then some (.A u)else d.o b) d.rs d.rh r' (d.ah u ++ [x]) (d.cs u) (d.ch u) (d.C u))with at_:=λv=>if v=u then at' else d.at_ v },⟨⟨by rw[hC];exact hst,hbd.same d.mode (λv=>if v=u then at' else d.at_ v),h.sd⟩,hf.mono λi hi _=>?_,λb hbo=>?_,rfl⟩,?_⟩
 ·rcases hi with rfl|hi
  ·rw[h.bd.oS];simp
  ·rw[oR i hi];simp
 ·have hbo:(if b ∈ zQb r' then some (zXx.A u)else d.o b) ≠ none:=hbo
  by_cases e2:b ∈ zQb r'
  ·rcases hb b e2 with h1|h1
   ·left;rw[oR b h1];simp
   ·right;exact h1
  ·rw[if_neg e2]at hbo;exact .inl hbo
 ·simp only[zQa,Dsk.setU,Dsk.mk.injEq]
  refine⟨rfl,rfl,rfl,?_,rfl⟩
  funext v
  by_cases e:v=u
  ·subst e;simp[zZ9,zQs.gen]
  ·simp[zZ9,zQs.gen,e]
theorem rAll_c (h:zQr w d val) (hI:Inv (zQa d val)):Calls prog 124 #[d.ptr] w λe w'=>e=.returned (.int .i64 (allN (zQa d val):Nat))/\w'=w:=by
 have jM:=hI.rh
 have hrl:=h.rs_len
 have fG:∀v,v<4->(d.ah v).length<=300:=λv hv=>hI.ah hv
 refine yJy _ w _ ⟨d.rs,h.recs,?_⟩
 refine zQ1 4 (λk t w'=>t.2=(k:Int)/\t.1=((d.rh.length+zJl d k:Nat):Int)/\w'=w) ⟨rfl,by rw[hrl];rfl,rfl⟩ ?_
 rintro k J ⟨t,m⟩ w4 hk ⟨hm,ht,rfl⟩ hJ
 obtain rfl:m=(k:Int):=hm
 obtain rfl:t=((d.rh.length+zJl d k:Nat):Int):=ht
 refine Br.of (λd1=>?_) (λd1=>?_)
 ·have ak:k<4:=by have:=zQm d1;dsimp only at this;omega
  have h1:=fG k ak
  have h2:=h.as_len ak
  have hsum:zJl d k<=300 * k:=by
   clear hJ
   have:∀j,j<=4->zJl d j<=300 * j:=λj=>by
    induction j with
    | zero=>intro _;simp[zJl]
    | succ j ih=>
     intro hj
     have:=ih (by omega)
     have:=fG j (by omega)
     simp only[zJl];omega
   exact this k (by omega)
  refine⟨by omega,by omega,d.asv k,h.uAp ak,?_⟩
  rw[zQd (n:=_+((d.asv k).len:Int)) (by omega) (by omega),zQd (n:=(k:Int)+1) (by omega) (by omega)]
  refine hJ _ _ ak ⟨by simp,?_,rfl⟩
  show _=(((d.rh.length+(zJl d k+(d.ah k).length):Nat)):Int)
  rw[h2];omega
 ·have ak:k=4:=by have:=zQh d1;dsimp only at this;omega
  subst ak
  exact⟨by rw[yQl d val],rfl⟩
def RApP(w:World)(d:zQs)(val:Nat->List Val)(u:Int):Rt:=λe w'=>e=.returned (.tuple #[.int .i64 (appN u (zQa d val)),.int .i64 (appC u (zQa d val))])/\∃d' val',zQ7 w w' d d' val'/\zQa d' val'=appS u (zQa d val)
theorem zJf {w0:World} {d0:zQs} {uU:Nat->List Val} (L:zQ7 w0 w d0 d val) (hI:Inv (zQa d val)) {n:Nat} (hn:n<4) (eC:appC (n:Int) (zQa d0 uU)=if 300<=allN (zQa d val)then 3 else 0)
  (eS:appS (n:Int) (zQa d0 uU)=if 300<=allN (zQa d val)then zQa d val else appendedS n (zQa d val)) :
  Calls prog 124 #[.pointer (some ⟨d0.S,0,none⟩)] w λe bn=>∃kW:Int,e=.returned (.int .i64 kW)/\Br (decide (kW >= 300)) (RApP w0 d0 uU (n:Int) (.returned (.tuple #[.int .i64 0,.int .i64 3])) bn)
   (zQi (some ⟨d0.S,0,none⟩) λpP=>∃di:SV,bn.cell? (pP.add 1)=some (.slice di.a di.len di.cap)/\Calls prog 125 #[.slice di.a di.len di.cap] bn λe j6=>∃fZ:Bool,∃bj:SV,e=.returned (.agg #[.bool fZ,.slice bj.a bj.len bj.cap])/\
    alE (.cells #[.bool false,.slice none 0 0] 77) j6 λr8 iK=>stA prog 77 (⟨r8,0,none⟩:Addr) #[.bool fZ,.slice bj.a bj.len bj.cap] iK λiF=>yV5 (RApP w0 d0 uU (n:Int)) (some ⟨d0.S,0,none⟩) (n:Int) (some (⟨r8,0,none⟩:Addr)) [] iF):=by
 have h3:=L.sys
 have hu:isU (n:Int)=true:=by simp[isU];omega
 rw[←show(⟨d.S,0,none⟩:Addr)=⟨d0.S,0,none⟩by rw[L.ptr]]
 refine Calls.mono (rAll_c h3 hI) ?_
 rintro e w4 ⟨rfl,rfl⟩
 refine⟨_,rfl,Br.of (λc2=>?_) (λc2=>?_)⟩
 ·have c2:300<=allN (zQa d val):=by have:=zQm c2;omega
  rw[if_pos c2]at eC eS
  exact⟨by rw[appN,eC,if_neg (by decide)],d,val,L,by rw[eS]⟩
 have c2:¬300<=allN (zQa d val):=by have:=zQh c2;omega
 rw[if_neg c2]at eC eS
 have jM:=hI.rh
 have hrl:=h3.rs_len
 have fG:∀v,v<4->(d.ah v).length<=300:=λv hv=>hI.ah hv
 have dA:d.flds.length<=16:=hI.f16
 have nf:0<d.flds.length:=List.length_pos_iff.2 (zQG hI.vf).1
 refine⟨d.fs,h3.flds,(zY4 (h3.fld hI.vf) dA).mono ?_⟩
 rintro e w5 ⟨q,rfl,hq,aB⟩
 refine⟨_,q,rfl,alB λw6 bx dx=>zQj dx yQk.symm rfl rfl λw7 bQ dg _=>?_⟩
 have dr:Pu w5 w7:=bx.andNew dg λi hi=>by rw[show i=w5.heap.size from hi];exact Nat.le_refl _
 have fm:=aB.trans dr
 have h7:=h3.pu fm
 obtain⟨aq,haq⟩:=zX8 (i:=0) hq.1 (by simpa using nf)
 have bq:zQb q=[aq.block]:=by simp[zQb,haq]
 have q1:w4.heap.size<=aq.block:=hq.2 _ (by rw[bq];simp)
 have q2:aq.block<w5.heap.size:=hq.1.lt _ (by rw[bq];simp)
 have oq:d.o aq.block=none:=h3.bd.out q1
 have z57:=dr.size
 have own:∀w9,Pu w7 w9->zQr w9 (d.ad aq.block) (zXE val aq.block (d.flds.map zQ9)):=λw9 hp=>by
  have h9:=h7.pu hp
  have z:=hp.size
  exact⟨h9.st,h9.bd.ad oq (by omega) _,h9.sd⟩
 have xv:hv (zXE val aq.block (d.flds.map zQ9)) ⟨false,q⟩=d.flds.map zQ9:=zZs haq rfl
 have xo:∀b ∈ zQb (⟨false,q⟩:zQx).s,(d.ad aq.block).o b=some .V:=λb hb=>by
  have hb:b ∈ zQb q:=hb
  rw[bq]at hb;simp at hb
  show(if b=aq.block then _ else _)=_
  rw[if_pos hb]
 have xn:∀b ∈ zQb (⟨false,q⟩:zQx).s,b ∉ vB (zQX (d.ad aq.block)):=λb hb hx=>by
  have hb:b ∈ zQb q:=hb
  rw[bq]at hb;simp at hb
  have:=h3.bd.oV b hx
  rw[hb,oq]at this;cases this
 have ha9:zQa (d.ad aq.block) (zXE val aq.block (d.flds.map zQ9))=zQa d val:=zVB h3.bd oq
 have xr:toR (zXE val aq.block (d.flds.map zQ9)) ⟨false,q⟩=blankR (zQa d val):=by rw[toR,xv];rfl
 have L9:∀w9,Pu w7 w9->zQ7 w0 w9 d0 (d.ad aq.block) (zXE val aq.block (d.flds.map zQ9)):=λw9 hp=>by
  refine L.trans ⟨own w9 hp,Fr.pu (fm.trans hp),λb hb=>?_,rfl⟩
  have hb:(if b=aq.block then some zXx.V else d.o b) ≠ none:=hb
  by_cases e:b=aq.block
  ·right;omega
  ·rw[if_neg e]at hb;exact .inl hb
 have fin:∀{wF:World} {dF:zQs} {valF:Nat->List Val} (at':Int),zQ7 w0 wF d0 dF valF->zQa dF valF=appendedS n (zQa d val)->((appendedS n (zQa d val)).us n).at_=at'->RApP w0 d0 uU (n:Int) (.returned (.tuple #[.int .i64 at',.int .i64 0])) wF:=λ{wF dF valF}at' LF hab hat=>
  ⟨by rw[appN,eC,if_pos rfl,eS,zQI,hat],dF,valF,LF,by rw[hab,eS]⟩
 have eM:((zQa d val).us n).mode=d.mode n:=rfl
 refine⟨(u4 hn).1,(u4 hn).2,_,h7.uMode hn,Br.of (λc3=>zQf λw8 aV _=>?_) (λc3=>zQf λw8 aV _=>?_)⟩
 ·have c3:d.mode n=0:=zQA c3
  have h8:=h7.pu aV
  have dz:=aV.blk bQ
  refine⟨λy=>Pu w8 y,Pu.refl _,d.rs,λy hy=>hy.cell h8.recs,_,λy hy=>cl (hy.blk dz) 0,q,λy hy=>cl (hy.blk dz) 1,alB λw9 bR kR=>⟨bR,?_⟩⟩
  have h9:=own w9 (aV.trans bR)
  have kE:zQl w9 77 2 d.rs (d.rh.flatMap zJR):=h9.bd.rw_
  obtain⟨r',au,hra,dt,dy,gV,_⟩:=zQ6 (P:=prog) (ty:=23) xZy zJd rfl (by omega) kE (A:=some ⟨w8.heap.size,0,none⟩) (m:=1) (c:=1) (news:=[.bool false,.slice q.a q.len q.cap]) rfl (λj y hy=>⟨_,rfl,by rw[cl kR];simpa using hy⟩) (λy hy=>by simp at hy;rcases hy with rfl|rfl <;> rfl) (by show(d.rs.len+1) * (32+1)<=_;omega)
  refine⟨r',au,hra,?_⟩
  have hrb:∀b ∈ zQb r',b ∈ zQb d.rs∨w9.heap.size<=b:=gV
  have nSr:∀b ∈ zQb d.rs,¬b=d.S:=λb hb e=>by
   have:=h3.bd.oR b hb;rw[e,h3.bd.oS]at this;cases this
  have nSr':∀b ∈ zQb r',¬b=d.S:=λb hb e=>by
   rcases hrb b hb with h1|h1
   ·exact nSr b h1 e
   ·have:=h9.bd.lt d.S (by have:=h9.bd.oS;rw[show(d.ad aq.block).S=d.S from rfl]at this;rw[this];simp)
    omega
  have kF:au.heap[d.S]?=some (.cells (zZ5 d) 125):=dy.blk h9.st λe=>nSr _ e rfl
  rw[zQn,zQc]
  refine zQt kF (by show 0+2<20;omega) λav gJ bK=>zQf λao cV _=>?_
  have c9:Fr (·=d.S) au av:=by rw[gJ];exact Fr.cell au _ _ _
  have bK:av.heap[d.S]?=some (.cells (zZ5 { d with rs:=r' }) 125):=bK
  have bL:=cV.blk bK
  refine⟨r',by rw[zQc,zQq bL];rfl,(u4 hn).1,(u4 hn).2,?_⟩
  rw[zJa,zQc]
  refine zQt bL (by show 3+n * 4+1<20;omega) λaE m9 jR=>?_
  have dp:Fr (·=d.S) ao aE:=by rw[m9];exact Fr.cell ao _ _ _
  rw[zJM hn]at jR
  have er:r'.len=d.rh.length+1:=by
   have h1:=dt.1
   simp only[List.length_append,zQ0 zQk,List.length_cons,List.length_nil]at h1
   omega
  have eat:((r'.len:Nat):Int)=(d.rh.length:Int)+1:=by rw[er];omega
  have gi:zQl aE 77 2 r' ((d.rh ++ [(⟨false,q⟩:zQx)]).flatMap zJR):=by
   rw[List.flatMap_append,List.flatMap_singleton]
   exact((dt.fr c9 nSr').pu cV).fr dp nSr'
  have hF:Fr (λb=>b=d.S∨b ∈ zQb d.rs) w9 aE:=(((dy.mono (B':=λb=>b=d.S∨b ∈ zQb d.rs) λi hi _=>.inr hi).trans c9 λi hi _=>.inl hi).trans (Fr.pu cV:Fr (λb=>b=d.S∨b ∈ zQb d.rs) av ao) λi hi _=>hi).trans dp λi hi _=>.inl hi
  obtain⟨dF,hLF,habF⟩:=yWN h9 hn ((r'.len:Nat):Int) jR gi hrb hF (by rw[xv];exact(hq.1.pu dr).pu (aV.trans bR)) xo xn
  refine⟨(u4 hn).1,(u4 hn).2,((r'.len:Nat):Int),by rw[zJa,zQc,zQq jR];exact(yZb (d:=({ d with rs:=r' }:zQs).withAt n ((r'.len:Nat):Int)) hn).trans (by simp[zQs.withAt]),?_⟩
  rw[ha9,xr]at habF
  have eA:appendedS n (zQa d val)=({ zQa d val with recs:=(zQa d val).recs ++ [blankR (zQa d val)] }:Dsk).setU n { (zQa d val).us n with at_:=((zQa d val).recs.length:Int)+1 }:=by
   unfold appendedS;rw[eM,if_pos c3]
  have eL:(zQa d val).recs.length=d.rh.length:=by simp[zQa]
  refine fin _ ((L9 w9 (aV.trans bR)).trans hLF) ?_ ?_
  ·rw[habF,eA,eL,eat]
  ·rw[eA,eL,eat];simp[Dsk.setU]
 ·have c3:d.mode n ≠ 0:=zQo c3
  have h8:=h7.pu aV
  have dz:=aV.blk bQ
  refine⟨λy=>Pu w8 y,Pu.refl _,(u4 hn).1,(u4 hn).2,d.asv n,λy hy=>hy.cell (h8.uAp hn),_,λy hy=>cl (hy.blk dz) 0,q,λy hy=>cl (hy.blk dz) 1,?_⟩
  rw[zQn]
  refine alB λw9 bR kR=>⟨bR,?_⟩
  have h9:=own w9 (aV.trans bR)
  have kE:zQl w9 77 2 (d.asv n) ((d.ah n).flatMap zJR):=h9.bd.aw n hn
  have hal:=h3.as_len hn
  have hal3:=fG n hn
  obtain⟨r',au,hra,dt,dy,gV,_⟩:=zQ6 (P:=prog) (ty:=23) xZy zJd rfl (by omega) kE (A:=some ⟨w8.heap.size,0,none⟩) (m:=1) (c:=1) (news:=[.bool false,.slice q.a q.len q.cap]) rfl (λj y hy=>⟨_,rfl,by rw[cl kR];simpa using hy⟩) (λy hy=>by simp at hy;rcases hy with rfl|rfl <;> rfl) (by show((d.asv n).len+1) * (32+1)<=_;omega)
  refine⟨r',au,hra,(u4 hn).1,(u4 hn).2,?_⟩
  have hrb:∀b ∈ zQb r',b ∈ zQb (d.asv n)∨w9.heap.size<=b:=gV
  have nSr:∀b ∈ zQb (d.asv n),¬b=d.S:=λb hb e=>by
   have:=h3.bd.oA n hn b hb;rw[e,h3.bd.oS]at this;cases this
  have nSr':∀b ∈ zQb r',¬b=d.S:=λb hb e=>by
   rcases hrb b hb with h1|h1
   ·exact nSr b h1 e
   ·have:=h9.bd.lt d.S (by have:=h9.bd.oS;rw[show(d.ad aq.block).S=d.S from rfl]at this;rw[this];simp)
    omega
  have kF:au.heap[d.S]?=some (.cells (zZ5 d) 125):=dy.blk h9.st λe=>nSr _ e rfl
  rw[zJa,zQc]
  refine zQt kF (by show 3+n * 4+3<20;omega) λav gJ bK=>zQf λao cV _=>?_
  have c9:Fr (·=d.S) au av:=by rw[gJ];exact Fr.cell au _ _ _
  rw[zY1 hn]at bK
  have bL:=cV.blk bK
  refine⟨(u4 hn).1,(u4 hn).2,r',by rw[zJa,zQc,zQq bL];exact(yWu (d:={ d with asv:=λv=>if v=n then r' else d.asv v }) hn).trans (by simp),(u4 hn).1,(u4 hn).2,?_⟩
  have er:r'.len=(d.ah n).length+1:=by
   have h1:=dt.1
   simp only[List.length_append,zQ0 zQk,List.length_cons,List.length_nil]at h1
   omega
  rw[zQd (n:=0 - ((r'.len:Nat):Int)) (by omega) (by omega),zJa,zQc]
  refine zQt bL (by show 3+n * 4+1<20;omega) λaE m9 jR=>?_
  have dp:Fr (·=d.S) ao aE:=by rw[m9];exact Fr.cell ao _ _ _
  rw[zJM hn]at jR
  have eat:0 - ((r'.len:Nat):Int)=-((d.ah n).length:Int) - 1:=by rw[er];omega
  have gi:zQl aE 77 2 r' ((d.ah n ++ [(⟨false,q⟩:zQx)]).flatMap zJR):=by
   rw[List.flatMap_append,List.flatMap_singleton]
   exact((dt.fr c9 nSr').pu cV).fr dp nSr'
  have hF:Fr (λb=>b=d.S∨b ∈ zQb (d.asv n)) w9 aE:=(((dy.mono (B':=λb=>b=d.S∨b ∈ zQb (d.asv n)) λi hi _=>.inr hi).trans c9 λi hi _=>.inl hi).trans (Fr.pu cV:Fr (λb=>b=d.S∨b ∈ zQb (d.asv n)) av ao) λi hi _=>hi).trans dp λi hi _=>.inl hi
  obtain⟨dF,hLF,habF⟩:=xJz h9 hn (0 - ((r'.len:Nat):Int)) jR gi hrb hF (by rw[xv];exact(hq.1.pu dr).pu (aV.trans bR)) xo xn
  refine⟨(u4 hn).1,(u4 hn).2,0 - ((r'.len:Nat):Int),by rw[zJa,zQc,zQq jR];exact(yZb (d:=({ d with asv:=λv=>if v=n then r' else d.asv v }:zQs).withAt n (0 - ((r'.len:Nat):Int))) hn).trans (by simp[zQs.withAt]),?_⟩
  rw[ha9,xr]at habF
  have eA:appendedS n (zQa d val)=(zQa d val).setU n { (zQa d val).us n with ap:=((zQa d val).us n).ap ++ [blankR (zQa d val)],at_:=-((d.ah n).length:Int) - 1 }:=by
   unfold appendedS;rw[eM,if_neg c3,zXr]
  refine fin _ ((L9 w9 (aV.trans bR)).trans hLF) ?_ ?_
  ·rw[habF,eA,eat]
  ·rw[eA,eat];simp[Dsk.setU]
theorem yK7 (h:zQr w d val) (hI:Inv (zQa d val)) (u:Int):Calls prog 66 #[d.ptr,.int .i64 u] w (RApP w d val u):=by
 refine yKn _ u w _ (Calls.mono (zYb u w) ?_)
 rintro e w1 ⟨rfl,rfl⟩
 refine⟨_,rfl,Br.of (λc=>?_) (λc=>?_)⟩
 ·have hu:¬isU u=true:=by simpa using c
  have e2:appC u (zQa d val)=1:=by rw[appC,if_pos hu]
  exact⟨by rw[appN,e2,if_neg (by decide)],d,val,zQ7.refl h,by rw[appS,if_pos hu]⟩
 have hu:isU u=true:=by simpa using c
 obtain⟨n,rfl,hn⟩:=zQY hu
 have eC:appC (n:Int) (zQa d val)=if leaveC n (zQa d val) ≠ 0 then leaveC n (zQa d val)else if 300<=allN (leaveS n (zQa d val))then 3 else 0:=by
  rw[appC,if_neg (by simp[hu]),zQI]
 have eS:appS (n:Int) (zQa d val)=if leaveC n (zQa d val) ≠ 0 then zQa d val else if 300<=allN (leaveS n (zQa d val))then leaveS n (zQa d val)else appendedS n (leaveS n (zQa d val)):=by
  rw[appS,if_neg (by simp[hu]),zQI]
 have no:((zQa d val).us n).rows=false∨((zQa d val).us n).emp=true->(appC (n:Int) (zQa d val)=if 300<=allN (zQa d val)then 3 else 0)/\(appS (n:Int) (zQa d val)=if 300<=allN (zQa d val)then zQa d val else appendedS n (zQa d val)):=λhh=>by
  have e1:leaveC n (zQa d val)=0:=by rw[leaveC,if_pos hh]
  have e2:leaveS n (zQa d val)=zQa d val:=by rw[leaveS,if_pos hh]
  rw[eC,eS,e1,e2]
  exact⟨if_neg (by simp),if_neg (by simp)⟩
 refine Calls.mono (yVb h hn) ?_
 rintro e w2 ⟨rfl,rfl⟩
 refine⟨_,rfl,Br.of (λc2=>?_) (λc2=>?_)⟩
 ·refine(yVd h hn (by have:=hI.chl hn;omega) (by have:=hI.ah hn;omega)).mono ?_
  rintro e w4 ⟨rfl,ar⟩
  refine⟨_,rfl,Br.of (λc4=>?_) (λc4=>?_)⟩
  ·have c4:((zQa d val).us n).emp=false:=by simpa using c4
   have hno:¬(((zQa d val).us n).rows=false∨((zQa d val).us n).emp=true):=by rw[c2,c4];simp
   have e1:leaveC n (zQa d val)=storeE (n:Int) false (zQa d val):=by rw[leaveC,if_neg hno,storeE,if_pos hu,zQI]
   have e2:leaveS n (zQa d val)=storeES (n:Int) false (zQa d val):=by rw[leaveS,if_neg hno,storeES,if_pos hu,zQI]
   refine(zYq (h.pu ar) hI (n:Int) false).mono ?_
   rintro e w5 ⟨q,rfl,-,d5,wk,hL,habs⟩
   refine⟨q,_,rfl,Br.of (λc5=>?_) (λc5=>?_)⟩
   ·have c5:storeE (n:Int) false (zQa d val) ≠ 0:=zQ4 c5
    have c6:leaveC n (zQa d val) ≠ 0:=by rw[e1];exact c5
    rw[if_pos c6]at eC eS
    refine⟨by rw[appN,eC,if_neg c6,e1],d5,wk,(zQ7.pu h ar).trans hL,?_⟩
    rw[habs,←e2,zJ7 c6,eS]
   ·have c5:storeE (n:Int) false (zQa d val)=0:=zQu c5
    have c6:leaveC n (zQa d val)=0:=by rw[e1];exact c5
    rw[if_neg (by simp[c6])]at eC eS
    have hI5:Inv (zQa d5 wk):=by rw[habs];exact hI.storeE _ _
    rw[e2,←habs]at eC eS
    exact zJf ((zQ7.pu h ar).trans hL) hI5 hn eC eS
  ·have c4:((zQa d val).us n).emp=true:=by simpa using c4
   exact zJf (zQ7.pu h ar) hI hn (no (.inr c4)).1 (no (.inr c4)).2
 ·exact zJf (zQ7.refl h) hI hn (no (.inl c2)).1 (no (.inl c2)).2
end Go.Proofs.YtcihcbfcgjepfaaGreatDoor
