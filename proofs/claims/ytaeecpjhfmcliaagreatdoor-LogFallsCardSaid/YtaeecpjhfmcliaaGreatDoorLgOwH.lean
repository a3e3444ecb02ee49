import Derived.Test.YtaeecpjhfmcliaaGreatDoorLgOwG
import Derived.Test.YtaeecpjhfmcliaaGreatDoorLgPrB
import Derived.Laws.LoneSync
/- The log: the reference's copies of records and tables. No condition but those stated. -/
set_option maxRecDepth 100000
set_option linter.unusedVariables false
set_option linter.unusedSimpArgs false
namespace Go.Proofs.YtaeecpjhfmcliaaGreatDoor
open Go.Sh Go.RowKit Tryz
variable {w w' : World}
theorem zKI{g:Bool}{s:SV}{v:List Val}(h:RdV w s v)(hl:v.length<=1000000):Calls prog 102 #[.agg #[.bool g,slV s]] w λe w'=>∃q:SV,e=.returned (.agg #[.bool g,slV q])/\zJF w w' q v/\Pu w w':=by
 refine yVE _ _ w _ (alB λw1 aq ay=>alB λw2 ar aN=>zQc λw3 ax _=>?_)
 have bn:=ar.trans ax
 have aV:=aq.trans bn
 have jX:=bn.blk ay
 have qa:=ax.blk aN
 have h3:=h.pu aV
 have hsl:=h.len
 obtain⟨q,w4,hra,hrow,gR,hblk,_⟩:=zQy (P:=prog) (ty:=38) vu38 vi73 rfl (by decide) (zQl.nil w3 73 3) (A:=s.a) (m:=s.len) (c:=s.cap) (news:=v.flatMap zVA) (by rw[zQ2 zXA,hsl]) (zJw zXA (by decide) λi x hx=>by
  obtain⟨a,ha,c0,c1,c2⟩:=h3.get i x hx
  refine⟨a,ha,λo u hu=>?_⟩
  rcases o with _|_|_|o <;> simp[zVA]at hu <;> subst hu <;> assumption) (λu hu=>by
  obtain⟨y,_,hy⟩:=List.mem_flatMap.1 hu
  simp[zVA]at hy
  rcases hy with rfl|rfl|rfl <;> rfl) (by show(0+s.len) * (32+1)<=_;omega)
 rw[List.nil_append]at hrow
 have pb:Pu w3 w4:=gR.toPu λi hi=>by simp[zQe]at hi
 have ng:w.heap.size<w1.heap.size:=zQx ay
 refine⟨λu=>Pu w3 u,Pu.refl _,g,λu hu=>cl0 (hu.blk jX),s,λu hu=>cl (hu.blk jX) 1,q,w4,hra,pb,zQi (pb.blk qa) yWB.symm rfl rfl λw5 bu cL _=>⟨_,cl bu 0,q,cl bu 1,q,rfl,⟨hrow.fr cL λb hb e=>?_,λb hb=>?_⟩,(aV.trans pb).andNew cL λi hi=>by rw[show i=_ from hi];omega⟩⟩
 ·exact hrow.other (pb.blk qa) (by decide) (by rw[←show b=_ from e];exact hb)
 ·rcases hblk b hb with hb|hb
  ·simp[zQe]at hb
  ·have:=aV.size;omega
theorem yZb {w0:World} {r1 r2 r3:Nat} {t:Tbl} {f r qf:SV} (h:zX6 w0 r t.recs) (o9:R64 t.recs) (hn:t.recs.length<=300) (hv:zQh t=0) (S0:ChS w0 r3 r2 t qf [] w) (ay:w.heap[r1]?=some (.cells #[.int .i64 t.page,slV f,slV r] 35)) (mJ:r1 ≠ r3) (mY:r1 ≠ r2) :
  xJi (λe w'=>∃f' r':SV,e=.returned (zWR t f' r')/\zJn w0 w' t f' r'/\Pu w0 w') (some ⟨r1,0,none⟩) (some ⟨r2,0,none⟩) (some ⟨r3,0,none⟩) 0 [] w:=by
 have hrl:=h.len
 refine zQw t.recs.length (λk u w'=>u=(k:Int)/\ChS w0 r3 r2 t qf (t.recs.take k) w'/\w'.heap[r1]?=some (.cells #[.int .i64 t.page,slV f,slV r] 35)) ⟨rfl,by simpa using S0,ay⟩ ?_
 rintro k J u wa hk ⟨hu,hS,xJ⟩ hJ
 obtain rfl:u=(k:Int):=hu
 refine⟨r,cl xJ 2,Br.of (λc=>zQc λwb hpb _=>?_) (λc=>?_)⟩
 ·have hkn:k<t.recs.length:=by have:=zQk c;omega
  obtain⟨x,hx⟩:=zQM hkn
  have hSb:=hS.on hpb
  obtain⟨s,g1,g2⟩:=hSb.ex
  have ha1b:=hpb.blk xJ
  obtain⟨a,q,ha,_,hV,c0,c1⟩:=zWi (h.pu hSb.pu) hx
  refine⟨λu=>Pu wb u,Pu.refl _,s,λu hu=>cl (hu.blk g1) 2,r,λu hu=>cl (hu.blk ha1b) 2,a,ha,by omega,by omega,x.gone,λu hu=>hu.cell (by rw[zXh];exact c0),q,λu hu=>hu.cell (by rw[zXh];exact c1),(zKI (RdV.of hV) (o9 x (List.mem_of_getElem? hx)).2).mono ?_⟩
  rintro e wc ⟨q',rfl,hq',hpc⟩
  refine⟨_,q',rfl,hpc,alB λwd hpd hbd=>⟨hpc.trans hpd,?_⟩⟩
  have hSd:=hSb.on (hpc.trans hpd)
  have g1d:=(hpc.trans hpd).blk g1
  have g2d:=g2.pu (hpc.trans hpd)
  obtain⟨s',we,hre,ne,hfe⟩:=g2d.push (g:=x.gone) (vs:=x.v) hSd.pu.size ((hq'.pu hpd).low hSb.pu.size) hbd rfl (by rw[List.length_take];omega)
  have nk:∀{b:Nat} {c:Array Value},wd.heap[b]?=some (.cells c 35)->¬b ∈ zQe s:=λhb hk=>by obtain⟨qs,k1,_⟩:=g2d;exact k1.other hb (by decide) hk
  have g1e:=hfe.blk g1d (nk g1d)
  refine⟨s',we,hre,zQt g1e (by show 2<3;omega) λwf hwf hbf=>?_⟩
  have hff:Fr (·=r3) we wf:=by rw[hwf];exact Fr.cell we _ _ _
  have hb2e:=hfe.blk hSd.b4 (nk hSd.b4)
  have ha1d:=(hpc.trans hpd).blk ha1b
  have ha1e:=hfe.blk ha1d (nk ha1d)
  have hqe:zKH w0 we qf t.fields:=hSd.qf.fr hfe λk hk e=>by obtain⟨qs,k1,_⟩:=g2d;exact zQq hSd.qf.1 k1 (by decide) k hk e
  rw[zQa (by omega) (by omega)]
  refine hJ _ _ hkn ⟨rfl,⟨⟨s',hbf,?_⟩,hff.blk hb2e (Ne.symm hSd.ne),hqe.fr hff λk hk e=>hqe.1.other g1e (by decide) (by rw[←show k=r3 from e];exact hk),(hSd.pu.andNew hfe g2d.own).andNew hff λi hi=>by rw[show i=_ from hi];exact hSd.z2,hSd.z2,hSd.z4,hSd.ne⟩,hff.blk ha1e mJ⟩
  rw[zQB hx]
  exact ne.other hff g1e (by decide) (by decide)
 ·have hkn:k=t.recs.length:=by have:=zQd c;omega
  subst hkn
  rw[List.take_length]at hS
  obtain⟨s,g1,g2⟩:=hS.ex
  refine⟨_,cl g1 0,qf,cl g1 1,s,cl g1 2,zQi hS.b4 zKS.symm rfl rfl λwz hbz hfz _=>⟨_,cl hbz 0,qf,cl hbz 1,s,cl hbz 2,qf,s,rfl,⟨hS.qf.fr hfz λk hk e=>hS.qf.1.other hS.b4 (by decide) (by rw[←show k=_ from e];exact hk),g2.other hfz hS.b4 (by decide) (by decide)⟩,hS.pu.andNew hfz λi hi=>by rw[show i=_ from hi];exact hS.z4⟩⟩
theorem zYO{t:Tbl}{f r:SV}(h:zXz w t f r)(hv:zQh t=0):Calls prog 71 #[zWR t f r] w λe w'=>∃f' r':SV,e=.returned (zWR t f' r')/\zJn w w' t f' r'/\Pu w w':=by
 have ja:=(zJc.of hv).n16
 have cK:=(zQL.of hv).n300
 have hfl:=h.fields.len
 refine yY3 _ _ _ w _ (alB λw1 aq ay=>alB λw2 ar aN=>zQc λw3 ax _=>?_)
 have bn:=ar.trans ax
 have aV:=aq.trans bn
 have jX:=bn.blk ay
 have qa:=ax.blk aN
 have ng:w.heap.size<w1.heap.size:=zQx ay
 have lt2:w1.heap.size<w2.heap.size:=zQx aN
 have z3:=ax.size
 have app:∀{wz:World},Pu w wz->∃(q:SV) (wy:World),(Builtin.append_ #[32,32] 32 #[.slice none 0 0,.slice f.a f.len f.cap]).run prog wz=.ok (slV q) wy/\zKH w wy q t.fields/\Pu wz wy:=λ{wz} hpz=>by
  have hz:=h.fields.pu hpz
  obtain⟨q,wy,hra,hrow,hfy,hblk,_⟩:=zQy (P:=prog) (ty:=32) vu32 vi129 rfl (by decide) (zQl.nil wz 129 4) (A:=f.a) (m:=f.len) (c:=f.cap) (news:=t.fields.flatMap zVT) (by rw[zQ2 zZK,hfl]) (zJw zZK (by decide) λi x hx=>by
   obtain⟨a,ha,_,_,_,_,c0,c1,c2,c3⟩:=zJd hz hx
   refine⟨a,ha,λo u hu=>?_⟩
   rcases o with _|_|_|_|o <;> simp[zVT]at hu <;> subst hu <;> assumption) (λu hu=>by
   obtain⟨y,_,hy⟩:=List.mem_flatMap.1 hu
   simp[zVT]at hy
   rcases hy with rfl|rfl|rfl|rfl <;> rfl) (by show(0+f.len) * (40+1)<=_;omega)
  rw[List.nil_append]at hrow
  refine⟨q,wy,hra,⟨hrow,λb hb=>?_⟩,hfy.toPu λi hi=>by simp[zQe]at hi⟩
  rcases hblk b hb with hb|hb
  ·simp[zQe]at hb
  ·have:=hpz.size;omega
 refine⟨λu=>Pu w3 u,Pu.refl _,t.page,λu hu=>cl0 (hu.blk jX),f,λu hu=>cl (hu.blk jX) 1,?_,?_⟩
 ·obtain⟨q,w4,hra,hq,aK⟩:=app aV
  refine⟨q,w4,hra,aK,alB λw5 aU bu=>⟨aK.trans aU,zQi bu zKS.symm rfl rfl λw6 fV iN _=>?_⟩⟩
  have hp46:Pu w4 w6:=aU.andNew iN λi hi=>by rw[show i=_ from hi];exact Nat.le_refl _
  have cx:=aK.trans hp46
  have z4:=aK.size
  exact yZb (t:=t) (qf:=q) h.recs (zZi hv) cK hv ⟨⟨⟨none,0,0⟩,fV,zKb.nil _ _⟩,cx.blk qa,hq.pu hp46,aV.trans cx,by omega,by omega,by omega⟩ (cx.blk jX) (by omega) (by omega)
 ·refine alB λw5 aU bu=>⟨aU,?_⟩
  obtain⟨q,w4,hra,hq,aK⟩:=app (aV.trans aU)
  refine⟨q,w4,hra,aU.trans aK,zQi (aK.blk bu) zKS.symm rfl rfl λw6 fV iN _=>?_⟩
  have cx:Pu w3 w6:=(aU.trans aK).andNew iN λi hi=>by rw[show i=_ from hi];exact Nat.le_refl _
  have sN:zKH w w6 q t.fields:=hq.fr iN λk hk e=>hq.1.other (aK.blk bu) (by decide) (by rw[←show k=_ from e];exact hk)
  exact yZb (t:=t) (qf:=q) h.recs (zZi hv) cK hv ⟨⟨⟨none,0,0⟩,fV,zKb.nil _ _⟩,cx.blk qa,sN,aV.trans cx,by omega,by omega,by omega⟩ (cx.blk jX) (by omega) (by omega)
end Go.Proofs.YtaeecpjhfmcliaaGreatDoor
/- The log: what is told of records changes a table. No condition but those stated. -/
namespace Go.Proofs.YtaeecpjhfmcliaaGreatDoor
open Go.Sh Go.RowKit Tryz
variable {w w' : World}
theorem zWt.newR{w0:World}{t:Tbl}{h:HT}(ht:zWt w0 w t h):zKb w0 w h.r t.recs:=
 ⟨h.hs,ht.tab.rw_,ht.rn,ht.tab.len,λi r x hr hx=>⟨(ht.tab.rec_ i x r hx hr).1,(ht.tab.rec_ i x r hx hr).2,λb hb=>ht.vn b (zVb (List.mem_of_getElem? hx) hb)⟩⟩
theorem xXb{t:Tbl}{f r s:SV}{body:List UInt8}(h:zXz w t f r)(hv:zQh t=0)(hb:ByV w s body)(hbl:body.length<=1000000000):Calls prog 89 #[zWR t f r,slV s] w (kQe w t body):=by
 have hR:=zQL.of hv
 have ho:=zJc.of hv
 have hl:=hb.len
 have hc:=hb.cap
 have mV:=ho.w2
 have vR:1<=zXK t.fields:=by have:=zJk (WOk.of ho.all);unfold zXK;omega
 obtain⟨size,hsz⟩:∃size,size=(zXK t.fields).toNat:=⟨_,rfl⟩
 have hszI:zXK t.fields=((size:Nat):Int):=by omega
 refine xX3 _ _ _ _ w _ (alB λw1 aq ay=>alB λw2 ar aN=>?_)
 have cM:=ar.blk ay
 have aF:=aq.trans ar
 have ng:w.heap.size<w1.heap.size:=zQx ay
 refine⟨f,cl cM 1,(xXd (h.fields.pu aF) (zZ8 hv)).mono ?_⟩
 rintro e w3 ⟨rfl,ax⟩
 have aV:=aF.trans ax
 have jX:=ax.blk cM
 have qa:=ax.blk aN
 rw[if_pos hR.vf]
 refine⟨_,_,rfl,?_⟩
 -- a table that is not told, early
 have early:zQZ t body=none->∃bK:Int,w3.cell? ((⟨w.heap.size,0,none⟩:Addr).add 0)=some (.int .i64 bK)/\∃aP:SV,w3.cell? ((⟨w.heap.size,0,none⟩:Addr).add 1)=some (.slice aP.a aP.len aP.cap)/\
   ∃aQ:SV,w3.cell? ((⟨w.heap.size,0,none⟩:Addr).add 2)=some (.slice aQ.a aQ.len aQ.cap)/\
   stA prog 35 (⟨w1.heap.size,0,none⟩:Addr) #[.int .i64 bK,.slice aP.a aP.len aP.cap,.slice aQ.a aQ.len aQ.cap] w3 λxB=>
   ∃ag:Int,xB.cell? ((⟨w1.heap.size,0,none⟩:Addr).add 0)=some (.int .i64 ag)/\∃ab:SV,xB.cell? ((⟨w1.heap.size,0,none⟩:Addr).add 1)=some (.slice ab.a ab.len ab.cap)/\
   ∃ae:SV,xB.cell? ((⟨w1.heap.size,0,none⟩:Addr).add 2)=some (.slice ae.a ae.len ae.cap)/\
   kQe w t body (.returned (.tuple #[.agg #[.int .i64 ag,.slice ab.a ab.len ab.cap,.slice ae.a ae.len ae.cap],.bool false])) xB:=λhno=>
  ⟨_,cl jX 0,f,cl jX 1,r,cl jX 2,zQi qa zKS.symm rfl rfl λw5 bu cL _=>⟨_,cl bu 0,f,cl bu 1,r,cl bu 2,aV.andNew cL λi hi=>by rw[show i=_ from hi];omega,_,f,r,false,rfl,.inl ⟨rfl,hno⟩⟩⟩
 refine Br.of (λc=>early (by unfold zQZ;rw[if_pos (.inl (by have:=zQk c;omega))])) (λc=>?_)
 have c:=zQd c
 rw[zQa (n:=zXK t.fields+2) (by omega) (by omega),zQa (n:=((s.len:Nat):Int) - 2) (by omega) (by omega)]
 refine⟨rfl,by omega,?_⟩
 have hmod:(((s.len:Nat):Int) - 2).tmod (zXK t.fields+2)=(((body.length - 2) % (size+2):Nat):Int):=by
  rw[hszI,show((s.len:Nat):Int) - 2=((body.length - 2:Nat):Int)by omega,show((size:Nat):Int)+2=((size+2:Nat):Int)by omega,Int.tmod_eq_emod_of_nonneg (by omega)]
  norm_cast
 rw[hmod]
 refine Br.of (λc1=>early (by
  unfold zQZ
  rw[←hsz,if_pos (.inr (λe=>zQ1 c1 (by rw[e];rfl)))])) (λc1=>?_)
 have c1:(body.length - 2) % (size+2)=0:=by have:=zQs c1;omega
 have hfr2:=(hb.pu aV).front (n:=2) (by omega)
 refine⟨by omega,by show 2<=s.cap;omega,by omega,(yQZ hfr2 (by rw[List.length_take];omega)).mono ?_⟩
 rintro e w4 ⟨rfl,aK⟩
 have cp:=aV.trans aK
 have gS:=aK.blk jX
 have qC:=aK.blk qa
 refine⟨_,rfl,_,cl gS 0,f,cl gS 1,r,cl gS 2,(zJH (h.pu cp) hv).mono ?_⟩
 rintro e w5 ⟨ht,rfl,hT,aU⟩
 have dC:=cp.trans aU
 have jW:=aU.blk gS
 have oW:=aU.blk qC
 have z4:=cp.size
 refine⟨_,ht.f,ht.r,rfl,zQi jW zKS.symm rfl rfl λw6 fV iN _=>?_⟩
 have eJ:Pu w w6:=dC.andNew iN λi hi=>by rw[show i=_ from hi];exact Nat.le_refl _
 have qA:=iN.blk oW (show ¬w1.heap.size=w.heap.size by omega)
 have hT6:zWt w w6 t ht:=(hT.fr iN λb hb _ e=>by have e:b=w.heap.size:=e;have:=cp.size;have:=aV.size;have:=ax.size;have l2:w1.heap.size<w2.heap.size:=zQx aN;have:=aK.size;omega).low z4
 have S0:ChS w w.heap.size w1.heap.size t ht.f t.recs w6:=⟨⟨ht.r,by rw[fV,hT.tab.page],hT6.newR⟩,qA,⟨hT6.f,hT6.fn⟩,eJ,Nat.le_refl _,by omega,by omega⟩
 refine⟨hc,by omega,by show 2<=s.len;omega,?_⟩
 obtain⟨N,hN⟩:∃N,N=(body.length - 2) / (size+2):=⟨_,rfl⟩
 have hNm:N * (size+2)=body.length - 2:=by rw[hN];exact Nat.div_mul_cancel (Nat.dvd_of_mod_eq_zero c1)
 have hG:∀G,G=goC t size t.recs (body.drop 2)->zQZ t body=G.bind λl=>if l.length=zQX (body.take 2)then some { t with recs:=l }else none:=λG hG=>by
  unfold zQZ
  rw[←hsz,if_neg (by omega),hG]
 refine zQw N (λk q w'=>∃recs,ChS w w.heap.size w1.heap.size t ht.f recs w'/\recs.length<=300/\(∀x ∈ recs,zQ0 t.fields t.page x=0)/\(∀wv,Pu w wv->ByV wv q (body.drop (2+k * (size+2))))/\goC t size recs (body.drop (2+k * (size+2)))=goC t size t.recs (body.drop 2))
  ⟨t.recs,S0,hR.n300,hR.recs,λwv hpv=>by simpa using (hb.pu hpv).rest (lo:=2) (by omega),by simp⟩ ?_
 rintro k J q wa hk ⟨recs,hS,cK,hval,hqv,hgo⟩ hJ
 have hq:=hqv wa hS.pu
 have hql:=hq.len
 have hqc:=hq.cap
 rw[List.length_drop]at hql
 have hkm:k * (size+2)<=N * (size+2):=Nat.mul_le_mul_right _ hk
 refine Br.of (λd=>?_) (λd=>?_)
 ·have d:=zQk d
  have hkN:k<N:=by
   rcases Nat.lt_or_ge k N with h|h
   ·exact h
   ·have:k=N:=by omega
    subst this;omega
  have wY:(k+1) * (size+2)<=N * (size+2):=Nat.mul_le_mul_right _ hkN
  rw[Nat.succ_mul]at wY
  obtain⟨rest,hrest⟩:∃rest,rest=body.drop (2+k * (size+2)):=⟨_,rfl⟩
  rw[←hrest]at hq hgo hqv
  have hrl:rest.length=q.len:=by rw[hrest,List.length_drop];omega
  have hne:rest ≠ []:=λe=>by rw[e]at hrl;simp at hrl;omega
  have hfr:=hq.front (n:=2) (by omega)
  refine⟨by omega,by show 2<=q.cap;omega,by omega,(yQZ hfr (by rw[List.length_take];omega)).mono ?_⟩
  rintro e wb ⟨rfl,hpb⟩
  obtain⟨dq,h48⟩:∃dq,dq=zQX (rest.take 2):=⟨_,rfl⟩
  rw[←h48]
  refine⟨_,rfl,zQc λwc hpc _=>?_⟩
  have hpac:=hpb.trans hpc
  have hSc:=hS.on hpac
  obtain⟨sc,xQ,hNc⟩:=hSc.ex
  have hqc2:=hq.pu hpac
  rw[zQa (n:=zXK t.fields+2) (by omega) (by omega)]
  have tN:(zXK t.fields+2).toNat=size+2:=by omega
  rw[tN]
  have hsub:=hqc2.sub (lo:=2) (hi:=size+2) (by omega) (by omega)
  rw[show size+2 - 2=size by omega]at hsub
  have hstep:=yQU (t:=t) (size:=size) (recs:=recs) (rest:=rest) hne
  rw[←h48,hgo]at hstep
  have hno:yXH t ((rest.drop 2).take size)=none∨dq<1∨recs.length+1<dq∨300<dq->zQZ t body=none:=λhx=>by
   have:goC t size t.recs (body.drop 2)=none:=by
    rw[hstep]
    cases hr:yXH t ((rest.drop 2).take size)with
    | none=>rfl
    | some x=>exact if_pos (hx.resolve_left (by rw[hr];simp))
   rw[hG _ rfl,this];rfl
  have hdrop:rest.drop (size+2)=body.drop (2+(k+1) * (size+2)):=by rw[hrest,List.drop_drop,Nat.succ_mul];congr 1;omega
  -- behind a record
  have next:∀x w',yXH t ((rest.drop 2).take size)=some x->¬(dq<1∨recs.length+1<dq∨300<dq)->ChS w w.heap.size w1.heap.size t ht.f (if recs.length<dq then recs ++ [x]else recs.set (dq - 1) x) w'->
    zY8 (kQe w t body) J (some ⟨w.heap.size,0,none⟩) (some ⟨w1.heap.size,0,none⟩) (zXK t.fields) (zQX (body.take 2):Nat) q [] w':=λx wz hx hg hSz=>by
   have hxv:=yQu hR.page hR.vf hx
   unfold zY8
   rw[zQa (n:=zXK t.fields+2) (by omega) (by omega),tN]
   refine⟨hqc,by omega,by omega,hJ _ _ hkN ⟨_,hSz,?_,λy hy=>?_,λwv hpv=>by rw[←hdrop];exact(hqv wv hpv).rest (by omega),?_⟩⟩
   ·split
    ·rw[List.length_append,List.length_singleton];omega
    ·rw[List.length_set];exact cK
   ·split at hy
    ·rcases List.mem_append.1 hy with hy|hy
     ·exact hval y hy
     ·rw[List.mem_singleton.1 hy];exact hxv
    ·rcases List.mem_or_eq_of_mem_set hy with hy|rfl
     ·exact hval y hy
     ·exact hxv
   ·rw[←hdrop,hstep,hx]
    exact(if_neg hg).symm
  have hpg:zZL t.page:=h.page
  refine⟨λu=>Pu wc u,Pu.refl _,_,λu hu=>cl (hu.blk xQ) 0,ht.f,λu hu=>cl (hu.blk xQ) 1,sc,λu hu=>cl (hu.blk xQ) 2,by omega,by omega,by omega,by show 2<=size+2;omega,?_,?_⟩
  ·refine(xKm hpg hR.page (hSc.qf.rd (by have:=ho.n16;omega) (zX8 hv).f64) hR.vf hsub (by rw[List.length_take];omega)).mono ?_
   rintro e wd ⟨hpd,g,v,ok,rfl,hrow⟩
   refine⟨g,v,ok,rfl,alB λwe hpe hbe=>zQi hbe yWB.symm rfl rfl λwf hbf hff _=>?_⟩
   have hpdf:Pu wd wf:=hpe.andNew hff λi hi=>by rw[show i=_ from hi];exact Nat.le_refl _
   have hSf:=(hSc.on hpd).on hpdf
   exact xVJ (row:=(rest.drop 2).take size) hSf hbf (hrow.imp id λ⟨a,x,hx,hg,hV⟩=>⟨a,x,hx,hg,(hV.pu hpdf).low hSc.pu.size⟩) cK hno λx wz hx hg hSz hfz=>next x wz hx hg hSz
  ·refine alB λwd hpd hbd=>⟨hpd,(xKm hpg hR.page ((hSc.qf.pu hpd).rd (by have:=ho.n16;omega) (zX8 hv).f64) hR.vf (hsub.pu hpd) (by rw[List.length_take];omega)).mono ?_⟩
   rintro e we ⟨hpe,g,v,ok,rfl,hrow⟩
   refine⟨g,v,ok,rfl,zQi (hpe.blk hbd) yWB.symm rfl rfl λwf hbf hff _=>?_⟩
   have hpdf:Pu wc wf:=(hpd.trans hpe).andNew hff λi hi=>by rw[show i=_ from hi];exact Nat.le_refl _
   have hSf:=hSc.on hpdf
   have zd:=(hSc.pu.trans hpd).size
   refine xVJ (row:=(rest.drop 2).take size) hSf hbf (hrow.imp id λ⟨a,x,hx,hg,hV⟩=>⟨a,x,hx,hg,(hV.fr hff λb hb e=>?_).low zd⟩) cK hno λx wz hx hg hSz hfz=>next x wz hx hg hSz
   have h1:=hV.2 b hb
   have h2:=zQx hbd
   have e:b=wc.heap.size:=e
   omega
 ·have d:=zQd d
  have hkN:k=N:=by
   rcases Nat.lt_or_ge k N with h|h
   ·have wY:(k+1) * (size+2)<=N * (size+2):=Nat.mul_le_mul_right _ h
    rw[Nat.succ_mul]at wY
    omega
   ·omega
  subst hkN
  rw[List.drop_eq_nil_of_le (by omega),yXp]at hgo
  have hch:=hG _ rfl
  rw[←hgo]at hch
  obtain⟨sc,xQ,hNc⟩:=hS.ex
  have hscl:=hNc.len
  refine zQc λwb hpb _=>?_
  have hSb:=hS.on hpb
  refine⟨λu=>∃c,u.heap[w.heap.size]?=some (.cells #[.int .i64 t.page,slV ht.f,slV sc] 35)/\c=(),⟨(),hpb.blk xQ,rfl⟩,_,λu ⟨_,hu,_⟩=>cl hu 0,ht.f,λu ⟨_,hu,_⟩=>cl hu 1,sc,λu ⟨_,hu,_⟩=>cl hu 2,sc,λu ⟨_,hu,_⟩=>cl hu 2,?_⟩
  refine zQi hSb.b4 zKS.symm rfl rfl λwz hbz hfz _=>⟨⟨(),hfz.blk (hpb.blk xQ) (show ¬w.heap.size=w1.heap.size by omega),rfl⟩,_,cl hbz 0,ht.f,cl hbz 1,sc,cl hbz 2,hSb.pu.andNew hfz λi hi=>by rw[show i=_ from hi];omega,_,ht.f,sc,_,rfl,?_⟩
  by_cases hn:recs.length=zQX (body.take 2)
  ·right
   refine⟨by rw[show((sc.len:Nat):Int)=((recs.length:Nat):Int)by omega,hn];simp,{ t with recs:=recs },by rw[hch];exact if_pos hn,rfl,⟨hSb.qf.fr hfz λk hk e=>hSb.qf.1.other hSb.b4 (by decide) (by rw[←show k=_ from e];exact hk),(hNc.pu hpb).other hfz hSb.b4 (by decide) (by decide)⟩⟩
  ·left
   refine⟨?_,by rw[hch];exact if_neg hn⟩
   rw[show((sc.len:Nat):Int)=((recs.length:Nat):Int)by omega]
   have:¬((recs.length:Nat):Int)=((zQX (body.take 2):Nat):Int):=by omega
   simpa using this
end Go.Proofs.YtaeecpjhfmcliaaGreatDoor
/- The log: what files tell, as the program finds it; what a recovery writes. No condition but those stated. -/
namespace Go.Proofs.YtaeecpjhfmcliaaGreatDoor
open Go.Sh Go.RowKit Tryz
variable {w w' : World}
def TabR(w:World)(F:Fls):Rt:=λe w'=>Pu w w'/\∃(p:Int) (f r:SV) (n:Int) (a b:Bool),e=.returned (.tuple #[.agg #[.int .i64 p,slV f,slV r],.int .i64 n,.bool a,.bool b])/\n=(F.2.length:Int) - ((zQJ F).2.1.length:Int)/\a=(zQJ F).2.2/\
 ((b=false/\(zQJ F).1=none)∨b=true/\∃t,(zQJ F).1=some t/\p=t.page/\zJn w w' t f r)
structure xJq(w0:World)(r2 r6:Nat)(cur:Option Tbl)(is:Bool)(w:World):Prop where
 ex:∃(p:Int) (f r:SV),w.heap[r6]?=some (.cells #[.int .i64 p,slV f,slV r] 35)/\((is=false/\cur=none)∨is=true/\∃t,cur=some t/\zQh t=0/\p=t.page/\zJn w0 w t f r)
 b2:w.heap[r2]?=some (.cells #[.int .i64 0,.slice none 0 0,.slice none 0 0] 35)
 pu:Pu w0 w
 z2:w0.heap.size<=r2
 z6:w0.heap.size<=r6
 ne:r2 ≠ r6
theorem zJn.other {w0:World} {t:Tbl} {f r:SV} {b:Nat} {c:Array Value} (h:zJn w0 w t f r) (hf:Fr (·=b) w w') (hb:w.heap[b]?=some (.cells c 35)):zJn w0 w' t f r:=
 ⟨h.fs.fr hf λk hk e=>h.fs.1.other hb (by decide) (by rw[←show k=b from e];exact hk),h.rs.other hf hb (by decide) (by decide)⟩
theorem xJq.on{w0:World}{r2 r6:Nat}{cur:Option Tbl}{is:Bool}(h:xJq w0 r2 r6 cur is w)(hp:Pu w w'):xJq w0 r2 r6 cur is w':=by
 obtain⟨p,f,r,h1,h2⟩:=h.ex
 exact⟨⟨p,f,r,hp.blk h1,h2.imp id λ⟨a,t,b,c,d,e⟩=>⟨a,t,b,c,d,e.pu hp⟩⟩,hp.blk h.b2,h.pu.trans hp,h.z2,h.z6,h.ne⟩
theorem xJq.put {w0:World} {r2 r6:Nat} {cur cur':Option Tbl} {is is':Bool} (h:xJq w0 r2 r6 cur is w) {p:Int} {f r:SV} (hx:(is'=false/\cur'=none)∨is'=true/\∃t,cur'=some t/\zQh t=0/\p=t.page/\zJn w0 w t f r) {K:World->Prop}
  (hK:∀w',xJq w0 r2 r6 cur' is' w'->K w'):stA prog 35 (⟨r6,0,none⟩:Addr) #[.int .i64 p,slV f,slV r] w K:=by
 obtain⟨p0,f0,r0,h1,_⟩:=h.ex
 refine zQi h1 zKS.symm rfl rfl λw2 aN fZ _=>hK w2 ⟨⟨p,f,r,aN,hx.imp id λ⟨a,t,b,c,d,e⟩=>⟨a,t,b,c,d,e.other fZ h1⟩⟩,fZ.blk h.b2 h.ne,h.pu.andNew fZ λi hi=>by rw[show i=_ from hi];exact h.z6,h.z2,h.z6,h.ne⟩
theorem xQ7{s q0 q1:SV}{F:Fls}(h:zXE w s q0 q1 F)(hF:F.1.length<=900000000/\F.2.length<=900000000):Calls prog 47 #[slV s] w (TabR w F):=by
 have hl:=h.len
 obtain⟨a,ha,c0,c1⟩:=h.ex
 refine xXx _ w _ (alB λw1 aq ay=>⟨a,ha,by omega,by omega,q0,aq.cell c0,(yKC (h.b0.pu aq) (by omega)).mono ?_⟩)
 rintro e w2 ⟨t0,f0,r0,cd,rfl,hO,hNi,ar,hRO⟩
 have aF:=aq.trans ar
 have ng:w.heap.size<w1.heap.size:=zQx ay
 have z1:=aq.size
 refine⟨_,f0,r0,_,rfl,alB λw3 ax br=>zQi br zKS.symm rfl rfl λw4 dx gR _=>?_⟩
 have fW:Pu w2 w4:=ax.andNew gR λi hi=>by rw[show i=_ from hi];exact Nat.le_refl _
 have cp:=aF.trans fW
 have z2:=ar.size
 have first:∀{wz:World},Pu w2 wz->(((cd == 0)=false/\zXG F.1=none)∨(cd == 0)=true/\∃t,zXG F.1=some t/\zQh t=0/\t0.page=t.page/\zJn w wz t f0 r0):=λhpz=>by
  rcases zKp hRO with⟨rfl,h1⟩|⟨rfl,h1,_⟩
  ·exact .inr ⟨rfl,t0,h1,(zXy h1).1,rfl,(hO.pu hpz).low z1⟩
  ·exact .inl ⟨rfl,h1⟩
 have S0:xJq w w.heap.size w2.heap.size (zXG F.1) (cd == 0) w4:=⟨⟨_,f0,r0,dx,first fW⟩,fW.blk (ar.blk ay),cp,Nat.le_refl _,by omega,by omega⟩
 refine⟨a,ha,by omega,by omega,q1,cp.cell c1,?_⟩
 have hq1l:=h.b1.len
 refine zY1 (λt w'=>∃cur rest,xJq w w.heap.size w2.heap.size cur t.1 w'/\(∀wv,Pu w wv->ByV wv t.2.2 rest)/\rest.length<=900000000/\zKf cur t.2.1 rest=zQJ F) (λt _=>t.2.2.len)
  ⟨zXG F.1,F.2,S0,λwv hv=>h.b1.pu hv,hF.2,rfl⟩ ?_
 rintro J ⟨is,anew,q⟩ wa ⟨cur,rest,hS,hq,hrl,hG⟩ hJ
 dsimp only at hS hq hG
 have hqa:=hq wa hS.pu
 have hqal:=hqa.len
 refine(next_c hqa (by omega)).mono ?_
 rintro e wb ⟨hpb,k,p1,p2,b,rfl,hN⟩
 have hSb:=hS.on hpb
 refine⟨k,p1,p2,b,rfl,?_⟩
 rcases hN with⟨rfl,hnone⟩|⟨rfl,kk,body,more,hsome,rfl,hby⟩
 ·refine Br.of (λ_=>?_) (λc=>by cases c)
  rw[zZE hnone]at hG
  refine zQc λwc hpc _=>?_
  have hSc:=hSb.on hpc
  obtain⟨p,f,r,g1,g2⟩:=hSc.ex
  have hb22:=hSc.b2
  have cc1:=(hSc.pu).cell c1
  refine⟨λu=>u.heap[w2.heap.size]?=some (.cells #[.int .i64 p,slV f,slV r] 35)/\u.cell? (a.add 1)=some (slV q1),⟨g1,cc1⟩,p,λu hu=>cl hu.1 0,f,λu hu=>cl hu.1 1,r,λu hu=>cl hu.1 2,a,ha,by omega,by omega,q1,λu hu=>hu.2,?_⟩
  refine zQi hb22 zKS.symm rfl rfl λwd hbd hfd _=>?_
  have hpd:Pu w wd:=hSc.pu.andNew hfd λi hi=>by rw[show i=_ from hi];exact Nat.le_refl _
  refine⟨⟨hfd.blk g1 (Ne.symm hSc.ne),hpd.cell c1⟩,p,cl hbd 0,f,cl hbd 1,r,cl hbd 2,hpd,p,f,r,_,anew,is,rfl,?_,by rw[←hG],?_⟩
  ·show IntKind.i64.wrap (((q1.len:Nat):Int) - ((q.len:Nat):Int))=_
   rw[←hG,zQa (by omega) (by omega)];dsimp only;omega
  ·rcases g2 with⟨g,e⟩|⟨g,t,e,_,ep,hO⟩
   ·exact .inl ⟨g,by rw[←hG];exact e⟩
   ·exact .inr ⟨g,t,by rw[←hG];exact e,ep,hO.other hfd hb22⟩
 ·refine Br.of (λc=>by cases c) (λ_=>?_)
  rw[zZA hsome]at hG
  have hless:=yXn hsome
  have rP:∀wv,Pu w wv->ByV wv p2 more:=λwv hv=>(hby wv (hq wv hv)).2
  have hp2l:=(rP wb hSb.pu).len
  have wZ:=(hby wb (hq wb hSb.pu)).1
  have hbodyl:body.length<=1000000000:=by
   have h1:=wZ.len
   unfold zZ9 at hsome
   split at hsome
   ·cases hsome
   split at hsome
   ·cases hsome
   split at hsome
   ·cases hsome
   simp only[Option.some.injEq,Prod.mk.injEq]at hsome
   rw[←hsome.2.1,List.length_take,List.length_drop]
   omega
  have go:∀{is':Bool} {cur':Option Tbl} {a':Bool} {wz:World},xJq w w.heap.size w2.heap.size cur' is' wz->zJp cur anew kk body=(cur',a')->J (is',a',p2) wz:=λ{is' cur' a' wz} hSz hst=>by
   refine hJ _ _ ⟨cur',more,hSz,rP,by omega,?_⟩ (by show p2.len<q.len;omega)
   rw[hst]at hG;exact hG
  refine Br.of (λc=>?_) (λc=>?_)
  ·have c:kk=119:=by
    have:((kk.toNat:Nat):Int)=119:=by simpa using c
    exact UInt8.toNat_inj.1 (show kk.toNat=119 by omega)
   subst c
   refine(yKC wZ hbodyl).mono ?_
   rintro e wc ⟨t1,f1,r1,cd1,rfl,hO1,hNi1,hpc,hRO1⟩
   refine⟨_,f1,r1,_,rfl,?_⟩
   refine(hSb.on hpc).put (cur':=zXG body) (is':=cd1 == 0) ?_ λwd hSd=>go hSd (by unfold zJp;rw[if_pos rfl])
   rcases zKp hRO1 with⟨rfl,h1⟩|⟨rfl,h1,_⟩
   ·exact .inr ⟨rfl,t1,h1,(zXy h1).1,rfl,hO1.low hSb.pu.size⟩
   ·exact .inl ⟨rfl,h1⟩
  ·have c:kk ≠ 119:=λe=>by rw[e]at c;exact absurd c (by decide)
   refine Br.of (λc1=>?_) (λc1=>?_)
   ·have c1:kk ≠ 99:=λe=>by rw[e]at c1;exact absurd c1 (by decide)
    obtain⟨p,f,r,g1,_⟩:=hSb.ex
    exact go (is':=false) (cur':=none) ⟨⟨p,f,r,g1,.inl ⟨rfl,rfl⟩⟩,hSb.b2,hSb.pu,hSb.z2,hSb.z6,hSb.ne⟩ (by unfold zJp;rw[if_neg c,if_pos c1])
   ·have c1:kk=99:=by
     have:((kk.toNat:Nat):Int)=99:=by simpa using c1
     exact UInt8.toNat_inj.1 (show kk.toNat=99 by omega)
    subst c1
    have hst:zJp cur anew 99 body=(cur.bind λt=>zQZ t body,anew):=by unfold zJp;rw[if_neg c,if_neg (by simp)]
    obtain⟨p,f,r,g1,g2⟩:=hSb.ex
    refine Br.of (λc2=>?_) (λc2=>?_)
    ·rcases g2 with⟨g,_⟩|⟨_,t,rfl,hv,rfl,hO⟩
     ·rw[g]at c2;cases c2
     refine⟨_,cl g1 0,f,cl g1 1,r,cl g1 2,(xXb (hO.rd (zX8 hv)) hv wZ hbodyl).mono ?_⟩
     rintro e wc ⟨hpc,pp,x1,x2,bb,rfl,hC⟩
     refine⟨pp,x1,x2,bb,rfl,?_⟩
     refine(hSb.on hpc).put (cur':=zQZ t body) (is':=bb) ?_ λwd hSd=>go hSd hst
     rcases hC with⟨h1,h2⟩|⟨h1,u,h2,h3,h4⟩
     ·exact .inl ⟨h1,h2⟩
     ·exact .inr ⟨h1,u,h2,zKP hv h2,h3,h4.low hSb.pu.size⟩
    ·rcases g2 with⟨_,g⟩|⟨g,_⟩
     ·refine go hSb ?_
      rw[hst,g];rfl
     ·rw[g]at c2;cases c2
end Go.Proofs.YtaeecpjhfmcliaaGreatDoor
/- The log: a store is entered and left; its parts are written, one by one. No condition but those stated. -/
namespace Go.Proofs.YtaeecpjhfmcliaaGreatDoor
open Go.Sh Go.RowKit Tryz
variable {w w' : World} {X : Nat -> Prop} {L L' : SL} {d d' : Dat} {mu : Int}
theorem disable(w:World):(callFunc 169 #[]).run prog w=.ok (.value (.tuple #[])) w:=run_call_mark0 Tryz.func169 (by kernel_rfl) (by kernel_rfl) (by kernel_rfl) .disable (by kernel_rfl) w
theorem enable(w:World):(callFunc 171 #[]).run prog w=.ok (.value (.tuple #[])) w:=run_call_mark0 Tryz.func171 (by kernel_rfl) (by kernel_rfl) (by kernel_rfl) .enable (by kernel_rfl) w
theorem acquire(a:Addr)(w:World):(callFunc 172 #[.pointer (some a)]).run prog w=.ok (.value (.tuple #[])) w:=run_call_marked Tryz.func172 (by kernel_rfl) (by kernel_rfl) (by kernel_rfl) .acquire (by kernel_rfl) a w
theorem xJx(a:Addr)(w:World):(callFunc 174 #[.pointer (some a)]).run prog w=.ok (.value (.tuple #[])) w:=run_call_marked Tryz.func174 (by kernel_rfl) (by kernel_rfl) (by kernel_rfl) .releaseMerge (by kernel_rfl) a w
theorem mu1:prog.underlying 197=some (.pointer 103):=by kernel_rfl
theorem mu2:prog.underlying 201=some .unsafePointer:=by kernel_rfl
theorem mu3:(prog.info? 103).map (λi=>decide (i.size=0))=some false:=by kernel_rfl
theorem muLock {a:Addr} {w:World} (hc:w.cell? a=some (.int .i32 0)) (hz:w.frozen? a=false) :
  Calls prog 95 #[.pointer (some a)] w λe w'=>e=.returned (.tuple #[])/\w'=w.setCell a (.int .i32 1):=by
 refine yYF _ w _ ?_
 refine Calls.mono (R:=λe w'=>e=.returned (.tuple #[])/\w'=w.setCell a (.int .i32 1)) ?_ λe w' h=>⟨h.1,rfl,h.2⟩
 refine yV8 _ w _ ?_
 refine⟨w,disable w,true,w.setCell a (.int .i32 1),run_call_cas_hit Tryz.func170 (by kernel_rfl) (by kernel_rfl) (by kernel_rfl) .i32 (by kernel_rfl) hc hz,?_⟩
 have hc':(w.setCell a (.int .i32 1)).cell? a=some (.int .i32 1):=World.cell?_setCell_same _ _ _ hc
 exact⟨_,enable _,_,_,run_convert_to_unsafe mu1 mu2 mu3 hc',_,acquire a _,rfl,rfl⟩
theorem xJr {a:Addr} {w:World} (hc:w.cell? a=some (.int .i32 1)) (hz:w.frozen? a=false) (u:FrameMode) :
  CallsD prog 96 #[.pointer (some a)] u w λe u' w'=>u'=u/\e=.returned (.tuple #[])/\w'=w.setCell a (.int .i32 0):=by
 refine yWq _ w (λe w'=>e=.returned (.tuple #[])/\w'=w.setCell a (.int .i32 0)) u ?_
 refine Calls.mono (R:=λe w'=>e=.returned (.tuple #[])/\w'=w.setCell a (.int .i32 0)) ?_ λe w' h=>⟨h.1,rfl,h.2⟩
 refine yVo _ w _ ?_
 refine⟨1,hc,_,_,run_convert_to_unsafe mu1 mu2 mu3 hc,_,xJx a _,_,disable _,0,w.setCell a (.int .i32 0),
  run_call_add Tryz.func175 (by kernel_rfl) (by kernel_rfl) (by kernel_rfl) .i32 (by kernel_rfl) hc hz (by simp[go_sem];rfl),w.setCell a (.int .i32 0),enable _,rfl,rfl⟩
theorem zQG.reS (h:zQG X w L d mu) (hf:Fr (·=L.S) w w') {mu':Int} (hst:w'.heap[L.S]?=some (.cells (zJU mu' L) 108)):zQG X w' L d mu' where
 st:=hst
 lv:=h.lv.fr hf λb hb e=>h.lv.other h.st (by decide) (by rw[←show b=L.S from e];exact hb)
 dn:=h.dn.fr hf λb hb e=>h.dn.other h.st (by decide) (by rw[←show b=L.S from e];exact hb)
 wr:=h.wr.fr hf λb hb e=>h.wr.other h.st (by decide) (by rw[←show b=L.S from e];exact hb)
 pt:=h.pt.fr hf λb hb e=>h.pt.other h.st (by decide) (by rw[←show b=L.S from e];exact hb)
 now:=h.now.fr hf λb hb e=>h.now.other h.st (by decide) (by decide) (by rw[←show b=L.S from e];exact hb)
 ll:=h.ll
 dl:=h.dl
 wl:=h.wl
 lvs:=λi x t hx ht=>(h.lvs i x t hx ht).fr hf λb hb e=>(h.lvs i x t hx ht).other h.st (by decide) (by decide) (by rw[←show b=L.S from e];exact hb)
 ld:=h.ld
 dj:=h.dj
 djl:=h.djl
 xl:=λb hb=>Nat.lt_of_lt_of_le (h.xl b hb) hf.size
 kp:=λw2 h2=>h.kp w2 ((hf.mono λb hb _=>.inl (.inl hb)).trans h2 λb hb _=>hb)
theorem zQG.setMu(h:zQG X w L d mu)(m:Int):zQG X (w.setCell ⟨L.S,0,none⟩ (.int .i32 m)) L d m:=h.reS (Fr.cell w _ _ _) (by rw[zJR h.st 0 (.int .i32 m)];rfl)
def xQd(L:SL):Value:=.func (.func 96) #[L.ptr] #[]
def zZc(L:SL):Deferred:={ target:=.fn (.func 96) #[],args:=#[L.ptr] }
theorem xYP(h:zQG X w L d 0):Calls prog 55 #[L.ptr] w λe w'=>e=.returned (.tuple #[xQd L,.int .i64 0])/\zQG X w' L d 1/\Fr (·=L.S) w w'/\w'.heap.size=w.heap.size:=by
 refine xQO _ w _ ⟨false,w,zX2 xZF _ _ _ w,?_⟩
 show Calls prog 95 #[.pointer (some ⟨L.S,0,none⟩)] w _
 refine Calls.mono (muLock (by rw[h.cell];rfl) (zVo h.st 0)) ?_
 rintro e w1 ⟨rfl,j3⟩
 refine⟨rfl,rfl,?_,?_,?_⟩
 ·rw[j3];exact h.setMu 1
 ·rw[j3];exact Fr.cell w _ _ _
 ·rw[j3];simp
theorem yQs (h:zQG X w L d 1) {K:World->Prop} (hK:K (w.setCell ⟨L.S,0,none⟩ (.int .i32 0))):zQb prog [zZc L] w K:=by
 show xJ8 prog (zZc L) w _
 show CallsD prog 96 #[.pointer (some ⟨L.S,0,none⟩)] .returning w _
 refine CallsD.mono (xJr (by rw[h.cell];rfl) (zVo h.st 0) .returning) ?_
 rintro e u' w' ⟨rfl,rfl,rfl⟩
 exact⟨⟨_,rfl⟩,rfl,hK⟩
theorem yVL {w0:World} {L0:SL} (h:zQG X w L d 1) (hl:zZe w0 w L0 L) {K:World->Prop} (hK:∀w',zQG X w' L d 0->zZe w0 w' L0 L->Fr (·=L.S) w w'->K w'):zQb prog [zZc L] w K:=
 yQs h (hK _ (h.setMu 0) (hl.trans ⟨(Fr.cell w _ _ _).mono λb hb _=>.inl hb,λ_ h=>.inl h,rfl⟩) (Fr.cell w _ _ _))
theorem xZH {w0:World} (h0:zQG X w0 L d 0) (h:zQG X w L d 1) (hf:Fr (·=L.S) w0 w) {K:World->Prop} (hK:∀w',Pu w0 w'->Fr (·=L.S) w w'->K w'):zQb prog [zZc L] w K:=by
 refine yQs h (hK _ ?_ (Fr.cell w _ _ _))
 have fZ:=hf.trans (Fr.cell w L.S 0 (.int .i32 0)) λi hi _=>hi
 refine⟨fZ.os,fZ.tape,fZ.output,fZ.size,λk hk=>?_⟩
 by_cases e:k=L.S
 ·subst e
  rw[h0.st,(h.setMu 0).st]
 ·exact fZ.block k hk e
theorem zWt.keep{w0:World}{t:Tbl}{q:HT}(hq:zWt w0 w t q)(hv:zQh t=0)(ho:∀b,L.own b->b<w0.heap.size)(hx:∀b,X b->b<w0.heap.size):∀w2,Fr (λb=>L.own b∨X b) w w2->zXz w2 t q.f q.r:=λw2 h2=>
 (hq.fr h2 λb hb _ e=>e.elim (λe=>by have:=ho b e;omega) (λe=>by have:=hx b e;omega)).rd hv
theorem zQG.pushDone (h:zQG X w L d mu) {q:HT} {t:Tbl} (hp:q.page=t.page) (hq:∀w2,Fr (λb=>L.own b∨X b) w w2->zXz w2 t q.f q.r) {r:Nat} (hr:w.heap[r]?=some (.cells (zV7 q).toArray 35)) (hro:∀b,L.own b->b ≠ r) (hn:d.σ.done.length<=1000000)
  {K:World->Prop} (hK:∀w' L',zQG X w' L' { d with σ:={ d.σ with done:=d.σ.done ++ [t] } } mu->zZe w w' L L'->L'.now=L.now->L'.lh=L.lh->K w') :
  ∃s:SV,∃w1:World,(Builtin.append_ #[106,106] 106 #[slV L.dn,.slice (some ⟨r,0,none⟩) 1 1]).run prog w=.ok (slV s) w1/\st1 ((⟨L.S,0,none⟩:Addr).add 6) (slV s) w1 K:=by
 have hl:=h.dn.len zQv (by decide)
 have hdl:=h.dl
 obtain⟨s,w1,hra,hrow,dY,hblk,hsl⟩:=zQy (P:=prog) (ty:=106) xJt vi35 rfl (by decide) h.dn (A:=some ⟨r,0,none⟩) (m:=1) (c:=1) (news:=zV7 q) rfl (λj u hu=>⟨_,rfl,by rw[cl hr];simpa using hu⟩) (λu hu=>by simp[zV7]at hu;rcases hu with rfl|rfl|rfl <;> rfl) (by show(L.dn.len+1) * (56+1)<=_;omega)
 refine⟨s,w1,hra,?_⟩
 have hnS:L.S ∉ zQe L.dn:=h.dn.other h.st (by decide)
 have rQ:=dY.blk h.st hnS
 rw[zQr,Nat.zero_add]
 refine zQt rQ (by show 6<11;omega) λw2 mV aN=>?_
 have fZ:Fr (·=L.S) w1 w2:=by rw[mV];exact Fr.cell w1 _ _ _
 have hf:Fr (λb=>b=L.S∨b ∈ zQe L.dn) w w2:=(dY.mono λb hb _=>.inr hb).trans fZ λb hb _=>.inl hb
 have hsn:∀b ∈ zQe s,b ≠ L.S:=λb hb e=>by
  rcases hblk b hb with h1|h1
  ·exact hnS (by rw[←e];exact h1)
  ·have:=zQx h.st;omega
 have oB:zQl w2 35 3 s ((L.dh ++ [q]).flatMap zV7):=by
  rw[List.flatMap_append,List.flatMap_singleton]
  exact hrow.fr fZ λb hb e=>hsn b hb e
 have oth:∀{e:TypeId} {sz:Nat} {s':SV} {vs:List Value},zQl w e sz s' vs->e ≠ 35->e ≠ 108->zQl w2 e sz s' vs:=λhr' h1 h2=>hr'.fr hf λb hb hx=>by
  rcases hx with rfl|hx
  ·exact hr'.other h.st h2 hb
  ·exact zQq hr' h.dn h1 b hb hx
 have tabo:∀{t:Tbl} {x:HT},zJD w t x->zJD w2 t x:=λht=>ht.fr hf λb hb hx=>by
  rcases hx with rfl|hx
  ·exact ht.other h.st (by decide) (by decide) hb
  ·obtain⟨_,hd|⟨g,cur,h3,h4,_⟩⟩:=h.dn
   ·rw[hd]at hx;simp[zQe]at hx
   ·simp[zQe,h3]at hx;subst hx
    exact ht.other h4 (by decide) (by decide) hb
 have hown:∀b,SL.own { L with dn:=s,dh:=L.dh ++ [q] } b->L.own b∨w.heap.size<=b:=λb hb=>by
  rcases hb with hb|hb|hb|hb|hb|hb
  ·exact .inl (.inl hb)
  ·exact .inl (.inr (.inl hb))
  ·rcases hblk b hb with h1|h1
   ·exact .inl (.inr (.inr (.inl h1)))
   ·exact .inr h1
  ·exact .inl (.inr (.inr (.inr (.inl hb))))
  ·exact .inl (.inr (.inr (.inr (.inr (.inl hb)))))
  ·exact .inl (.inr (.inr (.inr (.inr (.inr hb)))))
 have hleft:zZe w w2 L { L with dn:=s,dh:=L.dh ++ [q] }:=⟨hf.mono λb hb _=>hb.elim .inl λhb=>.inr (.inr (.inl hb)),hown,rfl⟩
 refine hK w2 { L with dn:=s,dh:=L.dh ++ [q] } ⟨aN,h.lv.fr hf λb hb hx=>?_,oB,oth h.wr (by decide) (by decide),oth h.pt (by decide) (by decide),tabo h.now,h.ll,by simp[hdl],h.wl,λi x u hx hu=>tabo (h.lvs i x u hx hu),λb hb hx=>?_,h.dj,h.djl,λb hb=>Nat.lt_of_lt_of_le (h.xl b hb) hf.size,?_⟩ hleft rfl rfl
 ·rcases hx with rfl|hx
  ·exact h.lv.other h.st (by decide) hb
  ·exact h.ld b hb hx
 ·rcases hblk b hx with h1|h1
  ·exact h.ld b hb h1
  ·have:=h.lv.lt b hb;omega
 ·have k1:=hleft.keep (X:=X) h.kp h.xl
  have k2:=hleft.keep (X:=X) hq h.xl
  intro w3 h3
  obtain⟨a1,a2,a3,a4,a5,a6⟩:=k1 w3 h3
  refine⟨a1,a2,λi x u hx hu=>?_,a4,a5,a6⟩
  rcases Nat.lt_trichotomy i d.σ.done.length with hi|hi|hi
  ·have hx:(L.dh ++ [q])[i]?=some x:=hx
   have hu:(d.σ.done ++ [t])[i]?=some u:=hu
   rw[List.getElem?_append_left (by omega)]at hx hu
   exact a3 i x u hx hu
  ·have hx:(L.dh ++ [q])[i]?=some x:=hx
   have hu:(d.σ.done ++ [t])[i]?=some u:=hu
   rw[List.getElem?_append_right (by omega),hdl,hi,Nat.sub_self]at hx
   rw[List.getElem?_append_right (by omega),hi,Nat.sub_self]at hu
   simp at hx hu;subst hx hu
   exact⟨hp,k2 w3 h3⟩
  ·have hu:(d.σ.done ++ [t])[i]?=some u:=hu
   rw[List.getElem?_eq_none (by rw[List.length_append,List.length_singleton];omega)]at hu;cases hu
end Go.Proofs.YtaeecpjhfmcliaaGreatDoor
/- The log: the parts of a store are written, one by one, continued. No condition but those stated. -/
namespace Go.Proofs.YtaeecpjhfmcliaaGreatDoor
open Go.Sh Go.RowKit Tryz
variable {w0 w w' : World} {X : Nat -> Prop} {L L' : SL} {d d' : Dat} {mu : Int}
theorem zQG.oth (h:zQG X w L d mu) {er:TypeId} {szr:Nat} {row:SV} {vsr:List Value} (hr:zQl w er szr row vsr) (hf:Fr (λb=>b=L.S∨b ∈ zQe row) w w') {e:TypeId} {sz:Nat} {s:SV} {vs:List Value} (hx:zQl w e sz s vs) (h1:e ≠ er) (h2:e ≠ 108):zQl w' e sz s vs:=
 hx.fr hf λb hb hB=>by
  rcases hB with rfl|hB
  ·exact hx.other h.st h2 hb
  ·exact zQq hx hr h1 b hb hB
theorem zQG.tabo (h:zQG X w L d mu) {er:TypeId} {szr:Nat} {row:SV} {vsr:List Value} (hr:zQl w er szr row vsr) (hf:Fr (λb=>b=L.S∨b ∈ zQe row) w w') (h1:er ≠ 67) (h2:er ≠ 73) {t:Tbl} {x:HT} (ht:zJD w t x):zJD w' t x:=
 ht.fr hf λb hb hB=>by
  rcases hB with rfl|hB
  ·exact ht.other h.st (by decide) (by decide) hb
  ·obtain⟨_,hd|⟨g,cur,h3,h4,_⟩⟩:=hr
   ·rw[hd]at hB;simp[zQe]at hB
   ·simp[zQe,h3]at hB;subst hB
    exact ht.other h4 h1 h2 hb
theorem zQG.grow (h:zQG X w L d mu) {er:TypeId} {szr:Nat} {row s:SV} {vsr:List Value} {w1:World} (hr:zQl w er szr row vsr) (he:er ≠ 108) (dY:Fr (· ∈ zQe row) w w1) (hblk:∀k ∈ zQe s,k ∈ zQe row∨w.heap.size<=k) {o:Nat} (ho:o<11) {v:Value} {K:World->Prop}
  (hK:∀w2,w2.heap[L.S]?=some (.cells ((zJU mu L).setIfInBounds o v) 108)->Fr (λb=>b=L.S∨b ∈ zQe row) w w2->Fr (·=L.S) w1 w2->(∀b ∈ zQe s,b ≠ L.S)->K w2):st1 ((⟨L.S,0,none⟩:Addr).add o) v w1 K:=by
 have hnS:L.S ∉ zQe row:=hr.other h.st he
 rw[zQr,Nat.zero_add]
 refine zQt (dY.blk h.st hnS) ho λw2 mV aN=>?_
 have fZ:Fr (·=L.S) w1 w2:=by rw[mV];exact Fr.cell w1 _ _ _
 refine hK w2 aN ((dY.mono λb hb _=>.inr hb).trans fZ λb hb _=>.inl hb) fZ λb hb e=>?_
 rcases hblk b hb with h1|h1
 ·exact hnS (by rw[←e];exact h1)
 ·have:=zQx h.st;omega
theorem yXm {α β:Type} {l:List α} {m:List β} {a:α} {b:β} (hl:l.length=m.length) {P:α->β->Prop} (h:∀(i:Nat) x y,l[i]?=some x->m[i]?=some y->P x y) (h0:P a b):∀(i:Nat) x y,(l ++ [a])[i]?=some x->(m ++ [b])[i]?=some y->P x y:=λi x y hx hy=>by
 rcases Nat.lt_trichotomy i m.length with hi|hi|hi
 ·rw[List.getElem?_append_left (by omega)]at hx hy
  exact h i x y hx hy
 ·rw[List.getElem?_append_right (by omega),hl,hi,Nat.sub_self]at hx
  rw[List.getElem?_append_right (by omega),hi,Nat.sub_self]at hy
  simp at hx hy;subst hx hy
  exact h0
 ·rw[List.getElem?_eq_none (by rw[List.length_append,List.length_singleton];omega)]at hy;cases hy
theorem zQG.pushWr (h:zQG X w L d mu) {q:SV} {y:Wr} (hq:∀w2,Fr (λb=>L.own b∨X b) w w2->ByV w2 q y.b) {r:Nat} (hr:w.heap[r]?=some (.cells #[.int .i64 y.file,.int .i64 y.at_,slV q] 90)) (hn:d.wr.length<=1000000)
  {K:World->Prop} (hK:∀w' L',zQG X w' L' { d with wr:=d.wr ++ [y] } mu->zZe w w' L L'->L'.last=L.last->K w') :
  ∃s:SV,∃w1:World,(Builtin.append_ #[87,87] 87 #[slV L.wr,.slice (some ⟨r,0,none⟩) 1 1]).run prog w=.ok (slV s) w1/\st1 ((⟨L.S,0,none⟩:Addr).add 9) (slV s) w1 K:=by
 have hl:=h.wr.len zXL (by decide)
 have hwl:=h.wl
 obtain⟨s,w1,hra,hrow,dY,hblk,hsl⟩:=zQy (P:=prog) (ty:=87) vu87 vi90 rfl (by decide) h.wr (A:=some ⟨r,0,none⟩) (m:=1) (c:=1) (news:=wrC (y.file,y.at_,q)) rfl (λj u hu=>⟨_,rfl,by rw[cl hr];simpa using hu⟩) (λu hu=>by simp[wrC]at hu;rcases hu with rfl|rfl|rfl <;> rfl) (by show(L.wr.len+1) * (40+1)<=_;omega)
 refine⟨s,w1,hra,h.grow h.wr (by decide) dY hblk (by decide) λw2 aN hf fZ hsn=>?_⟩
 have hown:∀b,SL.own { L with wr:=s,wh:=L.wh ++ [(y.file,y.at_,q)] } b->L.own b∨w.heap.size<=b:=λb hb=>by
  rcases hb with hb|hb|hb|hb|hb|hb
  ·exact .inl (.inl hb)
  ·exact .inl (.inr (.inl hb))
  ·exact .inl (.inr (.inr (.inl hb)))
  ·rcases hblk b hb with h1|h1
   ·exact .inl (.inr (.inr (.inr (.inl h1))))
   ·exact .inr h1
  ·exact .inl (.inr (.inr (.inr (.inr (.inl hb)))))
  ·exact .inl (.inr (.inr (.inr (.inr (.inr hb)))))
 have hleft:zZe w w2 L { L with wr:=s,wh:=L.wh ++ [(y.file,y.at_,q)] }:=⟨hf.mono λb hb _=>hb.elim .inl λhb=>.inr (.inr (.inr (.inl hb))),hown,rfl⟩
 refine hK w2 { L with wr:=s,wh:=L.wh ++ [(y.file,y.at_,q)] } ⟨aN,h.oth h.wr hf h.lv (by decide) (by decide),h.oth h.wr hf h.dn (by decide) (by decide),?_,h.oth h.wr hf h.pt (by decide) (by decide),h.tabo h.wr hf (by decide) (by decide) h.now,h.ll,h.dl,by simp[hwl],λi x u hx hu=>h.tabo h.wr hf (by decide) (by decide) (h.lvs i x u hx hu),h.ld,h.dj,h.djl,λb hb=>Nat.lt_of_lt_of_le (h.xl b hb) hf.size,?_⟩ hleft rfl
 ·show zQl w2 90 3 s ((L.wh ++ [(y.file,y.at_,q)]).flatMap wrC)
  rw[List.flatMap_append,List.flatMap_singleton]
  exact hrow.fr fZ λb hb e=>hsn b hb e
 ·have k1:=hleft.keep (X:=X) h.kp h.xl
  have k2:=hleft.keep (X:=X) hq h.xl
  intro w3 h3
  obtain⟨a1,a2,a3,a4,a5,a6⟩:=k1 w3 h3
  exact⟨a1,a2,a3,a4,a5,yXm (P:=λx y=>x.1=y.file/\x.2.1=y.at_/\ByV w3 x.2.2 y.b) h.wl a6 ⟨rfl,rfl,k2 w3 h3⟩⟩
theorem zQG.pushPt (h:zQG X w L d mu) {n:Int} {r:Nat} (hr:w.heap[r]?=some (.cells #[.int .i64 n] 3)) (hn:d.pts.length<=1000000)
  {K:World->Prop} (hK:∀w' L',zQG X w' L' { d with pts:=d.pts ++ [n] } mu->zZe w w' L L'->K w') :
  ∃s:SV,∃w1:World,(Builtin.append_ #[52,52] 52 #[slV L.pt,.slice (some ⟨r,0,none⟩) 1 1]).run prog w=.ok (slV s) w1/\st1 ((⟨L.S,0,none⟩:Addr).add 10) (slV s) w1 K:=by
 have hl:=h.pt.1
 rw[List.length_map,Nat.mul_one]at hl
 obtain⟨s,w1,hra,hrow,dY,hblk,hsl⟩:=zQy (P:=prog) (ty:=52) vu52 vi3 rfl (by decide) h.pt (A:=some ⟨r,0,none⟩) (m:=1) (c:=1) (news:=[.int .i64 n]) rfl (λj u hu=>⟨_,rfl,by rw[cl hr];simpa using hu⟩) (λu hu=>by simp at hu;subst hu;rfl) (by show(L.pt.len+1) * (8+1)<=_;omega)
 refine⟨s,w1,hra,h.grow h.pt (by decide) dY hblk (by decide) λw2 aN hf fZ hsn=>?_⟩
 have hown:∀b,SL.own { L with pt:=s } b->L.own b∨w.heap.size<=b:=λb hb=>by
  rcases hb with hb|hb|hb|hb|hb|hb
  ·exact .inl (.inl hb)
  ·exact .inl (.inr (.inl hb))
  ·exact .inl (.inr (.inr (.inl hb)))
  ·exact .inl (.inr (.inr (.inr (.inl hb))))
  ·rcases hblk b hb with h1|h1
   ·exact .inl (.inr (.inr (.inr (.inr (.inl h1)))))
   ·exact .inr h1
  ·exact .inl (.inr (.inr (.inr (.inr (.inr hb)))))
 have hleft:zZe w w2 L { L with pt:=s }:=⟨hf.mono λb hb _=>hb.elim .inl λhb=>.inr (.inr (.inr (.inr (.inl hb)))),hown,rfl⟩
 refine hK w2 { L with pt:=s } ⟨aN,h.oth h.pt hf h.lv (by decide) (by decide),h.oth h.pt hf h.dn (by decide) (by decide),h.oth h.pt hf h.wr (by decide) (by decide),?_,h.tabo h.pt hf (by decide) (by decide) h.now,h.ll,h.dl,h.wl,λi x u hx hu=>h.tabo h.pt hf (by decide) (by decide) (h.lvs i x u hx hu),h.ld,h.dj,h.djl,λb hb=>Nat.lt_of_lt_of_le (h.xl b hb) hf.size,?_⟩ hleft
 ·show zQl w2 3 1 s ((d.pts ++ [n]).map (Value.int .i64))
  rw[List.map_append]
  exact hrow.fr fZ λb hb e=>hsn b hb e
 ·have k1:=hleft.keep (X:=X) h.kp h.xl
  intro w3 h3
  obtain⟨a1,a2,a3,a4,a5,a6⟩:=k1 w3 h3
  exact⟨a1,a2,a3,a4,a5,a6⟩
theorem zQG.setLast (h:zQG X w L d mu) {s q0 q1:SV} {F:Fls} (hq:∀w2,Fr (λb=>L.own b∨X b) w w2->zXE w2 s q0 q1 F) {K:World->Prop} (hK:∀w' L',zQG X w' L' { d with last:=F } mu->zZe w w' L L'->K w'):st1 ((⟨L.S,0,none⟩:Addr).add 8) (slV s) w K:=by
 rw[zQr,Nat.zero_add]
 refine zQt h.st (by show 8<11;omega) λw2 mV aN=>?_
 have fZ:Fr (·=L.S) w w2:=by rw[mV];exact Fr.cell w _ _ _
 have hleft:zZe w w2 L { L with last:=s,l0:=q0,l1:=q1 }:=⟨fZ.mono λb hb _=>.inl hb,λb hb=>.inl hb,rfl⟩
 have oth:∀{e:TypeId} {sz:Nat} {s':SV} {vs:List Value},zQl w e sz s' vs->e ≠ 108->zQl w2 e sz s' vs:=λhx h2=>hx.fr fZ λb hb e=>hx.other h.st h2 (by rw[←show b=L.S from e];exact hb)
 have tabo:∀{t:Tbl} {x:HT},zJD w t x->zJD w2 t x:=λht=>ht.fr fZ λb hb e=>ht.other h.st (by decide) (by decide) (by rw[←show b=L.S from e];exact hb)
 refine hK w2 { L with last:=s,l0:=q0,l1:=q1 } ⟨aN,oth h.lv (by decide),oth h.dn (by decide),oth h.wr (by decide),oth h.pt (by decide),tabo h.now,h.ll,h.dl,h.wl,λi x u hx hu=>tabo (h.lvs i x u hx hu),h.ld,h.dj,h.djl,λb hb=>Nat.lt_of_lt_of_le (h.xl b hb) fZ.size,?_⟩ hleft
 have k1:=hleft.keep (X:=X) h.kp h.xl
 have k2:=hleft.keep (X:=X) hq h.xl
 intro w3 h3
 obtain⟨a1,a2,a3,a4,a5,a6⟩:=k1 w3 h3
 exact⟨a1,a2,a3,a4,k2 w3 h3,a6⟩
theorem zQG.pushLev (h:zQG X w0 L d mu) (hp:Pu w0 w) {q:HT} {t:Tbl} (hq:zWt w0 w t q) (hv:zQh t=0) {r:Nat} (hr:w.heap[r]?=some (.cells (zV7 q).toArray 35)) (hn:d.σ.lev.length<=1000000)
  {K:World->Prop} (hK:∀w' L',zQG X w' L' { d with σ:={ d.σ with lev:=d.σ.lev ++ [t] } } mu->zZe w0 w' L L'->K w') :
  ∃s:SV,∃w1:World,(Builtin.append_ #[106,106] 106 #[slV L.lv,.slice (some ⟨r,0,none⟩) 1 1]).run prog w=.ok (slV s) w1/\st1 ((⟨L.S,0,none⟩:Addr).add 5) (slV s) w1 K:=by
 have h1:=h.pu hp
 have hl:=h1.lv.len zQv (by decide)
 have hll:=h.ll
 obtain⟨s,w1,hra,hrow,dY,hblk,hsl⟩:=zQy (P:=prog) (ty:=106) xJt vi35 rfl (by decide) h1.lv (A:=some ⟨r,0,none⟩) (m:=1) (c:=1) (news:=zV7 q) rfl (λj u hu=>⟨_,rfl,by rw[cl hr];simpa using hu⟩) (λu hu=>by simp[zV7]at hu;rcases hu with rfl|rfl|rfl <;> rfl) (by show(L.lv.len+1) * (56+1)<=_;omega)
 refine⟨s,w1,hra,h1.grow h1.lv (by decide) dY hblk (by decide) λw2 aN hf fZ hsn=>?_⟩
 have hz:=hp.size
 have hqo:∀b,q.own b->w0.heap.size<=b:=λb hb=>hb.elim (hq.rn b) (hq.vn b)
 have hown:∀b,SL.own { L with lv:=s,lh:=L.lh ++ [q] } b->L.own b∨w0.heap.size<=b:=λb hb=>by
  rcases hb with hb|hb|hb|hb|hb|⟨x,hx,hb⟩
  ·exact .inl (.inl hb)
  ·rcases hblk b hb with h1|h1
   ·exact .inl (.inr (.inl h1))
   ·exact .inr (by omega)
  ·exact .inl (.inr (.inr (.inl hb)))
  ·exact .inl (.inr (.inr (.inr (.inl hb))))
  ·exact .inl (.inr (.inr (.inr (.inr (.inl hb)))))
  ·have hx:x ∈ L.now :: (L.lh ++ [q]):=hx
   rw[←List.cons_append,List.mem_append,List.mem_singleton]at hx
   rcases hx with hx|rfl
   ·exact .inl (.inr (.inr (.inr (.inr (.inr ⟨x,hx,hb⟩)))))
   ·exact .inr (hqo b hb)
 have hfL:Fr L.own w0 w2:=(Fr.pu hp:Fr L.own w0 w).trans (hf.mono λb hb _=>hb.elim .inl λhb=>.inr (.inl hb)) λb hb _=>hb
 have hleft:zZe w0 w2 L { L with lv:=s,lh:=L.lh ++ [q] }:=⟨hfL,hown,rfl⟩
 have rP:zWt w0 w2 t q:=hq.fr hf λb hb hlt e=>by
  rcases e with rfl|e
  ·have:=h.own_lt (.inl rfl);omega
  ·have:=h.lv.lt b e;omega
 have lt:∀x ∈ L.lh,∀b,x.own b->b<w0.heap.size:=λx hx b hb=>h.own_lt (.inr (.inr (.inr (.inr (.inr ⟨x,List.mem_cons_of_mem _ hx,hb⟩)))))
 refine hK w2 { L with lv:=s,lh:=L.lh ++ [q] } ⟨aN,?_,h1.dn.fr hf λb hb hx=>?_,h1.oth h1.lv hf h1.wr (by decide) (by decide),h1.oth h1.lv hf h1.pt (by decide) (by decide),h1.tabo h1.lv hf (by decide) (by decide) h1.now,by simp[hll],h.dl,h.wl,yXm (P:=λx u=>zJD w2 u x) h.ll (λi x u hx hu=>h1.tabo h1.lv hf (by decide) (by decide) (h1.lvs i x u hx hu)) rP.tab,λb hb hx=>?_,λx hx b hb hxb=>?_,λi j x y hij hx hy b hb hyb=>?_,λb hb=>Nat.lt_of_lt_of_le (h.xl b hb) hfL.size,?_⟩ hleft
 ·show zQl w2 35 3 s ((L.lh ++ [q]).flatMap zV7)
  rw[List.flatMap_append,List.flatMap_singleton]
  exact hrow.fr fZ λb hb e=>hsn b hb e
 ·rcases hx with rfl|hx
  ·exact h1.dn.other h1.st (by decide) hb
  ·exact h.ld b hx hb
 ·rcases hblk b hb with h2|h2
  ·exact h.ld b h2 hx
  ·have:=h1.dn.lt b hx;omega
 ·rcases List.mem_append.1 hx with hx|hx
  ·exact h.dj x hx b hb hxb
  ·rw[List.mem_singleton.1 hx]at hxb
   have:=hqo b hxb
   have:=h.own_lt (b:=b) (.inr (.inr (.inr (.inr (.inr ⟨L.now,List.mem_cons_self,hb⟩)))))
   omega
 ·have xR:(L.lh ++ [q])[i]?=some x:=hx
  have qI:(L.lh ++ [q])[j]?=some y:=hy
  rw[List.getElem?_append]at xR qI
  split at xR
  ·split at qI
   ·exact h.djl i j x y hij xR qI b hb hyb
   ·have e:y=q:=List.mem_singleton.1 (List.mem_of_getElem? qI)
    have:=hqo b (by rw[←e];exact hyb)
    have:=lt x (List.mem_of_getElem? xR) b hb
    omega
  ·have e:x=q:=List.mem_singleton.1 (List.mem_of_getElem? xR)
   split at qI
   ·have:=hqo b (by rw[←e];exact hb)
    have:=lt y (List.mem_of_getElem? qI) b hyb
    omega
   ·have hi:=(List.getElem?_eq_some_iff.1 xR).1
    have hj:=(List.getElem?_eq_some_iff.1 qI).1
    simp at hi hj
    omega
 ·have k1:=hleft.keep (X:=X) h.kp h.xl
  intro w3 h3
  obtain⟨a1,a2,a3,a4,a5,a6⟩:=k1 w3 h3
  refine⟨a1,yXm (P:=λx u=>zX6 w3 x.f u.fields) h.ll a2 ?_,a3,a4,a5,a6⟩
  have hr3:zQl w3 129 4 q.f (t.fields.flatMap zVT):=by
   refine rP.f.fr h3 λb hb e=>?_
   have hbn:=rP.fn b hb
   rcases e with e|e
   ·
    rcases e with e|e|e|e|e|⟨x,hx,e⟩
    ·have e:b=L.S:=e
     have:=h.own_lt (b:=b) (.inl e)
     omega
    ·exact zQq rP.f (show zQl w2 35 3 s ((L.lh ++ [q]).flatMap zV7)by
      rw[List.flatMap_append,List.flatMap_singleton];exact hrow.fr fZ λb hb e=>hsn b hb e) (by decide) b hb e
    ·have:=h.dn.lt b e;omega
    ·have:=h.wr.lt b e;omega
    ·have:=h.pt.lt b e;omega
    ·have hx:x ∈ L.now :: (L.lh ++ [q]):=hx
     rw[←List.cons_append,List.mem_append,List.mem_singleton]at hx
     rcases hx with hx|rfl
     ·have:=h.own_lt (b:=b) (.inr (.inr (.inr (.inr (.inr ⟨x,hx,e⟩)))));omega
     ·obtain⟨_,hd|⟨g,cur,g3,g4,_⟩⟩:=rP.f
      ·rw[hd]at hb;simp[zQe]at hb
      ·simp[zQe,g3]at hb;subst hb
       exact rP.tab.other g4 (by decide) (by decide) e
   ·have:=h.xl b e;omega
  exact zWP hv hr3
theorem zQG.reNow (h:zQG X w0 L d mu) (hp:Pu w0 w) {B:Nat->Prop} (hf:Fr B w w') (hB:∀b,B b->b=L.S∨L.now.own b) {q:HT} {t:Tbl} (hst:w'.heap[L.S]?=some (.cells (zJU mu { L with now:=q }) 108)) (hq:zJD w' t q) (ho:∀b,q.own b->L.now.own b∨w0.heap.size<=b)
  (hqf:q.f=L.now.f) (hft:t.fields=d.σ.t.fields):zQG X w' { L with now:=q } { d with σ:={ d.σ with t:=t } } mu/\zZe w0 w' L { L with now:=q }:=by
 have h1:=h.pu hp
 have hown:∀b,SL.own { L with now:=q } b->L.own b∨w0.heap.size<=b:=λb hb=>by
  rcases hb with hb|hb|hb|hb|hb|⟨x,hx,hb⟩
  ·exact .inl (.inl hb)
  ·exact .inl (.inr (.inl hb))
  ·exact .inl (.inr (.inr (.inl hb)))
  ·exact .inl (.inr (.inr (.inr (.inl hb))))
  ·exact .inl (.inr (.inr (.inr (.inr (.inl hb)))))
  ·rcases List.mem_cons.1 hx with rfl|hx
   ·rcases ho b hb with h2|h2
    ·exact .inl (.inr (.inr (.inr (.inr (.inr ⟨L.now,List.mem_cons_self,h2⟩)))))
    ·exact .inr h2
   ·exact .inl (.inr (.inr (.inr (.inr (.inr ⟨x,List.mem_cons_of_mem _ hx,hb⟩)))))
 have hfL:Fr L.own w0 w':=(Fr.pu hp:Fr L.own w0 w).trans (hf.mono λb hb _=>(hB b hb).elim .inl λhb=>.inr (.inr (.inr (.inr (.inr ⟨L.now,List.mem_cons_self,hb⟩))))) λb hb _=>hb
 have hleft:zZe w0 w' L { L with now:=q }:=⟨hfL,hown,rfl⟩
 have oth:∀{e:TypeId} {sz:Nat} {s':SV} {vs:List Value},zQl w e sz s' vs->e ≠ 108->e ≠ 67->e ≠ 73->zQl w' e sz s' vs:=λ{e sz s' vs} hx h2 h3 h4=>hx.fr hf λb hb hbB=>by
  rcases hB b hbB with rfl|hn
  ·exact hx.other h1.st h2 hb
  ·obtain⟨_,hd|⟨g,cur,g3,g4,_⟩⟩:=hx
   ·rw[hd]at hb;simp[zQe]at hb
   ·simp[zQe,g3]at hb;subst hb
    exact h1.now.other g4 h3 h4 hn
 have lt:∀x ∈ L.lh,∀b,x.own b->b<w0.heap.size:=λx hx b hb=>h.own_lt (.inr (.inr (.inr (.inr (.inr ⟨x,List.mem_cons_of_mem _ hx,hb⟩)))))
 refine⟨⟨hst,oth h1.lv (by decide) (by decide) (by decide),oth h1.dn (by decide) (by decide) (by decide),oth h1.wr (by decide) (by decide) (by decide),oth h1.pt (by decide) (by decide) (by decide),hq,h.ll,h.dl,h.wl,λi x u hx hu=>?_,h.ld,λx hx b hb hxb=>?_,h.djl,λb hb=>Nat.lt_of_lt_of_le (h.xl b hb) hfL.size,?_⟩,hleft⟩
 ·refine(h1.lvs i x u hx hu).fr hf λb hb hbB=>?_
  rcases hB b hbB with rfl|hn
  ·exact(h1.lvs i x u hx hu).other h1.st (by decide) (by decide) hb
  ·exact h.dj x (List.mem_of_getElem? hx) b hn hb
 ·rcases ho b hb with h2|h2
  ·exact h.dj x hx b h2 hxb
  ·have:=lt x hx b hxb;omega
 ·have k1:=hleft.keep (X:=X) h.kp h.xl
  intro w3 h3
  obtain⟨a1,a2,a3,a4,a5,a6⟩:=k1 w3 h3
  exact⟨by show zX6 w3 q.f t.fields;rw[hqf,hft];exact a1,a2,a3,a4,a5,a6⟩
end Go.Proofs.YtaeecpjhfmcliaaGreatDoor
/- The log: what a recovery writes; stores are made. No condition but those stated. -/
namespace Go.Proofs.YtaeecpjhfmcliaaGreatDoor
open Go.Sh Go.RowKit Tryz
variable {w w' : World}
def xQZ(w0 w:World)(q:SV)(b:List UInt8):Prop:=(q=⟨none,0,0⟩/\b=[])∨zQf w0 w q b
theorem xQZ.fr{w0:World}{q:SV}{b:List UInt8}{B:Nat->Prop}(h:xQZ w0 w q b)(hf:Fr B w w')(hB:∀k,w0.heap.size<=k->k<w.heap.size->¬B k):xQZ w0 w' q b:=h.imp id λh=>h.fr hf λk hk=>hB k (h.2 k hk) (h.1.lt k hk)
theorem xQZ.by{w0:World}{q:SV}{b:List UInt8}(h:xQZ w0 w q b)(hl:b.length<=1000000000):ByV w q b:=by
 rcases h with⟨rfl,rfl⟩|h
 ·exact⟨rfl,Nat.le_refl _,Nat.zero_le _,λj b hj=>by simp at hj⟩
 ·exact h.by (by omega)
structure zKa (w0 w:World) (q:SV) (wh:List (Int × Int × SV)) (l:List Wr):Prop where
 row:zQl w 90 3 q (wh.flatMap wrC)
 rn:∀b ∈ zQe q,w0.heap.size<=b
 len:wh.length=l.length
 each:∀(i:Nat) x y,wh[i]?=some x->l[i]?=some y->x.1=y.file/\x.2.1=y.at_/\xQZ w0 w x.2.2 y.b
theorem zKa.nil(w0 w:World):zKa w0 w ⟨none,0,0⟩ [] []:=⟨zQl.nil w 90 3,by simp[zQe],rfl,λi x y hx=>by simp at hx⟩
theorem zKa.pu {w0:World} {q:SV} {wh:List (Int × Int × SV)} {l:List Wr} (h:zKa w0 w q wh l) (hp:Pu w w'):zKa w0 w' q wh l:=
 ⟨h.row.pu hp,h.rn,h.len,λi x y hx hy=>⟨(h.each i x y hx hy).1,(h.each i x y hx hy).2.1,(h.each i x y hx hy).2.2.fr (Fr.pu hp:Fr (λ_=>False) w w') λ_ _ _ h=>h⟩⟩
theorem zKa.push {w0:World} {q:SV} {wh news:List (Int × Int × SV)} {l lnew:List Wr} (h:zKa w0 w q wh l) (hz:w0.heap.size<=w.heap.size) {r:Nat} (hr:w.heap[r]?=some (.cells (news.flatMap wrC).toArray 90)) (hn:news.length=lnew.length) (hb:l.length+lnew.length<=100000)
  (he:∀(i:Nat) x y,news[i]?=some x->lnew[i]?=some y->x.1=y.file/\x.2.1=y.at_/\xQZ w0 w x.2.2 y.b) :
  ∃(s:SV) (w1:World),(Builtin.append_ #[87,87] 87 #[slV q,.slice (some ⟨r,0,none⟩) news.length news.length]).run prog w=.ok (slV s) w1/\zKa w0 w1 s (wh ++ news) (l ++ lnew)/\Fr (· ∈ zQe q) w w1:=by
 have hl:=h.row.len zXL (by decide)
 have hll:=h.len
 obtain⟨s,w1,hra,hrow,dY,hblk,hsl⟩:=zQy (P:=prog) (ty:=87) vu87 vi90 rfl (by decide) h.row (A:=some ⟨r,0,none⟩) (m:=news.length) (c:=news.length) (news:=news.flatMap wrC) (by rw[zQ2 zXL]) (λj u hu=>⟨_,rfl,by rw[cl hr];simpa using hu⟩) (λu hu=>by
  obtain⟨y,_,hy⟩:=List.mem_flatMap.1 hu
  simp[wrC]at hy
  rcases hy with rfl|rfl|rfl <;> rfl) (by show(q.len+news.length) * (40+1)<=_;omega)
 have keep:∀{x:SV} {b:List UInt8},xQZ w0 w x b->xQZ w0 w1 x b:=λhx=>hx.imp id λhx=>hx.fr dY λk hk e=>zQq hx.1 h.row (by decide) k hk e
 refine⟨s,w1,hra,⟨by rw[List.flatMap_append];exact hrow,λb hb=>?_,by simp[hll,hn],λi x y hx hy=>?_⟩,dY⟩
 ·rcases hblk b hb with h1|h1
  ·exact h.rn b h1
  ·omega
 ·rw[List.getElem?_append]at hx hy
  split at hx
  ·rename_i hi
   rw[if_pos (by omega)]at hy
   obtain⟨a,b,c⟩:=h.each i x y hx hy
   exact⟨a,b,keep c⟩
  ·rename_i hi
   rw[if_neg (by omega)]at hy
   rw[hll]at hx
   obtain⟨a,b,c⟩:=he _ x y hx hy
   exact⟨a,b,keep c⟩
def mendT(R:Rt)(r3:Nat)(bR:SV)(nQ:Bool)(w6:World):Prop:=
 Br nQ (
 ∃dL:Int,w6.cell? ((⟨r3,0,none⟩:Addr).add 0)=some (.int .i64 dL)/\
 ∃bh:SV,w6.cell? ((⟨r3,0,none⟩:Addr).add 1)=some (.slice bh.a bh.len bh.cap)/\
 ∃bi:SV,w6.cell? ((⟨r3,0,none⟩:Addr).add 2)=some (.slice bi.a bi.len bi.cap)/\
 Calls prog 86 #[.agg #[.int .i64 dL,.slice bh.a bh.len bh.cap,.slice bi.a bi.len bi.cap]] w6 λe w7=>
 ∃cS:SV,∃gD:Int,e=.returned (.tuple #[.slice cS.a cS.len cS.cap,.int .i64 gD])/\
 alE (.cells #[.int .i64 0,.int .i64 0,.slice none 0 0,.int .i64 0,.int .i64 0,.slice cS.a cS.len cS.cap,.int .i64 1,.int .i64 0,.slice none 0 0] 90) w7 λzo w8=>
 ∃bH:SV,∃w9:World,(Builtin.append_ #[87,87] 87 #[.slice bR.a bR.len bR.cap,.slice (some ⟨zo,0,none⟩) 3 3]).run prog w8=.ok (.slice bH.a bH.len bH.cap) w9/\
 R (.returned (.slice bH.a bH.len bH.cap)) w9) (
 R (.returned (.slice bR.a bR.len bR.cap)) w6)
def MendR(w:World)(F:Fls):Rt:=λe w'=>Pu w w'/\∃(q:SV) (wh:List (Int × Int × SV)),e=.returned (slV q)/\zKa w w' q wh (zXM F)
theorem yZe {s q0 q1:SV} {F:Fls} (h:zXE w s q0 q1 F) (hF:F.1.length<=900000000/\F.2.length<=900000000) {t:Tbl} (ht:(zQJ F).1=some t):Calls prog 48 #[slV s] w (MendR w F):=by
 have hv:=zKW ht
 have hl:=h.len
 refine xXV _ w _ ((xQ7 h hF).mono ?_)
 rintro e w1 ⟨aq,p,f,r,n,a,b,rfl,rfl,rfl,hO⟩
 rcases hO with⟨_,h0⟩|⟨rfl,u,hu,rfl,hO⟩
 ·rw[ht]at h0;cases h0
 rw[ht]at hu;cases hu
 have hrl:(zQJ F).2.1.length<=F.2.length:=by
  obtain⟨_,fr,h2,_⟩:=yXB (zXG F.1) false F.2
  have:=congrArg List.length h2
  rw[List.length_append]at this
  show(zKf (zXG F.1) false F.2).2.1.length<=_
  omega
 refine⟨_,f,r,_,_,_,rfl,alB λw2 ar aN=>zQi aN zKS.symm rfl rfl λw3 br fU _=>?_⟩
 have bn:Pu w1 w3:=ar.andNew fU λi hi=>by rw[show i=_ from hi];exact Nat.le_refl _
 have aV:=aq.trans bn
 obtain⟨aa,ha,c0,c1⟩:=(h.pu aV).ex
 have xN:=h.b1.len
 refine⟨aa,ha,by omega,by omega,q1,c1,?_⟩
 have hRd:=hO.rd (zX8 hv)
 have tail:∀{wz:World} {q:SV} {wh:List (Int × Int × SV)} {l:List Wr},Pu w3 wz->zKa w wz q wh l->l.length<=10->zXM F=l ++ (if (zQJ F).2.2 then [⟨0,0,[]⟩,⟨0,0,zQI t⟩,⟨1,0,[]⟩]else [])->mendT (MendR w F) w1.heap.size q (zQJ F).2.2 wz:=λ{wz q wh l} hpz hW hll hm=>by
  have hp0z:=aV.trans hpz
  refine Br.of (λc=>⟨_,cl (hpz.blk br) 0,f,cl (hpz.blk br) 1,r,cl (hpz.blk br) 2,?_⟩) (λc=>⟨hp0z,q,wh,rfl,?_⟩)
  ·rw[if_pos c]at hm
   refine(yX9 (hRd.pu (bn.trans hpz)) (zZ8 hv)).mono ?_
   rintro e w7 ⟨q7,rfl,h7,cH⟩
   refine⟨q7,_,rfl,alB λw8 cj j1=>?_⟩
   have xa:=cH.trans cj
   obtain⟨s9,w9,hr9,hW9,o6⟩:=(hW.pu xa).push (hp0z.trans xa).size (news:=[(0,0,⟨none,0,0⟩),(0,0,q7),(1,0,⟨none,0,0⟩)]) (lnew:=[⟨0,0,[]⟩,⟨0,0,zQI t⟩,⟨1,0,[]⟩]) j1 rfl (by simp;omega) (λi x y hx hy=>by
    rcases i with _|_|_|i <;> simp at hx hy <;> subst hx <;> subst hy
    ·exact⟨rfl,rfl,.inl ⟨rfl,rfl⟩⟩
    ·exact⟨rfl,rfl,.inr ((h7.pu cj).low hp0z.size)⟩
    ·exact⟨rfl,rfl,.inl ⟨rfl,rfl⟩⟩)
   exact⟨s9,w9,hr9,(hp0z.trans xa).andNew o6 hW.rn,s9,_,rfl,by rw[hm];exact hW9⟩
  ·rw[if_neg (by rw[c];simp),List.append_nil]at hm
   rw[hm];exact hW
 refine Br.of (λc=>?_) (λc=>?_)
 ·have c:=zQk c
  have hne:(zQJ F).2.1 ≠ []:=λe=>by rw[e]at c;simp at c;omega
  refine alB λw5 aU bu=>?_
  have dC:=aV.trans aU
  obtain⟨s6,w6,hr6,hW6,iN⟩:=(zKa.nil w w5).push dC.size (news:=[(1,(F.2.length:Int) - ((zQJ F).2.1.length:Int),⟨none,0,0⟩)]) (lnew:=[⟨1,(F.2.length:Int) - ((zQJ F).2.1.length:Int),[]⟩]) bu rfl (by simp) (λi x y hx hy=>by
   rcases i with _|i <;> simp at hx hy
   subst hx;subst hy
   exact⟨rfl,rfl,.inl ⟨rfl,rfl⟩⟩)
  refine⟨s6,w6,hr6,tail (l:=[⟨1,(F.2.length:Int) - ((zQJ F).2.1.length:Int),[]⟩]) (aU.andNew iN λk hk=>by simp[zQe]at hk) hW6 (by simp) ?_⟩
  unfold zXM
  rw[if_neg hne,ht];rfl
 ·have c:=zQd c
  have h0:(zQJ F).2.1=[]:=List.eq_nil_of_length_eq_zero (by omega)
  refine tail (q:=⟨none,0,0⟩) (l:=[]) (Pu.refl _) (zKa.nil w w3) (by simp) ?_
  unfold zXM
  rw[if_pos h0,ht];rfl
end Go.Proofs.YtaeecpjhfmcliaaGreatDoor
/- The log: stores are made of tables and of files. No condition but those stated. -/
namespace Go.Proofs.YtaeecpjhfmcliaaGreatDoor
open Go.Sh Go.RowKit Tryz
variable {w w' : World} {X : Nat -> Prop}
def NewS(X:Nat->Prop)(w w':World)(p:Option Addr)(d:Dat):Prop:=∃L:SL,p=some ⟨L.S,0,none⟩/\zQG X w' L d 0/\∀b,L.own b->w.heap.size<=b
theorem xYg{t:Tbl}{f r s q0 q1:SV}{F:Fls}(h:zXz w t f r)(hv:zQh t=0)(hX:∀b,X b->b<w.heap.size)(hF:zZd X w s q0 q1 F) :
  Calls prog 50 #[zWR t f r,slV s] w λe w'=>∃p,e=.returned (.pointer p)/\NewS X w w' p (Dat.new t F)/\Pu w w':=by
 refine yYZ _ _ _ _ w _ (alB λw1 aq ay=>zQc λw2 ar _=>?_)
 have aF:=aq.trans ar
 have cM:=ar.blk ay
 refine⟨λu=>Pu w2 u,Pu.refl _,t.page,λu hu=>cl (hu.blk cM) 0,f,λu hu=>cl (hu.blk cM) 1,r,λu hu=>cl (hu.blk cM) 2,t.page,λu hu=>cl (hu.blk cM) 0,f,λu hu=>cl (hu.blk cM) 1,r,λu hu=>cl (hu.blk cM) 2,(zJH (h.pu aF) hv).mono ?_⟩
 rintro e w3 ⟨x,rfl,hx,ax⟩
 refine⟨x.page,x.f,x.r,rfl,ax,(zJH ((h.pu aF).pu ax) hv).mono ?_⟩
 rintro e w4 ⟨y,rfl,hy,aK⟩
 refine⟨y.page,y.f,y.r,rfl,alB λw5 aU bu=>alB λw6 bC fV=>?_⟩
 have dC:=((aF.trans ax).trans aK).trans aU
 have eJ:=dC.trans bC
 have z2:=aF.size
 have z3:=ax.size
 have z4:=aK.size
 have lt4:w4.heap.size<w5.heap.size:=zQx bu
 have lt5:w5.heap.size<w6.heap.size:=zQx fV
 have b9:=bC.blk bu
 have xb:zWt w2 w6 t x:=(((hx.pu aK).pu aU).pu bC)
 have xS:zWt w3 w6 t y:=((hy.pu aU).pu bC)
 have xlt:∀b,x.own b->b<w3.heap.size:=hx.tab.lt
 have xlo:∀b,x.own b->w2.heap.size<=b:=λb hb=>hb.elim (hx.rn b) (hx.vn b)
 obtain⟨L,hL⟩:∃L:SL,L=⟨w5.heap.size,x,⟨none,0,0⟩,[],⟨some ⟨w4.heap.size,0,none⟩,1,1⟩,[y],s,q0,q1,s,q0,q1,⟨none,0,0⟩,[],⟨none,0,0⟩⟩:=⟨_,rfl⟩
 have own:∀b,L.own b->b=w5.heap.size∨b=w4.heap.size∨x.own b:=λb hb=>by
  rw[hL]at hb
  rcases hb with hb|hb|hb|hb|hb|⟨z,hz,hb⟩
  ·exact .inl hb
  ·simp[zQe]at hb
  ·simp[zQe]at hb;exact .inr (.inl hb)
  ·simp[zQe]at hb
  ·simp[zQe]at hb
  ·have hz:z=x:=by simpa using hz
   rw[hz]at hb;exact .inr (.inr hb)
 have sM:∀b,L.own b->w.heap.size<=b:=λb hb=>by
  rcases own b hb with rfl|rfl|hb
  ·omega
  ·omega
  ·have:=xlo b hb;omega
 refine⟨_,rfl,⟨L,by rw[hL],⟨?_,?_,?_,?_,?_,?_,?_,?_,?_,?_,?_,?_,?_,λb hb=>Nat.lt_of_lt_of_le (hX b hb) eJ.size,?_⟩,sM⟩,eJ⟩
 ·rw[hL];exact fV
 ·rw[hL];exact zQl.nil _ _ _
 ·rw[hL]
  refine⟨rfl,.inr ⟨_,_,rfl,b9,Nat.le_refl _,by show 1<=maxLen;unfold maxLen;omega,rfl,rfl⟩⟩
 ·rw[hL];exact zQl.nil _ _ _
 ·rw[hL];exact zQl.nil _ _ _
 ·rw[hL];exact xb.tab
 ·rw[hL];rfl
 ·rw[hL];rfl
 ·rw[hL];rfl
 ·intro i a u ha;rw[hL]at ha;simp at ha
 ·intro b hb;rw[hL]at hb;simp[zQe]at hb
 ·intro a ha;rw[hL]at ha;simp at ha
 ·intro i j a c _ ha;rw[hL]at ha;simp at ha
 ·intro w7 h7
  have hFX:zXE w7 s q0 q1 F:=hF w7 ((Fr.pu eJ:Fr X w w6).trans h7 λb hb hlt=>by
   rcases hb with hb|hb
   ·have:=sM b hb;omega
   ·exact hb)
  have hnb:∀b,w3.heap.size<=b->b<w4.heap.size->¬(L.own b∨X b):=λb h1 h2 e=>by
   rcases e with e|e
   ·rcases own b e with rfl|rfl|e
    ·omega
    ·omega
    ·have:=xlt b e;omega
   ·have:=hX b e;omega
  have hyl:∀b,y.own b->b<w4.heap.size:=hy.tab.lt
  have hy7:zXz w7 t y.f y.r:=by
   have hyt:zJD w7 t y:=xS.tab.fr h7 λb hb=>hnb b (hb.elim (xS.rn b) (xS.vn b)) (hyl b hb)
   have hyf:zQl w7 129 4 y.f (t.fields.flatMap zVT):=xS.f.fr h7 λb hb=>hnb b (xS.fn b hb) (hy.f.lt b hb)
   exact hyt.rd (zWP hv hyf) hv
  have hxf:zX6 w7 x.f t.fields:=by
   refine zWP hv (xb.f.fr h7 λb hb e=>?_)
   rcases e with e|e
   ·rcases own b e with e|e|e
    ·exact xb.f.other fV (by decide) (by rw[←e];exact hb)
    ·exact xb.f.other b9 (by decide) (by rw[←e];exact hb)
    ·obtain⟨_,hd|⟨g,cur,g3,g4,_⟩⟩:=xb.f
     ·rw[hd]at hb;simp[zQe]at hb
     ·simp[zQe,g3]at hb;subst hb
      exact xb.tab.other g4 (by decide) (by decide) e
   ·have:=xb.fn b hb;have:=hX b e;omega
  rw[hL]
  refine⟨hxf,λi a u ha=>by simp at ha,λi a u ha hu=>?_,hFX,hFX,λi a u ha=>by simp at ha⟩
  rcases i with _|i
  ·simp at ha;subst ha
   have hu:[t][0]?=some u:=hu
   simp at hu;subst hu
   exact⟨xS.tab.page,hy7⟩
  ·simp at ha
theorem new_c{t:Tbl}{f r:SV}(h:zXz w t f r)(hl:Lim.ok t.fields)(hX:∀b,X b->b<w.heap.size) :
  Calls prog 43 #[zWR t f r] w λe w'=>Pu w w'/\((zQh t ≠ 0/\e=.returned (.tuple #[.pointer none,.int .i64 (zQh t)]))∨zQh t=0/\∃p,e=.returned (.tuple #[.pointer p,.int .i64 0])/\NewS X w w' p (Dat.new t (zQj t,[]))):=by
 refine xQT _ _ _ w _ (alB λw1 aq ay=>⟨_,cl ay 0,f,cl ay 1,r,cl ay 2,(yX9 (h.pu aq) hl).mono ?_⟩)
 rintro e w2 ⟨q,rfl,hq,ar⟩
 have aF:=aq.trans ar
 have cM:=ar.blk ay
 refine⟨q,_,rfl,Br.of (λc=>⟨aF,.inl ⟨zQ1 c,rfl⟩⟩) (λc=>⟨_,cl cM 0,f,cl cM 1,r,cl cM 2,alB λw3 ax br=>?_⟩)⟩
 have hv:zQh t=0:=zQs c
 have hbo:zQI t=zQj t:=by unfold zQI;rw[if_pos hv]
 rw[hbo]at hq
 have aV:=aF.trans ax
 have hle:=zZX (zJc.of hv)
 have hrow:zQl w3 22 1 ⟨some ⟨w2.heap.size,0,none⟩,2,2⟩ [slV q,slV ⟨none,0,0⟩]:=⟨rfl,.inr ⟨_,_,rfl,br,Nat.le_refl _,by show 2<=maxLen;unfold maxLen;omega,rfl,rfl⟩⟩
 have hq3:=(hq.pu ax).low aq.size
 have hz:=aF.size
 have hF:zZd X w3 ⟨some ⟨w2.heap.size,0,none⟩,2,2⟩ q ⟨none,0,0⟩ (zQj t,[]):=λw4 h4=>files_row (hrow.fr h4 λb hb e=>by
   simp[zQe]at hb;have:=hX b e;omega) ((hq3.fr h4 λb hb e=>by have:=hq3.2 b hb;have:=hX b e;omega).by (by omega)) ⟨rfl,Nat.le_refl _,Nat.zero_le _,λj b hj=>by simp at hj⟩
 refine(xYg (h.pu aV) hv (λb hb=>Nat.lt_of_lt_of_le (hX b hb) aV.size) hF).mono ?_
 rintro e w4 ⟨p,rfl,⟨L,rfl,hS,ho⟩,aK⟩
 refine⟨_,rfl,aV.trans aK,.inr ⟨hv,_,rfl,L,rfl,hS,λb hb=>Nat.le_trans aV.size (ho b hb)⟩⟩
end Go.Proofs.YtaeecpjhfmcliaaGreatDoor
/- The log: files are opened; the steps of a recovery. No condition but those stated. -/
namespace Go.Proofs.YtaeecpjhfmcliaaGreatDoor
open Go.Sh Go.RowKit Tryz
variable {w w' : World} {X : Nat -> Prop}
theorem vu28:prog.underlying 28=some (.slice 63):=by kernel_rfl
theorem vi63:(prog.info? 63).map (λi=>(i.zero,i.size,i.bytes))=some (some (.agg #[.slice none 0 0,.slice none 0 0]),2,48):=by kernel_rfl
theorem zVY{F:Fls}{y:Wr}(h:y ∈ zXM F):okW y:=by
 have hrl:(zQJ F).2.1.length<=F.2.length:=by
  obtain⟨_,fr,h2,_⟩:=yXB (zXG F.1) false F.2
  have:=congrArg List.length h2
  rw[List.length_append]at this
  show(zKf (zXG F.1) false F.2).2.1.length<=_
  omega
 unfold zXM at h
 have hb:=zWe ((zQJ F).1.getD yVi)
 rcases List.mem_append.1 h with h|h
 ·split at h
  ·cases h
  ·rw[List.mem_singleton.1 h];exact⟨.inr rfl,by show 0<=(F.2.length:Int) - ((zQJ F).2.1.length:Int);omega,by simp⟩
 ·split at h
  ·simp at h
   rcases h with rfl|rfl|rfl
   ·exact⟨.inl rfl,Int.le_refl _,by simp⟩
   ·exact⟨.inl rfl,Int.le_refl _,by show(zQI ((zQJ F).1.getD yVi)).length<=_;omega⟩
   ·exact⟨.inr rfl,Int.le_refl _,by simp⟩
  ·cases h
theorem yXI(F:Fls):(zXM F).length<=4:=by
 unfold zXM
 rw[List.length_append]
 split <;> split <;> simp
theorem zKa.at_ {w0:World} {q:SV} {wh:List (Int × Int × SV)} {l:List Wr} (h:zKa w0 w q wh l) {k:Nat} {y:Wr} (hy:l[k]?=some y):∃a x,q.a=some a/\k<q.len/\w.cell? ((a.add (k * 3)).add 0)=some (.int .i64 y.file)/\w.cell? ((a.add (k * 3)).add 1)=some (.int .i64 y.at_)/\w.cell? ((a.add (k * 3)).add 2)=some (slV x)/\xQZ w0 w x y.b:=by
 obtain⟨x,hx⟩:=zQM (l:=wh) (k:=k) (by rw[h.len];exact(List.getElem?_eq_some_iff.1 hy).1)
 obtain⟨e1,e2,e3⟩:=h.each k x y hx hy
 obtain⟨a,ha,hk,c0⟩:=h.row.elem zXL hx (o:=0) rfl
 obtain⟨a',ha',_,c1⟩:=h.row.elem zXL hx (o:=1) rfl
 obtain⟨a'',ha'',_,c2⟩:=h.row.elem zXL hx (o:=2) rfl
 rw[ha]at ha' ha'';cases ha';cases ha''
 exact⟨a,x.2.2,ha,hk,by rw[c0,e1],by rw[c1,e2],c2,e3⟩
theorem yZj {F:Fls} {l:List Wr} {k:Nat} {y:Wr} (hy:l[k]?=some y):(l.take (k+1)).foldl zQC F=zQC ((l.take k).foldl zQC F) y:=by rw[zQB hy,List.foldl_append];rfl
def OpenR(X:Nat->Prop)(w:World)(F:Fls):Rt:=λe w'=>Pu w w'/\(((zQJ F).1=none/\e=.returned (.tuple #[.pointer none,.int .i64 11]))∨∃t p,(zQJ F).1=some t/\e=.returned (.tuple #[.pointer p,.int .i64 0])/\NewS X w w' p (Dat.new t (openF F)))
theorem open_c{s0 s1:SV}{d0 d1:List UInt8}(h0:ByV w s0 d0)(h1:ByV w s1 d1)(v6:d0.length<=800000000)(hl1:d1.length<=800000000)(hX:∀b,X b->b<w.heap.size):Calls prog 11 #[slV s0,slV s1] w (OpenR X w (d0,d1)):=by
 refine xXj _ _ w _ (alB λw1 aq ay=>?_)
 have hrow:zQl w1 22 1 ⟨some ⟨w.heap.size,0,none⟩,2,2⟩ [slV s0,slV s1]:=⟨rfl,.inr ⟨_,_,rfl,ay,Nat.le_refl _,by show 2<=maxLen;unfold maxLen;omega,rfl,rfl⟩⟩
 refine(yQp (F:=(d0,d1)) (files_row hrow (h0.pu aq) (h1.pu aq)) ⟨by show d0.length<=_;omega,by show d1.length<=_;omega⟩).mono ?_
 rintro e w2 ⟨o,r0,r1,rfl,hN,ar⟩
 have aF:=aq.trans ar
 have hX1:∀b,X b->b<w1.heap.size:=λb hb=>Nat.lt_of_lt_of_le (hX b hb) aq.size
 have hK2:zZd X w2 o r0 r1 (d0,d1):=hN.keep ⟨by show d0.length<=_;omega,by show d1.length<=_;omega⟩ hX1
 refine⟨o,rfl,(xQ7 hK2.at_ ⟨by show d0.length<=_;omega,by show d1.length<=_;omega⟩).mono ?_⟩
 rintro e w3 ⟨ax,p,f,r,n,a,b,rfl,rfl,rfl,hO⟩
 refine⟨_,f,r,_,_,b,rfl,alB λw4 aK dx=>zQi dx zKS.symm rfl rfl λw5 bu cL _=>?_⟩
 have ci:Pu w3 w5:=aK.andNew cL λi hi=>by rw[show i=_ from hi];exact Nat.le_refl _
 have dC:=(aF.trans ax).trans ci
 refine Br.of (λc=>?_) (λc=>?_)
 ·have c:b=false:=by simpa using c
  rcases hO with⟨_,h⟩|⟨h,_⟩
  ·exact⟨dC,.inl ⟨h,rfl⟩⟩
  ·rw[c]at h;cases h
 ·have c:b=true:=by simpa using c
  rcases hO with⟨h,_⟩|⟨_,t,ht,rfl,hO⟩
  ·rw[c]at h;cases h
  have hv:=zKW ht
  have hK5:=(hK2.pu ax).pu ci
  refine(yZe hK5.at_ ⟨by show d0.length<=_;omega,by show d1.length<=_;omega⟩ ht).mono ?_
  rintro e w6 ⟨bC,q,wh,rfl,hW⟩
  refine⟨q,rfl,?_⟩
  have hql:=hW.row.len zXL (by decide)
  have hwl:=hW.len
  have hml:=yXI (d0,d1)
  refine zQw (zXM (d0,d1)).length (λk u w'=>u.2=(k:Int)/\Pu w6 w'/\∃r0 r1,zZd X w' u.1 r0 r1 (((zXM (d0,d1)).take k).foldl zQC (d0,d1))) ⟨rfl,Pu.refl _,r0,r1,hK5.pu bC⟩ ?_
  rintro k J ⟨u1,u2⟩ wa hk ⟨sO,hpa,x0,x1,hK⟩ hJ
  obtain rfl:u2=(k:Int):=sO
  dsimp only at hK ⊢
  have hp0a:=(dC.trans bC).trans hpa
  have hsz:(((zXM (d0,d1)).take k).foldl zQC (d0,d1)).1.length<=803000000/\(((zXM (d0,d1)).take k).foldl zQC (d0,d1)).2.length<=803000000:=by
   have h1:=zYl (F:=(d0,d1)) (W:=(zXM (d0,d1)).take k) (c:=800000000) ⟨v6,hl1⟩ λy hy=>(zVY (List.mem_of_mem_take hy)).2.2
   have h2:((zXM (d0,d1)).take k).length<=4:=by rw[List.length_take];omega
   omega
  refine Br.of (λc1=>?_) (λc1=>?_)
  ·have aI:k<(zXM (d0,d1)).length:=by have:=zQk c1;omega
   obtain⟨y,hy⟩:=zQM aI
   obtain⟨ok1,ok2,ok3⟩:=zVY (List.mem_of_getElem? hy)
   obtain⟨a,x,ha,hka,g0,g1,g2,hB⟩:=(hW.pu hpa).at_ hy
   refine⟨a,ha,by omega,by omega,_,by rw[zXh];exact g0,_,by rw[zXh];exact g1,x,by rw[zXh];exact g2,alB λwb hpb hbb=>zQi hbb vk90.symm rfl rfl λwc hbc hfc _=>?_⟩
   have hpac:Pu wa wc:=hpb.andNew hfc λi hi=>by rw[show i=_ from hi];exact Nat.le_refl _
   refine⟨_,cl hbc 0,_,cl hbc 1,x,cl hbc 2,?_⟩
   have hB':xQZ w5 wc x y.b:=hB.fr (Fr.pu hpac:Fr (λ_=>False) wa wc) λ_ _ _ h=>h
   refine(xQq (x:=y) (λb hb=>Nat.lt_of_lt_of_le (hX b hb) (hp0a.trans hpac).size) (hK.pu hpac) (hB'.by (by omega)) ok1 ok2 ⟨by omega,by omega⟩ (by omega)).mono ?_
   rintro e wd ⟨o',y0,y1,rfl,hK',hpd⟩
   refine⟨o',rfl,?_⟩
   rw[zQa (by omega) (by omega)]
   exact hJ _ _ aI ⟨rfl,(hpa.trans hpac).trans hpd,y0,y1,by dsimp only;rw[yZj hy];exact hK'⟩
  ·have aI:k=(zXM (d0,d1)).length:=by have:=zQd c1;omega
   subst aI
   rw[List.take_length]at hK hsz
   have hOa:=(hO.pu ci).pu (bC.trans hpa)
   have b5a:=(bC.trans hpa).blk bu
   refine⟨_,cl b5a 0,f,cl b5a 1,r,cl b5a 2,(xYg (hOa.rd (zX8 hv)) hv (λb hb=>Nat.lt_of_lt_of_le (hX b hb) hp0a.size) hK).mono ?_⟩
   rintro e wz ⟨p,rfl,⟨L,rfl,hS,ho⟩,hpz⟩
   exact⟨_,rfl,hp0a.trans hpz,.inr ⟨t,_,ht,rfl,L,rfl,hS,λb hb=>Nat.le_trans hp0a.size (ho b hb)⟩⟩
abbrev xXc(x:SV × SV):List Value:=[slV x.1,slV x.2]
theorem yY4(x:SV × SV):(xXc x).length=2:=rfl
structure zVg (w0 w:World) (q:SV) (ps:List (SV × SV)) (l:List Fls):Prop where
 row:zQl w 63 2 q (ps.flatMap xXc)
 rn:∀b ∈ zQe q,w0.heap.size<=b
 len:ps.length=l.length
 each:∀(i:Nat) x F,ps[i]?=some x->l[i]?=some F->zQf w0 w x.1 F.1/\zQf w0 w x.2 F.2
theorem zVg.pu {w0:World} {q:SV} {ps:List (SV × SV)} {l:List Fls} (h:zVg w0 w q ps l) (hp:Pu w w'):zVg w0 w' q ps l:=
 ⟨h.row.pu hp,h.rn,h.len,λi x F hx hF=>⟨(h.each i x F hx hF).1.pu hp,(h.each i x F hx hF).2.pu hp⟩⟩
theorem zVg.push {w0:World} {q:SV} {ps:List (SV × SV)} {l:List Fls} (h:zVg w0 w q ps l) (hz:w0.heap.size<=w.heap.size) {r:Nat} {x:SV × SV} {F:Fls} (hr:w.heap[r]?=some (.cells (xXc x).toArray 63)) (hb:l.length<=100000) (h0:zQf w0 w x.1 F.1) (h1:zQf w0 w x.2 F.2) :
  ∃(s:SV) (w1:World),(Builtin.append_ #[28,28] 28 #[slV q,.slice (some ⟨r,0,none⟩) 1 1]).run prog w=.ok (slV s) w1/\zVg w0 w1 s (ps ++ [x]) (l ++ [F])/\Fr (· ∈ zQe q) w w1/\∀k ∈ zQe s,k ∈ zQe q∨w.heap.size<=k:=by
 have hl:=h.row.len yY4 (by decide)
 have hll:=h.len
 obtain⟨s,w1,hra,hrow,dY,hblk,hsl⟩:=zQy (P:=prog) (ty:=28) vu28 vi63 rfl (by decide) h.row (A:=some ⟨r,0,none⟩) (m:=1) (c:=1) (news:=xXc x) rfl (λj u hu=>⟨_,rfl,by rw[cl hr];simpa using hu⟩) (λu hu=>by simp[xXc]at hu;rcases hu with rfl|rfl <;> rfl) (by show(q.len+1) * (48+1)<=_;omega)
 refine⟨s,w1,hra,⟨by rw[List.flatMap_append,List.flatMap_singleton];exact hrow,λb hb=>?_,by simp[hll],?_⟩,dY,hblk⟩
 ·rcases hblk b hb with h1|h1
  ·exact h.rn b h1
  ·omega
 ·exact yXm (P:=λx F=>zQf w0 w1 x.1 F.1/\zQf w0 w1 x.2 F.2) h.len (λi y G hy hG=>⟨(h.each i y G hy hG).1.fr dY λk hk e=>zQq (h.each i y G hy hG).1.1 h.row (by decide) k hk e,(h.each i y G hy hG).2.fr dY λk hk e=>zQq (h.each i y G hy hG).2.1 h.row (by decide) k hk e⟩) ⟨h0.fr dY λk hk e=>zQq h0.1 h.row (by decide) k hk e,h1.fr dY λk hk e=>zQq h1.1 h.row (by decide) k hk e⟩
end Go.Proofs.YtaeecpjhfmcliaaGreatDoor
/- The log: what the reading methods of a store tell. No condition but those stated. -/
namespace Go.Proofs.YtaeecpjhfmcliaaGreatDoor
open Go.Sh Go.RowKit Tryz
variable {w0 w w' : World} {X : Nat -> Prop} {L L' : SL} {d d' : Dat} {mu : Int}
structure Ins(w0 w:World)(L:SL):Prop where
 fr:Fr (·=L.S) w0 w
 st:w.heap[L.S]?=some (.cells (zJU 1 L) 108)
theorem Ins.at_(hi:Ins w0 w L)(h0:zQG X w0 L d mu):zQG X w L d 1:=h0.reS hi.fr hi.st
theorem Ins.pu(hi:Ins w0 w L)(hp:Pu w w'):Ins w0 w' L:=⟨hi.fr.trans (Fr.pu hp:Fr (·=L.S) w w') λ_ h _=>h,hp.blk hi.st⟩
theorem Ins.box (hi:Ins w0 w L) {r:Nat} (hf:Fr (·=r) w w') (hS:L.S<w0.heap.size) (hr:w0.heap.size<=r):Ins w0 w' L:=
 ⟨hi.fr.trans hf λb hb hlt=>by have hb:b=r:=hb;omega,hf.blk hi.st (show ¬L.S=r by omega)⟩
theorem Ins.left(hi:Ins w0 w L):zZe w0 w L L:=⟨hi.fr.mono λb hb _=>.inl hb,λ_ h=>.inl h,rfl⟩
theorem zQG.S_lt(h:zQG X w L d mu):L.S<w.heap.size:=h.own_lt (.inl rfl)
theorem zXn(h:zQG X w0 L d 0)(hp:Pu w0 w):Calls prog 55 #[L.ptr] w λe w'=>e=.returned (.tuple #[xQd L,.int .i64 0])/\Ins w0 w' L/\Fr (·=L.S) w w'/\w'.heap.size=w.heap.size:=by
 refine(xYP (h.pu hp)).mono ?_
 rintro e w1 ⟨he,h1,hf,hs⟩
 exact⟨he,⟨(Fr.pu hp:Fr (·=L.S) w0 w).trans hf λ_ h _=>h,h1.st⟩,hf,hs⟩
theorem zZB (h0:zQG X w0 L d 0) (hi:Ins w0 w L) {K:World->Prop} (hK:∀w',Pu w0 w'->Fr (·=L.S) w w'->K w'):zQb prog [zZc L] w K:=xZH h0 (hi.at_ h0) hi.fr hK
theorem zWt.out {wa:World} {t:Tbl} {q:HT} (h:zWt wa w t q) (hf:Fr (·=L.S) w w') (hS:L.S<w0.heap.size) (hz:w0.heap.size<=wa.heap.size):zWt w0 w' t q:=
 (h.fr hf λb hb _ e=>by have e:b=L.S:=e;omega).low hz
theorem zQf.out {wa:World} {q:SV} {l:List UInt8} (h:zQf wa w q l) (hf:Fr (·=L.S) w w') (hS:L.S<w0.heap.size) (hz:w0.heap.size<=wa.heap.size):zQf w0 w' q l:=
 (h.fr hf λb hb e=>by have:=h.2 b hb;have e:b=L.S:=e;omega).low hz
theorem zJg {K:FuncId->Array Value->Array Value->Prop} (h:K 96 #[L.ptr] #[]):fnE (xQd L) K:=h
theorem xXD(h:zQG X w L d 0)(hn:d.σ.done.length<=1000000):Calls prog 22 #[L.ptr] w λe w'=>e=.returned (.int .i64 ((d.σ.done.length:Nat) - 1))/\Pu w w':=by
 have hl:=h.dn.len zQv (by decide)
 have hll:=h.dl
 refine xQc _ w _ ((zXn h (Pu.refl w)).mono ?_)
 rintro e w1 ⟨rfl,hi,hf,hs⟩
 refine⟨_,_,rfl,zJg (Br.of (λc=>by cases c) λ_=>⟨L.dn,(hi.at_ h).cellA 6,zZB h hi λw2 ar _=>⟨?_,ar⟩⟩)⟩
 rw[zQa (by omega) (by omega),hl,hll]
theorem yJP(h:zQG X w L d 0):Calls prog 30 #[L.ptr] w λe w'=>e=.returned (.int .i64 (d.wr.length:Nat))/\Pu w w':=by
 have hl:=h.wr.len zXL (by decide)
 have hll:=h.wl
 refine xQL _ w _ ((zXn h (Pu.refl w)).mono ?_)
 rintro e w1 ⟨rfl,hi,hf,hs⟩
 refine⟨_,_,rfl,zJg (Br.of (λc=>by cases c) λ_=>⟨L.wr,(hi.at_ h).cellA 9,zZB h hi λw2 ar _=>⟨?_,ar⟩⟩)⟩
 rw[hl,hll]
theorem yKb(h:zQG X w L d 0)(hn:d.pts.length<=1000000):Calls prog 29 #[L.ptr] w λe w'=>∃q:SV,e=.returned (slV q)/\zKm w w' q d.pts/\Pu w w':=by
 have hS:=h.S_lt
 refine xQx _ w _ ((zXn h (Pu.refl w)).mono ?_)
 rintro e w1 ⟨rfl,hi,hf,hs⟩
 refine⟨_,_,rfl,zJg (Br.of (λc=>by cases c) λ_=>⟨L.pt,(hi.at_ h).cellA 10,(xZ2 (hi.at_ h).pt hn).mono ?_⟩)⟩
 rintro e w2 ⟨q,rfl,h1,h2,ar⟩
 refine⟨q,rfl,zZB h (hi.pu ar) λw3 ax fU=>⟨q,rfl,⟨h1.fr fU λb hb e=>?_,λb hb=>by have:=h2 b hb;omega⟩,ax⟩⟩
 have:=h2 b hb
 have e:b=L.S:=e
 omega
theorem zV5(h:zQG X w L d 0)(hv:zQh d.σ.t=0):Calls prog 14 #[L.ptr] w λe w'=>∃q:HT,e=.returned (.agg #[.int .i64 q.page,slV q.f,slV q.r])/\zWt w w' d.σ.t q/\Pu w w':=by
 have hS:=h.S_lt
 refine xXR _ w _ (alB λw1 aq ay=>(zXn h aq).mono ?_)
 rintro e w2 ⟨rfl,hi,hf,hs⟩
 have h2:=hi.at_ h
 have hz1:=aq.size
 refine⟨_,_,rfl,zJg (Br.of (λc=>by cases c) λ_=>⟨_,h2.cellB 2 0,L.now.f,h2.cellB 2 1,L.now.r,h2.cellB 2 2,?_⟩)⟩
 rw[h2.now.page]
 refine(zJH (h2.rdNow hv) hv).mono ?_
 rintro e w3 ⟨q,rfl,hq,ax⟩
 have jX:=ax.blk (hf.blk ay (show ¬w.heap.size=L.S by omega))
 refine⟨q.page,q.f,q.r,rfl,zQi jX zKS.symm rfl rfl λw4 dx gR _=>?_⟩
 refine zZB h ((hi.pu ax).box gR hS (Nat.le_refl _)) λw5 aU cL=>?_
 have bu:=cL.blk dx (show ¬w.heap.size=L.S by omega)
 refine⟨_,cl bu 0,q.f,cl bu 1,q.r,cl bu 2,q,rfl,?_,aU⟩
 have ng:w.heap.size<w1.heap.size:=zQx ay
 exact(hq.fr gR λb hb _ e=>by have e:b=w.heap.size:=e;omega).out cL hS (by omega)
theorem zYV(h:zQG X w L d 0)(hv:∀t ∈ d.σ.done,zQh t=0)(n:Int):Calls prog 27 #[L.ptr,.int .i64 n] w λe w'=>∃q:HT,e=.returned (.tuple #[.agg #[.int .i64 q.page,slV q.f,slV q.r],.int .i64 (yZY d.σ n)])/\zWt w w' (yQh d.σ n) q/\Pu w w':=by
 have hS:=h.S_lt
 have hl:=h.dn.len zQv (by decide)
 have hll:=h.dl
 refine xXe _ _ w _ (alB λw1 aq ay=>(zXn h aq).mono ?_)
 rintro e w2 ⟨rfl,hi,hf,hs⟩
 have h2:=hi.at_ h
 have hz1:=aq.size
 have ng:w.heap.size<w1.heap.size:=zQx ay
 have cM:=hf.blk ay (show ¬w.heap.size=L.S by omega)
 refine⟨_,_,rfl,zJg (Br.of (λc=>by cases c) λ_=>?_)⟩
 have bad:¬(0<=n/\n<d.σ.done.length)->stA prog 35 (⟨w.heap.size,0,none⟩:Addr) #[.int .i64 0,.slice none 0 0,.slice none 0 0] w2 λw5=>zQb prog [zZc L] w5 λw6=>
   ∃ag:Int,w6.cell? ((⟨w.heap.size,0,none⟩:Addr).add 0)=some (.int .i64 ag)/\∃ab:SV,w6.cell? ((⟨w.heap.size,0,none⟩:Addr).add 1)=some (.slice ab.a ab.len ab.cap)/\∃ae:SV,w6.cell? ((⟨w.heap.size,0,none⟩:Addr).add 2)=some (.slice ae.a ae.len ae.cap)/\
   ∃q:HT,Ending.returned (.tuple #[.agg #[.int .i64 ag,.slice ab.a ab.len ab.cap,.slice ae.a ae.len ae.cap],.int .i64 1])=.returned (.tuple #[.agg #[.int .i64 q.page,slV q.f,slV q.r],.int .i64 (yZY d.σ n)])/\zWt w w6 (yQh d.σ n) q/\Pu w w6:=λhn=>by
  refine zQi cM zKS.symm rfl rfl λw4 dx gR _=>zZB h (hi.box gR hS (Nat.le_refl _)) λw5 aU cL=>?_
  have bu:=cL.blk dx (show ¬w.heap.size=L.S by omega)
  refine⟨_,cl bu 0,⟨none,0,0⟩,cl bu 1,⟨none,0,0⟩,cl bu 2,⟨0,⟨none,0,0⟩,⟨none,0,0⟩,[]⟩,?_,?_,aU⟩
  ·unfold yZY;rw[if_neg hn]
  ·have e:yQh d.σ n=yVi:=by unfold yQh;rw[if_neg hn]
   rw[e]
   exact⟨⟨rfl,zQl.nil _ _ _,rfl,λi x r hx=>by simp at hx,by simp[vBl]⟩,zQl.nil _ _ _,by simp[zQe],by simp[zQe],by simp[vBl]⟩
 refine Br.of (λc=>bad (by have:=zQk c;omega)) (λc=>⟨L.dn,h2.cellA 6,Br.of (λc1=>bad (by have:=zQk c1;omega)) (λc1=>?_)⟩)
 have c:=zQd c
 have c1:=zQd c1
 have hn:0<=n/\n<d.σ.done.length:=by omega
 obtain⟨k,rfl⟩:∃k:Nat,n=(k:Int):=⟨n.toNat,by omega⟩
 obtain⟨t,ht⟩:=zQM (l:=d.σ.done) (k:=k) (by omega)
 obtain⟨x,hx⟩:=zQM (l:=L.dh) (k:=k) (by omega)
 obtain⟨ep,hR⟩:=(h2.kp0).dt k x t hx ht
 obtain⟨a,ha,hk,c0⟩:=h2.dn.elem zQv hx (o:=0) rfl
 obtain⟨a',ha',_,o4⟩:=h2.dn.elem zQv hx (o:=1) rfl
 obtain⟨a'',ha'',_,c2⟩:=h2.dn.elem zQv hx (o:=2) rfl
 rw[ha]at ha' ha'';cases ha';cases ha''
 refine⟨L.dn,h2.cellA 6,a,ha,by omega,by omega,x.page,by rw[zXh];exact c0,x.f,by rw[zXh];exact o4,x.r,by rw[zXh];exact c2,?_⟩
 have hvt:=hv t (List.mem_of_getElem? ht)
 have e:yQh d.σ (k:Int)=t:=by unfold yQh;rw[if_pos hn,zXh,List.getD_eq_getElem?_getD,ht];rfl
 have e2:yZY d.σ (k:Int)=0:=by unfold yZY;rw[if_pos hn]
 rw[ep]
 refine(zJH hR hvt).mono ?_
 rintro e3 w3 ⟨q,rfl,hq,ax⟩
 refine⟨q.page,q.f,q.r,rfl,zQi (ax.blk cM) zKS.symm rfl rfl λw4 dx gR _=>?_⟩
 refine zZB h ((hi.pu ax).box gR hS (Nat.le_refl _)) λw5 aU cL=>?_
 have bu:=cL.blk dx (show ¬w.heap.size=L.S by omega)
 refine⟨_,cl bu 0,q.f,cl bu 1,q.r,cl bu 2,q,by rw[e2],?_,aU⟩
 rw[e]
 exact(hq.fr gR λb hb _ e=>by have e:b=w.heap.size:=e;omega).out cL hS (by omega)
end Go.Proofs.YtaeecpjhfmcliaaGreatDoor
