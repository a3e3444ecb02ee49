import Derived.Test.YtaeecpjhfmcliaaGreatDoorLgOwH
import Derived.Test.YtaeecpjhfmcliaaGreatDoorLgOwG
import Derived.Test.YtaeecpjhfmcliaaGreatDoorLgPrB
import Derived.Test.YtaeecpjhfmcliaaGreatDoorLgPrC
/- The log: what differs from the last committed table; the files behind some writes. No condition but those stated. -/
set_option maxRecDepth 100000
set_option linter.unusedVariables false
set_option linter.unusedSimpArgs false
noncomputable section
namespace Go.Proofs.YtaeecpjhfmcliaaGreatDoor
open Go.Sh Go.RowKit Tryz
variable {w0 w w' : World} {X : Nat -> Prop} {L L' : SL} {d d' : Dat} {mu : Int} {p : Int} {f : List Fld}
theorem zQG.lastD (h:zQG X w L d mu) (hne:d.σ.done ≠ []) (hn:d.σ.done.length<=1000000):∃(x:HT) (a:Addr),L.dn.a=some a/\(IntKind.i64.wrap (((L.dn.len:Nat):Int) - 1))=((d.σ.done.length - 1:Nat):Int)/\d.σ.done.length - 1<L.dn.len/\w.cell? ((a.add ((d.σ.done.length - 1) * 3)).add 0)=some (.int .i64 d.σ.last.page)/\
  w.cell? ((a.add ((d.σ.done.length - 1) * 3)).add 1)=some (slV x.f)/\w.cell? ((a.add ((d.σ.done.length - 1) * 3)).add 2)=some (slV x.r)/\zXz w d.σ.last x.f x.r:=by
 have hl:=h.dn.len zQv (by decide)
 have hdl:=h.dl
 have hpos:=List.length_pos_iff.2 hne
 have hlast:=zZ3 hne
 rw[List.getLast?_eq_getElem?]at hlast
 obtain⟨x,hx⟩:=zQM (l:=L.dh) (k:=d.σ.done.length - 1) (by omega)
 obtain⟨ep,hR⟩:=h.kp0.dt _ x _ hx hlast
 obtain⟨a,ha,hk,c0⟩:=h.dn.elem zQv hx (o:=0) rfl
 obtain⟨a',ha',_,c1⟩:=h.dn.elem zQv hx (o:=1) rfl
 obtain⟨a'',ha'',_,c2⟩:=h.dn.elem zQv hx (o:=2) rfl
 rw[ha]at ha' ha'';cases ha';cases ha''
 exact⟨x,a,ha,by rw[zQa (by omega) (by omega)];omega,hk,by rw[c0,ep],c1,c2,hR⟩
theorem yZF(h:InvW p f d):xVD d.σ.last d.σ.t=(zJt d.σ,0):=by
 have hL:=h.lastL
 unfold xVD
 rw[if_neg (by rw[hL.ok];simp),if_neg (by rw[h.t.ok];simp),if_neg (by rw[hL.page,hL.fields,h.t.page,h.t.fields];simp)]
 rfl
structure Small(d:Dat):Prop where
 f1:d.first.1.length<=400000000
 f2:d.first.2.length<=400000000
 wn:d.wr.length<=500
 wb:∀x ∈ d.wr,okW x
theorem Small.files(h:Small d)(n:Nat):(zQP d.first d.wr n).1.length<=750000000/\(zQP d.first d.wr n).2.length<=750000000:=by
 have h1:=zYl (F:=d.first) (W:=d.wr.take n) (c:=400000000) ⟨h.f1,h.f2⟩ λy hy=>(h.wb y (List.mem_of_mem_take hy)).2.2
 have h2:(d.wr.take n).length<=500:=by rw[List.length_take];have:=h.wn;omega
 unfold zQP
 omega
theorem Small.fall(h:Small d)(n:Nat)(k:Int):(zKN d.first d.wr n k).1.length<=760000000/\(zKN d.first d.wr n k).2.length<=760000000:=by
 have h1:=h.files n
 unfold zKN
 split
 ·rename_i x hx
  have:=yKI (k:=k) h1 (h.wb x (List.mem_of_getElem? hx)).2.2
  omega
 ·omega
def zWv(d:Dat)(n k:Int):Int:=if n<0∨(d.wr.length:Int)<n∨k<0 then 1 else 0
def zJS(d:Dat)(n k:Int):Fls:=if n<0∨(d.wr.length:Int)<n∨k<0 then([],[])else zKN d.first d.wr n.toNat k
theorem yK1{R:Rt}{wa w3:World}{r0 r1:SV}{G:Fls}(h:zQG X w0 L d 0)(hi:Ins w0 wa L)(hz:w0.heap.size<=w3.heap.size)(n0:zQf w3 wa r0 G.1)(n1:zQf w3 wa r1 G.2)
  (hR:∀wz,Pu w0 wz->zQf w0 wz r0 G.1->zQf w0 wz r1 G.2->R (.returned (.tuple #[slV r0,slV r1,.int .i64 0])) wz) :
  alE (.cells #[.slice none 0 0,.slice none 0 0] 63) wa λaL w6=>stA prog 63 (⟨aL,0,none⟩:Addr) #[slV r0,slV r1] w6 λw7=>dwE w7 λw8=>
   0<=(0:Int)/\(0:Int)<((2:Nat):Int)/\∃jM:SV,w8.cell? ((⟨aL,0,none⟩:Addr).add ((0:Int).toNat * 1))=some (.slice jM.a jM.len jM.cap)/\
   0<=(1:Int)/\(1:Int)<((2:Nat):Int)/\∃lu:SV,w8.cell? ((⟨aL,0,none⟩:Addr).add ((1:Int).toNat * 1))=some (.slice lu.a lu.len lu.cap)/\
   zQb prog [zZc L] w8 λw9=>R (.returned (.tuple #[.slice jM.a jM.len jM.cap,.slice lu.a lu.len lu.cap,.int .i64 0])) w9:=by
 have hS:=h.S_lt
 refine alB λw6 bC fV=>zQi fV vk63.symm rfl rfl λw7 j0 j7 _=>zQc λw8 cj _=>?_
 have xc:Pu wa w8:=(bC.andNew j7 λi hi=>by rw[show i=_ from hi];exact Nat.le_refl _).trans cj
 have j1:=cj.blk j0
 refine⟨by omega,by omega,r0,cl j1 0,by omega,by omega,r1,cl j1 1,zZB h (hi.pu xc) λw9 cI o6=>hR w9 cI ((n0.pu xc).out o6 hS hz) ((n1.pu xc).out o6 hS hz)⟩
theorem yY9(h:zQG X w L d 0)(hs:Small d)(n k:Int):Calls prog 33 #[L.ptr,.int .i64 n,.int .i64 k] w λe w'=>∃r0 r1:SV,e=.returned (.tuple #[slV r0,slV r1,.int .i64 (zWv d n k)])/\zQf w w' r0 (zJS d n k).1/\zQf w w' r1 (zJS d n k).2/\Pu w w':=by
 have hS:=h.S_lt
 have hl:=h.wr.len zXL (by decide)
 have hwl:=h.wl
 refine yYV _ _ _ w _ ((zXn h (Pu.refl w)).mono ?_)
 rintro e w1 ⟨rfl,hI,hf,hsz⟩
 have h1:=hI.at_ h
 refine⟨_,_,rfl,zJg (Br.of (λc=>by cases c) λ_=>?_)⟩
 have bad:(n<0∨(d.wr.length:Int)<n∨k<0)->zQb prog [zZc L] w1 λw2=>∃r0 r1:SV,Ending.returned (.tuple #[.slice none 0 0,.slice none 0 0,.int .i64 1])=.returned (.tuple #[slV r0,slV r1,.int .i64 (zWv d n k)])/\zQf w w2 r0 (zJS d n k).1/\zQf w w2 r1 (zJS d n k).2/\Pu w w2:=λhx=>
  zZB h hI λw2 ar _=>⟨⟨none,0,0⟩,⟨none,0,0⟩,by unfold zWv;rw[if_pos hx],by unfold zJS;rw[if_pos hx];exact zQf.nil _ _,by unfold zJS;rw[if_pos hx];exact zQf.nil _ _,ar⟩
 refine Br.of (λc=>bad (.inl (zQk c))) (λc=>⟨L.wr,h1.cellA 9,Br.of (λc1=>bad (.inr (.inl (by have:=zQk c1;omega)))) (λc1=>Br.of (λc2=>bad (.inr (.inr (zQk c2)))) (λc2=>?_))⟩)
 have c:=zQd c
 have c1:=zQd c1
 have c2:=zQd c2
 have hgood:¬(n<0∨(d.wr.length:Int)<n∨k<0):=by omega
 obtain⟨m,rfl⟩:∃m:Nat,n=(m:Int):=⟨n.toNat,by omega⟩
 have hcap:=h.wr.le_cap.1
 refine⟨L.first,h1.cellA 7,L.wr,h1.cellA 9,by omega,by omega,by omega,?_⟩
 have hwn:=hs.wn
 have eG:zJS d (m:Int) k=zKN d.first d.wr m k:=by unfold zJS;rw[if_neg hgood,zXh]
 have eC:zWv d (m:Int) k=0:=by unfold zWv;rw[if_neg hgood]
 rw[eG,eC,zXh,Nat.sub_zero]
 have hB:∀{wz:World},w.heap.size<=wz.heap.size->∀b,(L.own b∨X b)->b<wz.heap.size:=λhz b hb=>hb.elim (λhb=>by have:=h.own_lt hb;omega) (λhb=>by have:=h.xl b hb;omega)
 have qp:zZd (λb=>L.own b∨X b) w1 L.first L.f0 L.f1 d.first:=λw2 h2=>(h.kp w2 ((hf.mono λb hb _=>.inl (.inl hb)).trans h2 λb hb _=>hb)).fi
 refine zQw m (λj u w'=>u.2=(j:Int)/\Pu w1 w'/\∃r0 r1,zZd (λb=>L.own b∨X b) w' u.1 r0 r1 (zQP d.first d.wr j)) ⟨rfl,Pu.refl _,L.f0,L.f1,qp⟩ ?_
 rintro j J ⟨u1,u2⟩ wa hj ⟨sO,hpa,x0,x1,hK⟩ hJ
 obtain rfl:u2=(j:Int):=sO
 dsimp only at hK ⊢
 have hIa:=hI.pu hpa
 have ha:=hIa.at_ h
 have hza:=hpa.size
 -- a write of the store
 have wrAt:∀{i:Nat} {y:Wr} {wz:World},zQG X wz L d 1->d.wr[i]?=some y->∃a x,L.wr.a=some a/\i<L.wr.len/\wz.cell? ((a.add (i * 3)).add 0)=some (.int .i64 y.file)/\wz.cell? ((a.add (i * 3)).add 1)=some (.int .i64 y.at_)/\wz.cell? ((a.add (i * 3)).add 2)=some (slV x)/\ByV wz x y.b:=λ{i y wz} hz hy=>by
  obtain⟨x,hx⟩:=zQM (l:=L.wh) (k:=i) (by rw[hwl];exact(List.getElem?_eq_some_iff.1 hy).1)
  obtain⟨e1,e2,e3⟩:=hz.kp0.wb i x y hx hy
  obtain⟨a,ha,hk,c0⟩:=hz.wr.elem zXL hx (o:=0) rfl
  obtain⟨a',ha',_,c1⟩:=hz.wr.elem zXL hx (o:=1) rfl
  obtain⟨a'',ha'',_,c2⟩:=hz.wr.elem zXL hx (o:=2) rfl
  rw[ha]at ha' ha'';cases ha';cases ha''
  exact⟨a,x.2.2,ha,hk,by rw[c0,e1],by rw[c1,e2],c2,e3⟩
 have hsj:=hs.files j
 refine Br.of (λd1=>?_) (λd1=>?_)
 ·have j8:j<m:=by have:=zQk d1;omega
  obtain⟨y,hy⟩:=zQM (l:=d.wr) (k:=j) (by omega)
  obtain⟨ok1,ok2,ok3⟩:=hs.wb y (List.mem_of_getElem? hy)
  obtain⟨a,x,hwa,hka,g0,g1,g2,hBy⟩:=wrAt ha hy
  have hadd:∀o,((a.add (0 * 3)).add (j * 3)).add o=(a.add (j * 3)).add o:=λo=>by rw[Nat.zero_mul,yYd]
  refine⟨a.add (0 * 3),by show(if L.wr.cap=0 then L.wr.a else L.wr.a.map (λx=>x.add (0 * 3)))=_;rw[if_neg (by omega),hwa];rfl,by omega,by show(j:Int)<((m:Nat):Int);omega,_,by rw[zXh,hadd];exact g0,_,by rw[zXh,hadd];exact g1,x,by rw[zXh,hadd];exact g2,alB λwb hpb hbb=>zQi hbb vk90.symm rfl rfl λwc hbc hfc _=>?_⟩
  have hpac:Pu wa wc:=hpb.andNew hfc λi hi=>by rw[show i=_ from hi];exact Nat.le_refl _
  refine⟨_,cl hbc 0,_,cl hbc 1,x,cl hbc 2,?_⟩
  refine(xQq (x:=y) (hB (by have:=hpac.size;omega)) (hK.pu hpac) (hBy.pu hpac) ok1 ok2 ⟨by omega,by omega⟩ (by omega)).mono ?_
  rintro e wd ⟨o',y0,y1,rfl,hK',hpd⟩
  refine⟨o',rfl,?_⟩
  rw[zQa (by omega) (by omega)]
  refine hJ _ _ j8 ⟨rfl,(hpa.trans hpac).trans hpd,y0,y1,?_⟩
  have:zQP d.first d.wr (j+1)=zQC (zQP d.first d.wr j) y:=by unfold zQP;exact yZj hy
  dsimp only
  rw[this];exact hK'
 ·have j8:j=m:=by have:=zQd d1;omega
  subst j8
  refine⟨L.wr,ha.cellA 9,Br.of (λd2=>?_) (λd2=>?_)⟩
  ·have d2:=zQk d2
   obtain⟨y,hy⟩:=zQM (l:=d.wr) (k:=j) (by omega)
   obtain⟨ok1,ok2,ok3⟩:=hs.wb y (List.mem_of_getElem? hy)
   obtain⟨a,x,hwa,hka,g0,g1,g2,hBy⟩:=wrAt ha hy
   have ef:zKN d.first d.wr j k=zZl (zQP d.first d.wr j) y k:=by unfold zKN;rw[hy]
   rw[ef]
   refine⟨L.wr,ha.cellA 9,a,hwa,by omega,by omega,_,by rw[zXh];exact g0,_,by rw[zXh];exact g1,x,by rw[zXh];exact g2,(xWH (x:=y) (hB (by omega)) hK hBy ok1 ok2 ⟨by omega,by omega⟩ (by omega) k).mono ?_⟩
   rintro e wb ⟨o',y0,y1,rfl,hK',hpb⟩
   have hdl:=yKI (k:=k) hsj ok3
   refine⟨o',rfl,(xKk hK'.at_ ⟨by omega,by omega⟩).mono ?_⟩
   rintro e wc ⟨r0,r1,rfl,n0,n1,hpc⟩
   refine⟨r0,r1,rfl,yK1 (R:=λe w'=>∃r0 r1:SV,e=.returned (.tuple #[slV r0,slV r1,.int .i64 0])/\zQf w w' r0 (zZl (zQP d.first d.wr j) y k).1/\zQf w w' r1 (zZl (zQP d.first d.wr j) y k).2/\Pu w w') h (hIa.pu (hpb.trans hpc)) (by have:=hpb.size;omega) n0 n1 λwz hpz m0 m1=>⟨r0,r1,rfl,m0,m1,hpz⟩⟩
  ·have d2:=zQd d2
   have ef:zKN d.first d.wr j k=zQP d.first d.wr j:=by unfold zKN;rw[List.getElem?_eq_none (by omega)]
   rw[ef]
   refine(xKk hK.at_ ⟨by omega,by omega⟩).mono ?_
   rintro e wc ⟨r0,r1,rfl,n0,n1,hpc⟩
   refine⟨r0,r1,rfl,yK1 (R:=λe w'=>∃r0 r1:SV,e=.returned (.tuple #[slV r0,slV r1,.int .i64 0])/\zQf w w' r0 (zQP d.first d.wr j).1/\zQf w w' r1 (zQP d.first d.wr j).2/\Pu w w') h (hIa.pu hpc) (by omega) n0 n1 λwz hpz m0 m1=>⟨r0,r1,rfl,m0,m1,hpz⟩⟩
end Go.Proofs.YtaeecpjhfmcliaaGreatDoor
/- The log: writes to the files of a store; a commit. No condition but those stated. -/
namespace Go.Proofs.YtaeecpjhfmcliaaGreatDoor
open Go.Sh Go.RowKit Tryz
variable {w0 w w' : World} {X : Nat -> Prop} {L L' : SL} {d d' : Dat} {mu : Int} {p : Int} {f : List Fld}
theorem xQP{B:Nat->Prop}{Q:World->Prop}(h:∀w2,Fr B w w2->Q w2)(hp:Pu w w'):∀w2,Fr B w' w2->Q w2:=λw2 h2=>h w2 ((Fr.pu hp:Fr B w w').trans h2 λb hb _=>hb)
theorem zQG.xw(h:zQG X w L d mu):∀b,(L.own b∨X b)->b<w.heap.size:=λb hb=>hb.elim (λhb=>h.own_lt hb) (h.xl b)
theorem zQf.keepBy{w0:World}{q:SV}{l:List UInt8}(h:zQf w0 w q l)(hl:l.length<=1000000000){B:Nat->Prop}(hB:∀b,B b->b<w0.heap.size):∀w2,Fr B w w2->ByV w2 q l:=λw2 h2=>
 (h.fr h2 λb hb e=>by have:=h.2 b hb;have:=hB b e;omega).by (by omega)
theorem yQY (h:zQG X w L d 1) {y:Wr} (hy:okW y) {q:SV} (hq:∀w2,Fr (λb=>L.own b∨X b) w w2->ByV w2 q y.b) (hl:d.last.1.length<=900000000/\d.last.2.length<=900000000) (hn:d.wr.length<=1000000) :
  Calls prog 84 #[L.ptr,.agg #[.int .i64 y.file,.int .i64 y.at_,slV q]] w λe w'=>e=.returned (.tuple #[])/\∃L',zQG X w' L' (d.write y) 1/\zZe w w' L L':=by
 refine xXP _ _ _ _ w _ (alB λw1 aq ay=>zQc λw2 ar _=>?_)
 have aF:=aq.trans ar
 have cM:=ar.blk ay
 have h2:=h.pu aF
 have ng:w.heap.size<w1.heap.size:=zQx ay
 refine⟨λu=>Pu w2 u,Pu.refl _,L.wr,λu hu=>(h2.pu hu).cellA 9,y.file,λu hu=>cl (hu.blk cM) 0,y.at_,λu hu=>cl (hu.blk cM) 1,q,λu hu=>cl (hu.blk cM) 2,alB λw4 aK dx=>⟨aK,?_⟩⟩
 have cp:=aF.trans aK
 have h4:=h.pu cp
 have xO:=xQP hq cp
 obtain⟨s,w5,hr,hst⟩:=h4.pushWr (y:=y) xO dx hn (K:=λw7=>dwE w7 λw8=>∃du:SV,w8.cell? ((⟨L.S,0,none⟩:Addr).add 8)=some (.slice du.a du.len du.cap)/\
   ∃dG:Int,w8.cell? ((⟨w.heap.size,0,none⟩:Addr).add 0)=some (.int .i64 dG)/\∃bQ:Int,w8.cell? ((⟨w.heap.size,0,none⟩:Addr).add 1)=some (.int .i64 bQ)/\∃cP:SV,w8.cell? ((⟨w.heap.size,0,none⟩:Addr).add 2)=some (.slice cP.a cP.len cP.cap)/\
   Calls prog 49 #[.slice du.a du.len du.cap,.agg #[.int .i64 dG,.int .i64 bQ,.slice cP.a cP.len cP.cap]] w8 λe aO=>∃dW:SV,e=.returned (.slice dW.a dW.len dW.cap)/\
   st1 ((⟨L.S,0,none⟩:Addr).add 8) (.slice dW.a dW.len dW.cap) aO λaM=>(Ending.returned (.tuple #[])=.returned (.tuple #[]))/\∃L',zQG X aM L' (d.write y) 1/\zZe w aM L L') λw7 L1 h7 pV hlast=>by
  have qw:=pV.fr.blk (aK.blk cM) (λho=>by have:=h.own_lt ho;omega)
  refine zQc λw8 cj _=>?_
  have h8:=h7.pu cj
  have nc:=cj.blk qw
  have hk8:=xQP (pV.keep (X:=X) xO h4.xl) cj
  refine⟨L1.last,by rw[←pV.ptr];exact h8.cellA 8,y.file,cl nc 0,y.at_,cl nc 1,q,cl nc 2,?_⟩
  refine(xQq (B:=λb=>L1.own b∨X b) (x:=y) h8.xw (λw9 h9=>(h8.kp w9 h9).la) (hk8 _ (Fr.refl _ _)) hy.1 hy.2.1 hl (by have:=hy.2.2;omega)).mono ?_
  rintro e aO ⟨o,r0,r1,rfl,hK,dP⟩
  refine⟨o,rfl,?_⟩
  rw[←pV.ptr]
  refine(h8.pu dP).setLast hK λaM L2 mY xT=>⟨rfl,L2,mY,?_⟩
  exact((zZe.pu cp L).trans pV).trans ((zZe.pu (cj.trans dP) L1).trans xT)
 exact⟨s,w5,hr,hst⟩
theorem zYB (h:d.σ.lev ≠ []∨d.σ.t=d.σ.last):d.commit=d:=by
 unfold Dat.commit
 rw[if_neg]
 rintro⟨h1,h2⟩
 rcases h with h|h
 ·exact h h1
 ·exact h2 h
structure Fit(d:Dat):Prop where
 l1:d.last.1.length<=800000000
 l2:d.last.2.length<=800000000
 wn:d.wr.length<=100000
 dn:d.σ.done.length<=100000
theorem yKE(h:zQG X w L d 1)(hi:InvW p f d)(hs:Fit d):Calls prog 79 #[L.ptr] w λe w'=>e=.returned (.tuple #[])/\∃L',zQG X w' L' d.commit 1/\zZe w w' L L':=by
 have hS:=h.S_lt
 have hlv:=h.lv.len zQv (by decide)
 have hll:=h.ll
 have hdn:=hs.dn
 refine xQt _ w _ (zQc λw1 aq _=>?_)
 have h1:=h.pu aq
 obtain⟨x,a,ha,e1,hk,c0,c1,c2,hR⟩:=h1.lastD hi.ne (by omega)
 refine⟨λu=>Pu w1 u,Pu.refl _,L.dn,λu hu=>(h1.pu hu).cellA 6,L.dn,λu hu=>(h1.pu hu).cellA 6,a,ha,by rw[e1];omega,by rw[e1];omega,d.σ.last.page,λu hu=>hu.cell (by rw[e1,zXh];exact c0),x.f,λu hu=>hu.cell (by rw[e1,zXh];exact c1),x.r,λu hu=>hu.cell (by rw[e1,zXh];exact c2),?_⟩
 refine alB λw5 aU bu=>⟨aU,zQi bu zKS.symm rfl rfl λw6 fV iN _=>zQc λw7 cH _=>?_⟩
 have kA:Pu w1 w7:=(aU.andNew iN λi hi=>by rw[show i=_ from hi];exact Nat.le_refl _).trans cH
 have gm:=aq.trans kA
 have h7:=h.pu gm
 have b7:=cH.blk fV
 refine⟨_,cl b7 0,x.f,cl b7 1,x.r,cl b7 2,_,h7.cellB 2 0,L.now.f,h7.cellB 2 1,L.now.r,h7.cellB 2 2,?_⟩
 rw[h7.now.page]
 refine(xJo (hR.pu kA) (h7.rdNow hi.t.ok) (zZ8 hi.lastL.ok) (zZ8 hi.t.ok)).mono ?_
 rintro e w9 ⟨q,rfl,hq,cI⟩
 rw[yZF hi]at hq
 replace hq:zKm w7 w9 q (zJt d.σ):=hq
 have he2:=congrArg Prod.snd (yZF hi)
 have mZ:=gm.trans cI
 have h9:=h.pu mZ
 have hql:q.len=(zJt d.σ).length:=hq.len
 refine⟨q,_,rfl,L.lv,h9.cellA 5,Br.of (λc=>?_) (λc=>Br.of (λo4=>?_) (λo4=>?_))⟩
 ·have c:=zQk c
  have hlne:d.σ.lev ≠ []:=λe=>by
   have:d.σ.lev.length=0:=by rw[e];rfl
   omega
  rw[zYB (.inl hlne)]
  exact⟨rfl,L,h9,zZe.pu mZ L⟩
 ·have o4:q.len=0:=by simpa using o4
  have hnil:zJt d.σ=[]:=List.eq_nil_of_length_eq_zero (by show(zJt d.σ).length=0;rw[hql]at o4;exact o4)
  have hrec:=xY7 (a:=d.σ.last.recs) (b:=d.σ.t.recs) hnil
  have hL:=hi.lastL
  have:d.σ.t=d.σ.last:=by
   have p1:=hi.t.page
   have p2:=hi.t.fields
   have p3:=hL.page
   have p4:=hL.fields
   cases ht:d.σ.t with
   | mk a b c=>cases hlt:d.σ.last with
    | mk a' b' c'=>
     rw[ht]at p1 p2 hrec
     rw[hlt]at p3 p4 hrec
     dsimp only at p1 p2 p3 p4 hrec
     rw[p1,p2,p3,p4,hrec]
  rw[zYB (.inr this)]
  exact⟨rfl,L,h9,zZe.pu mZ L⟩
 ·have c:=zQd c
  have hlev:d.σ.lev=[]:=List.eq_nil_of_length_eq_zero (by omega)
  have o4:¬q.len=0:=by simpa using o4
  have hne:d.σ.t ≠ d.σ.last:=λe=>o4 (by
   have:zJt d.σ=[]:=by unfold zJt;rw[e];exact xJ0 _
   rw[hql];show(zJt d.σ).length=0;rw[this];rfl)
  have hcm:d.commit={ d.write d.rec_ with σ:={ d.σ with done:=d.σ.done ++ [d.σ.t] },pts:=d.pts ++ [(d.wr.length:Int)+1] }:=by unfold Dat.commit;rw[if_pos ⟨hlev,hne⟩]
  refine zQc λaH bn _=>?_
  have rR:=mZ.trans bn
  have mJ:=h.pu rR
  obtain⟨al,hal,cl0',ta⟩:=mJ.kp0.la.ex
  have hll2:=mJ.kp0.la.len
  have hb1l:=mJ.kp0.la.b1.len
  refine⟨λu=>Pu aH u,Pu.refl _,L.last,λu hu=>(mJ.pu hu).cellA 8,al,hal,by omega,by omega,L.l1,λu hu=>hu.cell ta,_,λu hu=>(mJ.pu hu).cellB 2 0,L.now.f,λu hu=>(mJ.pu hu).cellB 2 1,L.now.r,λu hu=>(mJ.pu hu).cellB 2 2,?_⟩
  rw[mJ.now.page]
  have cK:=(zQL.of hi.t.ok).n300
  have hl300:=(zQL.of hi.lastL.ok).n300
  refine(xJ4 (mJ.rdNow hi.t.ok) hi.t.ok (hq.pu bn) (λk hk=>?_) ?_).mono ?_
  ·obtain⟨i,xP,rfl⟩:=List.mem_map.1 hk
   have:=List.mem_range.1 (List.mem_filter.1 xP).1
   omega
  ·show(zJt d.σ).length<=1000
   unfold zJt zVq
   rw[List.length_map]
   refine Nat.le_trans (List.length_filter_le _ _) ?_
   rw[List.length_range];omega
  rintro e bG ⟨q17,rfl,m4,rS⟩
  have hcl:(zXr d.σ.t (zJt d.σ)).length<=650000:=yQF (t:=d.σ.last) hi.t.ok hi.ge
  have hcne:zXr d.σ.t (zJt d.σ) ≠ []:=λe=>by
   have:=congrArg List.length e
   rw[yQ2,List.length_append,zQ6]at this
   simp at this
  refine⟨q17,rfl,rS,(yKe 99 (m4.by (by omega)) hcne (by omega)).mono ?_⟩
  rintro e bI ⟨q18,rfl,iI,mW⟩
  have rT:=rS.trans mW
  have vX:=rR.trans rT
  have xU:=h.pu vX
  refine⟨q18,rfl,rT,?_⟩
  have hy:okW d.rec_:=⟨.inr rfl,by show 0<=(d.last.2.length:Int);omega,by show(zZT 99 (zXr d.σ.t (zJt d.σ))).length<=_;rw[zJm];omega⟩
  have hx17:∀b,(L.own b∨X b)->b<bG.heap.size:=(h.pu (rR.trans rS)).xw
  have hrl:(zZT 99 (zXr d.σ.t (zJt d.σ))).length<=1000000000:=by rw[zJm];omega
  have hw:=yQY (y:=d.rec_) (q:=q18) xU hy (iI.keepBy hrl hx17) ⟨by have:=hs.l1;omega,by have:=hs.l2;omega⟩ (by have:=hs.wn;omega)
  rw[show((L.l1.len:Nat):Int)=((d.last.2.length:Nat):Int)by omega]
  refine Calls.mono hw ?_
  rintro e cE ⟨rfl,L1,h19,pV⟩
  refine⟨rfl,zQc λbO iZ _=>?_⟩
  have qq:=h19.pu iZ
  rw[←pV.ptr]
  refine⟨λu=>Pu bO u,Pu.refl _,L1.dn,λu hu=>(qq.pu hu).cellA 6,_,λu hu=>(qq.pu hu).cellB 2 0,L1.now.f,λu hu=>(qq.pu hu).cellB 2 1,L1.now.r,λu hu=>(qq.pu hu).cellB 2 2,?_⟩
  rw[qq.now.page]
  refine(zJH (qq.rdNow hi.t.ok) hi.t.ok).mono ?_
  rintro e dU ⟨x23,rfl,i5,ou⟩
  refine⟨x23.page,x23.f,x23.r,rfl,ou,alB λdD fW hb24=>⟨ou.trans fW,?_⟩⟩
  have h24:=(qq.pu ou).pu fW
  have hkd:=(i5.pu fW).keep (L:=L1) (X:=X) hi.t.ok (λb hb=>qq.own_lt hb) qq.xl
  obtain⟨s,gy,hr,hst⟩:=h24.pushDone (q:=x23) (t:=d.σ.t) i5.tab.page hkd hb24 (λb hb e=>by have:=(qq.pu ou).own_lt hb;omega) (by show d.σ.done.length<=_;omega)
   (K:=λiy=>dwE iy λeg=>∃S5:World->Prop,S5 eg/\∃mP:SV,(∀w',S5 w'->w'.cell? ((⟨L1.S,0,none⟩:Addr).add 10)=some (.slice mP.a mP.len mP.cap))/\∃oI:SV,(∀w',S5 w'->w'.cell? ((⟨L1.S,0,none⟩:Addr).add 9)=some (.slice oI.a oI.len oI.cap))/\
    alE (.cells #[.int .i64 ((oI.len:Nat):Int)] 3) eg λr78 il=>S5 il/\∃i9:SV,∃gz:World,(Builtin.append_ #[52,52] 52 #[.slice mP.a mP.len mP.cap,.slice (some ⟨r78,0,none⟩) 1 1]).run prog il=.ok (.slice i9.a i9.len i9.cap) gz/\
    st1 ((⟨L1.S,0,none⟩:Addr).add 10) (.slice i9.a i9.len i9.cap) gz λgd=>(Ending.returned (.tuple #[])=.returned (.tuple #[]))/\∃L',zQG X gd L' d.commit 1/\zZe w gd L L') λiy L2 h27 xT _ _=>by
   refine zQc λeg iu _=>?_
   have h28:=h27.pu iu
   rw[←xT.ptr]
   refine⟨λu=>Pu eg u,Pu.refl _,L2.pt,λu hu=>(h28.pu hu).cellA 10,L2.wr,λu hu=>(h28.pu hu).cellA 9,alB λil ov hb31=>⟨ov,?_⟩⟩
   have h31:=h28.pu ov
   have hwrl:=h31.wr.len zXL (by decide)
   have hwl2:=h31.wl
   have hpl:d.pts.length+1=d.σ.done.length:=hi.hist.len
   have hwl3:L2.wr.len=d.wr.length+1:=by
    rw[hwrl,hwl2];show(d.wr ++ [d.rec_]).length=_;simp
   obtain⟨s2,gz,jo,hst2⟩:=h31.pushPt hb31 (by show d.pts.length<=_;omega) (K:=λgd=>(Ending.returned (.tuple #[])=.returned (.tuple #[]))/\∃L',zQG X gd L' d.commit 1/\zZe w gd L L') λgd L3 h34 hL3=>⟨rfl,L3,by rw[hcm];rw[hwl3]at h34;exact h34,((zZe.pu vX L).trans pV).trans (((zZe.pu ((iZ.trans ou).trans fW) L1).trans xT).trans ((zZe.pu (iu.trans ov) L2).trans hL3))⟩
   exact⟨s2,gz,jo,hst2⟩
  exact⟨s,gy,hr,hst⟩
end Go.Proofs.YtaeecpjhfmcliaaGreatDoor
/- The log: a table's own rows are written. No condition but those stated. -/
namespace Go.Proofs.YtaeecpjhfmcliaaGreatDoor
open Go.Sh Go.RowKit Tryz
variable {w w' : World} {t : Tbl} {h : HT}
theorem zJD.rlen(ht:zJD w t h):h.r.len=t.recs.length:=by rw[ht.rw_.len zQS (by decide),ht.len]
theorem zJD.push (ht:zJD w t h) {q:SV} {x:Rec} (hq:zQl w 73 3 q (x.v.flatMap zVA)) (hn:∀b ∈ zQe q,b ∉ vBl h.hs) {r:Nat} (hr:w.heap[r]?=some (.cells #[.bool x.gone,slV q] 67)) (hb:t.recs.length<=100000) :
  ∃(s:SV) (w1:World),(Builtin.append_ #[33,33] 33 #[slV h.r,.slice (some ⟨r,0,none⟩) 1 1]).run prog w=.ok (slV s) w1/\zJD w1 { t with recs:=t.recs ++ [x] } { h with r:=s,hs:=h.hs ++ [(x.gone,q)] }/\Fr (· ∈ zQe h.r) w w1/\∀k ∈ zQe s,k ∈ zQe h.r∨w.heap.size<=k:=by
 have hl:=ht.rlen
 obtain⟨s,w1,hra,hrow,dY,hblk,hsl⟩:=zQy (P:=prog) (ty:=33) vu33 vi67 rfl (by decide) ht.rw_ (A:=some ⟨r,0,none⟩) (m:=1) (c:=1) (news:=yK9 (x.gone,q)) rfl (λj u hu=>⟨_,rfl,by rw[cl hr];simpa[yK9] using hu⟩) (λu hu=>by simp[yK9]at hu;rcases hu with rfl|rfl <;> rfl) (by show(h.r.len+1) * (32+1)<=_;omega)
 refine⟨s,w1,hra,⟨ht.page,?_,by simp[ht.len],?_,?_⟩,dY,hblk⟩
 ·show zQl w1 67 2 s ((h.hs ++ [(x.gone,q)]).flatMap yK9)
  rw[List.flatMap_append,List.flatMap_singleton];exact hrow
 ·intro i y z hy hz
  have hy:(h.hs ++ [(x.gone,q)])[i]?=some y:=hy
  have hz:(t.recs ++ [x])[i]?=some z:=hz
  rw[List.getElem?_append]at hy hz
  split at hy
  ·rename_i hi
   rw[if_pos (by rw[←ht.len];exact hi)]at hz
   obtain⟨e1,e2⟩:=ht.rec_ i y z hy hz
   exact⟨e1,e2.fr dY (zQq e2 ht.rw_ (by decide))⟩
  ·rename_i hi
   rw[if_neg (by rw[←ht.len];exact hi)]at hz
   have e1:y=(x.gone,q):=List.mem_singleton.1 (List.mem_of_getElem? hy)
   have e2:z=x:=List.mem_singleton.1 (List.mem_of_getElem? hz)
   rw[e1,e2]
   exact⟨rfl,hq.fr dY (zQq hq ht.rw_ (by decide))⟩
 ·show(vBl (h.hs ++ [(x.gone,q)])).Nodup
  rw[zXv]
  refine List.nodup_append.2 ⟨ht.nd,by simp[vBl,zYD],λa ha b hb e=>?_⟩
  subst e
  exact hn a (by simpa[vBl] using hb) ha
theorem kQk {hs:List (Bool × SV)} {k:Nat} {x:Bool × SV} (hk:k<hs.length):∀b ∈ vBl (hs.set k x),b ∈ vBl hs∨b ∈ zQe x.2:=λb hb=>by
 obtain⟨y,hy,hyb⟩:=List.mem_flatMap.1 hb
 rcases List.mem_or_eq_of_mem_set hy with hy|rfl
 ·exact .inl (zVb hy hyb)
 ·exact .inr hyb
theorem yXg {hs:List (Bool × SV)} {k:Nat} {x:Bool × SV} (hk:k<hs.length) (hn:(vBl hs).Nodup) (hx:∀b ∈ zQe x.2,b ∉ vBl hs):(vBl (hs.set k x)).Nodup:=by
 obtain⟨y,hy⟩:=zQM hk
 have e:hs=hs.take k ++ y :: hs.drop (k+1):=by rw[←zXU hy,List.take_append_drop]
 have e2:vBl hs=vBl (hs.take k) ++ (zQe y.2 ++ vBl (hs.drop (k+1))):=by conv=>lhs;rw[e,zXv,zVR]
 rw[e2]at hn hx
 rw[yYq hk,zXv,zVR]
 obtain⟨n1,n2,n3⟩:=List.nodup_append.1 hn
 obtain⟨m1,m2,m3⟩:=List.nodup_append.1 n2
 refine List.nodup_append.2 ⟨n1,List.nodup_append.2 ⟨zYD _,m2,λa ha b hb e=>?_⟩,λa ha b hb e=>?_⟩
 ·subst e
  exact hx a ha (List.mem_append_right _ (List.mem_append_right _ hb))
 ·subst e
  rcases List.mem_append.1 hb with hb|hb
  ·exact hx a hb (List.mem_append_left _ ha)
  ·exact n3 a ha a (List.mem_append_right _ hb) rfl
theorem zJD.set (ht:zJD w t h) {k:Nat} (hk:k<t.recs.length) {q:SV} {x:Rec} (hq:zQl w 73 3 q (x.v.flatMap zVA)) (hn:∀b ∈ zQe q,b ∉ vBl h.hs) {K:World->Prop}
  (hK:∀w1,zJD w1 { t with recs:=t.recs.set k x } { h with hs:=h.hs.set k (x.gone,q) }->Fr (· ∈ zQe h.r) w w1->K w1):∃a,h.r.a=some a/\stA prog 67 (a.add (k * 2)) #[.bool x.gone,slV q] w K:=by
 have hl:=ht.len
 refine ht.rw_.stElem zQS (by decide) (i:=k) (by omega) (x.gone,q) yWB.symm rfl λw1 h1 dY rY=>hK w1 ⟨ht.page,h1,by simp[hl],λi y z hy hz=>?_,yXg (by omega) ht.nd hn⟩ dY
 have hy:(h.hs.set k (x.gone,q))[i]?=some y:=hy
 have hz:(t.recs.set k x)[i]?=some z:=hz
 rw[List.getElem?_set]at hy hz
 by_cases e:k=i
 ·subst e
  rw[if_pos rfl,if_pos (by omega)]at hy hz
  cases hy;cases hz
  exact⟨rfl,hq.fr dY (zQq hq ht.rw_ (by decide))⟩
 ·rw[if_neg e]at hy hz
  obtain⟨e1,e2⟩:=ht.rec_ i y z hy hz
  exact⟨e1,e2.fr dY (zQq e2 ht.rw_ (by decide))⟩
theorem zJD.mark(ht:zJD w t h){k:Nat}(hk:k<t.recs.length)(g:Bool){K:World->Prop}
  (hK:∀w1 hs,zJD w1 { t with recs:=t.recs.modify k λr=>{ r with gone:=g } } { h with hs:=hs }->vBl hs=vBl h.hs->Fr (· ∈ zQe h.r) w w1->K w1):∃a,h.r.a=some a/\Sh.st1 (a.add (k * 2)) (.bool g) w K:=by
 have hl:=ht.len
 obtain⟨y,hy⟩:=zQM (l:=h.hs) (k:=k) (by omega)
 have e2:vBl (h.hs.set k (g,y.2))=vBl h.hs:=by
  have e:h.hs=h.hs.take k ++ y :: h.hs.drop (k+1):=by rw[←zXU hy,List.take_append_drop]
  rw[yYq (by omega)]
  conv=>rhs;rw[e]
  rw[zXv,zXv,zVR,zVR]
 have hnd:(vBl (h.hs.set k (g,y.2))).Nodup:=by rw[e2];exact ht.nd
 obtain⟨a,ha,hst⟩:=zQl.stField (K:=K) ht.rw_ zQS (i:=k) (o:=0) (by omega) (by decide) (g,y.2) (.bool g) (λz hz=>by rw[hy]at hz;cases hz;rfl) λw1 h1 dY rY=>hK w1 (h.hs.set k (g,y.2)) ⟨ht.page,h1,by simp[hl],λi z u hz hu=>by
   have hz:(h.hs.set k (g,y.2))[i]?=some z:=hz
   have hu:(t.recs.modify k λr=>{ r with gone:=g })[i]?=some u:=hu
   rw[List.getElem?_set]at hz
   rw[List.getElem?_modify]at hu
   by_cases e:k=i
   ·subst e
    rw[if_pos rfl,if_pos (by omega)]at hz
    cases hz
    obtain⟨r,hr⟩:=zQM hk
    simp only[if_pos,hr]at hu
    have hu:u={ r with gone:=g }:=by simpa using hu.symm
    subst hu
    obtain⟨e1,e2⟩:=ht.rec_ k y r hy hr
    exact⟨rfl,e2.fr dY (zQq e2 ht.rw_ (by decide))⟩
   ·rw[if_neg e]at hz
    simp only[if_neg e]at hu
    obtain⟨e1,e2⟩:=ht.rec_ i z u hz (by simpa using hu)
    exact⟨e1,e2.fr dY (zQq e2 ht.rw_ (by decide))⟩,hnd⟩ e2 dY
 rw[yYd]at hst
 exact⟨a,ha,hst⟩
theorem vBl_at {hs:List (Bool × SV)} (hn:(vBl hs).Nodup) {i j:Nat} {x y:Bool × SV} (hx:hs[i]?=some x) (hy:hs[j]?=some y) (hij:i ≠ j):∀b ∈ zQe x.2,b ∉ zQe y.2:=by
 have key:∀{i j:Nat} {x y:Bool × SV},i<j->hs[i]?=some x->hs[j]?=some y->∀b ∈ zQe x.2,b ∉ zQe y.2:=λ{i j x y} h hx hy b hb hc=>by
  have e:vBl hs=vBl (hs.take (i+1)) ++ vBl (hs.drop (i+1)):=by rw[←zXv,List.take_append_drop]
  rw[e]at hn
  refine(List.nodup_append.1 hn).2.2 b ?_ b ?_ rfl
  ·rw[zQB hx,zXv]
   exact List.mem_append_right _ (by simpa[vBl] using hb)
  ·refine zVb (x:=y) (List.mem_of_getElem? (i:=j - (i+1)) ?_) hc
   rw[List.getElem?_drop,show i+1+(j - (i+1))=j by omega];exact hy
 rcases Nat.lt_or_gt_of_ne hij with h|h
 ·exact key h hx hy
 ·exact λb hb hc=>key h hy hx b hc hb
theorem zJD.setV (ht:zJD w t h) {k i:Nat} {r:Rec} (hr:t.recs[k]?=some r) (hi:i<r.v.length) (v:Val) {K:World->Prop} {y:Bool × SV} (hy:h.hs[k]?=some y)
  (hK:∀w1,zJD w1 { t with recs:=t.recs.modify k λr=>{ r with v:=r.v.set i v } } h->Fr (· ∈ zQe y.2) w w1->K w1):∃a,y.2.a=some a/\stA prog 73 (a.add (i * 3)) #[.int .i64 v.kind,.int .i64 v.n,.string v.s] w K:=by
 obtain⟨e1,e2⟩:=ht.rec_ k y r hy hr
 refine e2.stElem zXA (by decide) (i:=i) hi v kQd.symm rfl λw1 h1 dY rY=>hK w1 ⟨ht.page,ht.rw_.fr dY λb hb hc=>zQq e2 ht.rw_ (by decide) b hc hb,by simp[ht.len],λj z u hz hu=>?_,ht.nd⟩ dY
 have hu:(t.recs.modify k λr=>{ r with v:=r.v.set i v })[j]?=some u:=hu
 rw[List.getElem?_modify]at hu
 by_cases e:k=j
 ·subst e
  simp only[if_pos,hr]at hu
  have hu:u={ r with v:=r.v.set i v }:=by simpa using hu.symm
  subst hu
  rw[hy]at hz;cases hz
  exact⟨e1,h1⟩
 ·simp only[if_neg e]at hu
  obtain⟨d1,d2⟩:=ht.rec_ j z u hz (by simpa using hu)
  exact⟨d1,d2.fr dY λb hb hc=>vBl_at ht.nd hy hz e b hc hb⟩
end Go.Proofs.YtaeecpjhfmcliaaGreatDoor
/- The log: transactions are begun, ended and taken back. No condition but those stated. -/
namespace Go.Proofs.YtaeecpjhfmcliaaGreatDoor
open Go.Sh Go.RowKit Tryz
variable {w0 w w' : World} {X : Nat -> Prop} {L L' : SL} {d d' : Dat} {mu : Int} {p : Int} {f : List Fld}
theorem zQG.st1S (h:zQG X w L d mu) {o:Nat} {v:Value} {K:World->Prop} (ho:o<11) (hK:∀w2,w2.heap[L.S]?=some (.cells ((zJU mu L).setIfInBounds o v) 108)->Fr (·=L.S) w w2->K w2):st1 ((⟨L.S,0,none⟩:Addr).add o) v w K:=by
 rw[zQr,Nat.zero_add]
 exact zQt h.st ho λw2 mV aN=>hK w2 aN (by rw[mV];exact Fr.cell w _ _ _)
def yXE(X:Nat->Prop)(w:World)(L:SL)(v:Value)(d':Dat):Rt:=λe w'=>e=.returned v/\∃L',zQG X w' L' d' 0/\zZe w w' L L'
theorem zXN{v:Value}(h:zQG X w L d 1)(hl:zZe w0 w L' L):zQb prog [zZc L] w λw2=>yXE X w0 L' v d (.returned v) w2:=yVL h hl λw3 h3 h4 _=>⟨rfl,L,h3,h4⟩
theorem zXY{v:Value}{L0:SL}(h:zQG X w L d 1)(hl:zZe w0 w L0 L)(hp:L0.S=L.S):zQb prog [zZc L0] w λw2=>yXE X w0 L0 v d (.returned v) w2:=by
 have:zZc L0=zZc L:=by unfold zZc SL.ptr;rw[hp]
 rw[this];exact zXN h hl
theorem yJs(h:zQG X w L d 0)(hi:InvW p f d):Calls prog 35 #[L.ptr] w (yXE X w L (.int .i64 (zJT d.σ)) d.begin):=by
 have hlv:=h.lv.len zQv (by decide)
 have hll:=h.ll
 have h8:=hi.l8
 refine xQF _ w _ ((zXn h (Pu.refl w)).mono ?_)
 rintro e w1 ⟨rfl,hI,hf,hs⟩
 have h1:=hI.at_ h
 refine⟨_,_,rfl,zJg (Br.of (λc=>by cases c) λ_=>⟨L.lv,h1.cellA 5,Br.of (λc=>?_) (λc=>?_)⟩)⟩
 ·have c:8<=d.σ.lev.length:=by have:=zQk c;omega
  have e1:zJT d.σ=3:=by unfold zJT;rw[if_pos c]
  have e2:d.begin=d:=by unfold Dat.begin Dat.to zJa;rw[if_pos c]
  rw[e1,e2]
  exact zXN h1 hI.left
 ·have c:¬8<=d.σ.lev.length:=by have:=zQd c;omega
  have e1:zJT d.σ=0:=by unfold zJT;rw[if_neg c]
  have e2:d.begin={ d with σ:={ d.σ with lev:=d.σ.lev ++ [d.σ.t] } }:=by unfold Dat.begin Dat.to zJa;rw[if_neg c]
  rw[e1,e2]
  refine zQc λw5 aU _=>?_
  have h5:=h1.pu aU
  refine⟨λu=>Pu w5 u,Pu.refl _,L.lv,λu hu=>(h5.pu hu).cellA 5,_,λu hu=>(h5.pu hu).cellB 2 0,L.now.f,λu hu=>(h5.pu hu).cellB 2 1,L.now.r,λu hu=>(h5.pu hu).cellB 2 2,?_⟩
  rw[h5.now.page]
  refine(zJH (h5.rdNow hi.t.ok) hi.t.ok).mono ?_
  rintro e w8 ⟨q,rfl,hq,cj⟩
  refine⟨q.page,q.f,q.r,rfl,cj,alB λw9 cI oq=>⟨cj.trans cI,?_⟩⟩
  obtain⟨s,aO,hr,hst⟩:=h5.pushLev (cj.trans cI) (hq.pu cI) hi.t.ok oq (by omega) (K:=λaM=>zQb prog [zZc L] aM λaH=>yXE X w L (.int .i64 0) { d with σ:={ d.σ with lev:=d.σ.lev ++ [d.σ.t] } } (.returned (.int .i64 0)) aH) λaM L1 mY pV=>
   zXY mY ((hI.left.trans (zZe.pu aU L)).trans pV) pV.ptr.symm
  exact⟨s,aO,hr,hst⟩
theorem yZs{e:TypeId}{sz:Nat}{s:SV}{vs:List Value}{n:Nat}(h:zQl w e sz s vs)(hn:n<=s.len)(ha:s.a ≠ none):zQl w e sz ⟨s.a,n,s.cap⟩ (vs.take (n * sz)):=by
 obtain⟨h1,hd|⟨g,cur,h3,h4,h5,h6,h7,h8⟩⟩:=h
 ·rw[hd]at ha;exact absurd rfl ha
 ·have hm:n * sz<=s.len * sz:=Nat.mul_le_mul_right _ hn
  refine⟨by rw[List.length_take,h1];exact Nat.min_eq_left hm,.inr ⟨g,cur,h3,h4,Nat.le_trans hn h5,h6,h7,?_⟩⟩
  rw[←h8,List.take_take,Nat.min_eq_left hm]
theorem yX7 {α:Type} {l:List α} (h:l ≠ []):∃l0 x,l=l0 ++ [x]:=⟨l.dropLast,l.getLast h,(List.dropLast_concat_getLast h).symm⟩
structure yKB(L:SL)(d:Dat)(l0:List HT)(x:HT)(v0:List Tbl)(t:Tbl):Prop where
 lh:L.lh=l0 ++ [x]
 lev:d.σ.lev=v0 ++ [t]
def SL.pop(L:SL)(l0:List HT):SL:={ L with lv:=⟨L.lv.a,L.lv.len - 1,L.lv.cap⟩,lh:=l0 }
theorem yYQ {l0:List HT} {x:HT} (h:L.lh=l0 ++ [x]) {b:Nat} (hb:(L.pop l0).own b):L.own b:=by
 rcases hb with hb|hb|hb|hb|hb|⟨z,hz,hb⟩
 ·exact .inl hb
 ·exact .inr (.inl hb)
 ·exact .inr (.inr (.inl hb))
 ·exact .inr (.inr (.inr (.inl hb)))
 ·exact .inr (.inr (.inr (.inr (.inl hb))))
 ·refine .inr (.inr (.inr (.inr (.inr ⟨z,?_,hb⟩))))
  have hz:z ∈ L.now :: l0:=hz
  rcases List.mem_cons.1 hz with rfl|hz
  ·exact List.mem_cons_self
  ·rw[h];exact List.mem_cons_of_mem _ (List.mem_append_left _ hz)
theorem pop_row(h:zQG X w L d mu){l0:List HT}{x:HT}{v0:List Tbl}{t:Tbl}(hP:yKB L d l0 x v0 t):zQl w 35 3 ⟨L.lv.a,L.lv.len - 1,L.lv.cap⟩ (l0.flatMap zV7):=by
 have hl:=h.lv.len zQv (by decide)
 have hll:L.lh.length=l0.length+1:=by rw[hP.lh];simp
 have ha:L.lv.a ≠ none:=by
  obtain⟨_,hd|⟨g,cur,h3,_⟩⟩:=h.lv
  ·rw[hd]at hl
   have hl:0=L.lh.length:=hl
   omega
  ·rw[h3];simp
 have h1:=yZs h.lv (n:=L.lv.len - 1) (by omega) ha
 rw[hP.lh,List.flatMap_append,show L.lv.len - 1=l0.length by omega]at h1
 have e:(l0.flatMap zV7).length=l0.length * 3:=zQ2 zQv l0
 rw[←e,List.take_left]at h1
 rw[show L.lv.len - 1=l0.length by omega]
 exact h1
theorem zQG.pop (h:zQG X w L d mu) {l0:List HT} {x:HT} {v0:List Tbl} {t:Tbl} (hP:yKB L d l0 x v0 t) (hf:Fr (·=L.S) w w') {mu':Int} (hst:w'.heap[L.S]?=some (.cells (zJU mu' (L.pop l0)) 108)):zQG X w' (L.pop l0) { d with σ:={ d.σ with lev:=v0 } } mu':=by
 have hr:=pop_row h hP
 have hll:l0.length=v0.length:=by
  have:=h.ll
  rw[hP.lh,hP.lev]at this;simpa using this
 have at0:∀{i:Nat} {y:HT},l0[i]?=some y->L.lh[i]?=some y:=λ{i y} hy=>by rw[hP.lh,List.getElem?_append_left (List.getElem?_eq_some_iff.1 hy).1];exact hy
 have xd:∀{i:Nat} {y:Tbl},v0[i]?=some y->d.σ.lev[i]?=some y:=λ{i y} hy=>by rw[hP.lev,List.getElem?_append_left (List.getElem?_eq_some_iff.1 hy).1];exact hy
 refine⟨hst,hr.fr hf λb hb e=>hr.other h.st (by decide) (by rw[←show b=L.S from e];exact hb),h.dn.fr hf λb hb e=>h.dn.other h.st (by decide) (by rw[←show b=L.S from e];exact hb),h.wr.fr hf λb hb e=>h.wr.other h.st (by decide) (by rw[←show b=L.S from e];exact hb),h.pt.fr hf λb hb e=>h.pt.other h.st (by decide) (by rw[←show b=L.S from e];exact hb),
  h.now.fr hf λb hb e=>h.now.other h.st (by decide) (by decide) (by rw[←show b=L.S from e];exact hb),hll,h.dl,h.wl,λi y u hy hu=>(h.lvs i y u (at0 hy) (xd hu)).fr hf λb hb e=>(h.lvs i y u (at0 hy) (xd hu)).other h.st (by decide) (by decide) (by rw[←show b=L.S from e];exact hb),h.ld,λy hy=>h.dj y (by rw[hP.lh];exact List.mem_append_left _ hy),λi j y z hij hy hz=>h.djl i j y z hij (at0 hy) (at0 hz),λb hb=>Nat.lt_of_lt_of_le (h.xl b hb) hf.size,λw2 h2=>?_⟩
 have k:=h.kp w2 ((hf.mono λb hb _=>.inl (.inl hb)).trans h2 λb hb _=>hb.imp (yYQ hP.lh) id)
 exact⟨k.nf,λi y u hy hu=>k.lf i y u (at0 hy) (xd hu),k.dt,k.fi,k.la,k.wb⟩
def SL.undo(L:SL)(l0:List HT)(x:HT):SL:={ L with lv:=⟨L.lv.a,L.lv.len - 1,L.lv.cap⟩,lh:=l0,now:=x }
theorem yKu {l0:List HT} {x:HT} (h:L.lh=l0 ++ [x]) {b:Nat} (hb:(L.undo l0 x).own b):L.own b:=by
 rcases hb with hb|hb|hb|hb|hb|⟨z,hz,hb⟩
 ·exact .inl hb
 ·exact .inr (.inl hb)
 ·exact .inr (.inr (.inl hb))
 ·exact .inr (.inr (.inr (.inl hb)))
 ·exact .inr (.inr (.inr (.inr (.inl hb))))
 ·refine .inr (.inr (.inr (.inr (.inr ⟨z,?_,hb⟩))))
  have hz:z ∈ x :: l0:=hz
  rw[h]
  rcases List.mem_cons.1 hz with rfl|hz
  ·exact List.mem_cons_of_mem _ (List.mem_append_right _ (List.mem_singleton.2 rfl))
  ·exact List.mem_cons_of_mem _ (List.mem_append_left _ hz)
theorem zQG.undo (h:zQG X w L d mu) {l0:List HT} {x:HT} {v0:List Tbl} {t:Tbl} (hP:yKB L d l0 x v0 t) (hf:Fr (·=L.S) w w') {mu':Int} (hst:w'.heap[L.S]?=some (.cells (zJU mu' (L.undo l0 x)) 108)):zQG X w' (L.undo l0 x) { d with σ:={ d.σ with t:=t,lev:=v0 } } mu':=by
 have hr:=pop_row h hP
 have hll:l0.length=v0.length:=by
  have:=h.ll
  rw[hP.lh,hP.lev]at this;simpa using this
 have at0:∀{i:Nat} {y:HT},l0[i]?=some y->L.lh[i]?=some y:=λ{i y} hy=>by rw[hP.lh,List.getElem?_append_left (List.getElem?_eq_some_iff.1 hy).1];exact hy
 have xd:∀{i:Nat} {y:Tbl},v0[i]?=some y->d.σ.lev[i]?=some y:=λ{i y} hy=>by rw[hP.lev,List.getElem?_append_left (List.getElem?_eq_some_iff.1 hy).1];exact hy
 have lx:L.lh[l0.length]?=some x:=by rw[hP.lh,List.getElem?_append_right (Nat.le_refl _),Nat.sub_self];rfl
 have lt:d.σ.lev[l0.length]?=some t:=by rw[hP.lev,hll,List.getElem?_append_right (Nat.le_refl _),Nat.sub_self];rfl
 have hx:=h.lvs _ x t lx lt
 refine⟨hst,hr.fr hf λb hb e=>hr.other h.st (by decide) (by rw[←show b=L.S from e];exact hb),h.dn.fr hf λb hb e=>h.dn.other h.st (by decide) (by rw[←show b=L.S from e];exact hb),h.wr.fr hf λb hb e=>h.wr.other h.st (by decide) (by rw[←show b=L.S from e];exact hb),h.pt.fr hf λb hb e=>h.pt.other h.st (by decide) (by rw[←show b=L.S from e];exact hb),
  hx.fr hf λb hb e=>hx.other h.st (by decide) (by decide) (by rw[←show b=L.S from e];exact hb),hll,h.dl,h.wl,λi y u hy hu=>(h.lvs i y u (at0 hy) (xd hu)).fr hf λb hb e=>(h.lvs i y u (at0 hy) (xd hu)).other h.st (by decide) (by decide) (by rw[←show b=L.S from e];exact hb),h.ld,λy hy b hb hyb=>?_,λi j y z hij hy hz=>h.djl i j y z hij (at0 hy) (at0 hz),λb hb=>Nat.lt_of_lt_of_le (h.xl b hb) hf.size,λw2 h2=>?_⟩
 ·obtain⟨i,hi⟩:=List.getElem?_of_mem (show y ∈ l0 from hy)
  have:=(List.getElem?_eq_some_iff.1 hi).1
  exact h.djl l0.length i x y (by omega) lx (at0 hi) b hb hyb
 ·have k:=h.kp w2 ((hf.mono λb hb _=>.inl (.inl hb)).trans h2 λb hb _=>hb.imp (yKu hP.lh) id)
  exact⟨k.lf _ x t lx lt,λi y u hy hu=>k.lf i y u (at0 hy) (xd hu),k.dt,k.fi,k.la,k.wb⟩
theorem yJT(h:zQG X w L d 1)(hn:d.σ.lev.length<=1000000):Calls prog 80 #[L.ptr] w λe w'=>(d.σ.lev=[]/\e=.returned (.tuple #[.agg #[.int .i64 0,.slice none 0 0,.slice none 0 0],.int .i64 9])/\Pu w w') ∨
  ∃l0 x v0 t,yKB L d l0 x v0 t/\e=.returned (.tuple #[.agg #[.int .i64 x.page,slV x.f,slV x.r],.int .i64 0])/\Fr (·=L.S) w w'/\w'.heap[L.S]?=some (.cells (zJU 1 (L.pop l0)) 108):=by
 have hlv:=h.lv.len zQv (by decide)
 have hll:=h.ll
 have hS:=h.S_lt
 refine xQ8 _ w _ (alB λw1 aq ay=>?_)
 have h1:=h.pu aq
 refine⟨L.lv,h1.cellA 5,Br.of (λc=>?_) (λc=>?_)⟩
 ·have c:L.lv.len=0:=by simpa using c
  refine zQi ay zKS.symm rfl rfl λw3 br fU _=>⟨_,cl br 0,⟨none,0,0⟩,cl br 1,⟨none,0,0⟩,cl br 2,.inl ⟨List.eq_nil_of_length_eq_zero (by omega),rfl,aq.andNew fU λi hi=>by rw[show i=_ from hi];exact Nat.le_refl _⟩⟩
 ·have c:¬L.lv.len=0:=by simpa using c
  obtain⟨l0,x,hlh⟩:=yX7 (l:=L.lh) (λe=>by rw[e]at hlv;simp at hlv;omega)
  obtain⟨v0,t,mT⟩:=yX7 (l:=d.σ.lev) (λe=>by rw[e]at hll;simp at hll;rw[hll]at hlv;simp at hlv;omega)
  have hlen:L.lh.length=l0.length+1:=by rw[hlh];simp
  have hx:L.lh[L.lv.len - 1]?=some x:=by rw[hlh,List.getElem?_append_right (by omega),show L.lv.len - 1 - l0.length=0 by omega];rfl
  obtain⟨a,ha,hk,c0⟩:=h1.lv.elem zQv hx (o:=0) rfl
  obtain⟨a',ha',_,c1⟩:=h1.lv.elem zQv hx (o:=1) rfl
  obtain⟨a'',ha'',_,c2⟩:=h1.lv.elem zQv hx (o:=2) rfl
  rw[ha]at ha' ha'';cases ha';cases ha''
  rw[zQa (n:=((L.lv.len:Nat):Int) - 1) (by omega) (by omega),show((L.lv.len:Nat):Int) - 1=((L.lv.len - 1:Nat):Int)by omega,zXh]
  have hcap:=h1.lv.le_cap.1
  refine⟨L.lv,h1.cellA 5,a,ha,by omega,by omega,_,c0,x.f,c1,x.r,c2,alB λw7 cH j0=>zQi j0 zKS.symm rfl rfl λw8 j1 oz _=>?_⟩
  have mW:Pu w1 w8:=cH.andNew oz λi hi=>by rw[show i=_ from hi];exact Nat.le_refl _
  have dO:=aq.trans mW
  have h8:=h.pu dO
  have ng:w.heap.size<w1.heap.size:=zQx ay
  refine⟨L.lv,h8.cellA 5,by omega,by omega,by omega,?_⟩
  have esl:(if L.lv.cap=0 then L.lv.a else L.lv.a.map (λx=>x.add (0 * 3)))=L.lv.a:=by rw[if_neg (by omega),ha];show some (a.add (0 * 3))=_;rw[Nat.zero_mul,yYd]
  rw[esl,Nat.sub_zero,Nat.sub_zero]
  rw[zZn]
  refine h8.st1S (by decide) λaR ir mX=>?_
  have xe:=mX.blk j1 (show ¬w1.heap.size=L.S by omega)
  have b111:=mX.blk (mW.blk ay) (show ¬w.heap.size=L.S by omega)
  refine⟨_,cl xe 0,x.f,cl xe 1,x.r,cl xe 2,zQi b111 zKS.symm rfl rfl λaM kU eI _=>⟨_,cl kU 0,x.f,cl kU 1,x.r,cl kU 2,.inr ⟨l0,x,v0,t,⟨hlh,mT⟩,rfl,?_,?_⟩⟩⟩
  ·exact((Fr.pu dO:Fr (·=L.S) w w8).trans mX λ_ h _=>h).trans eI λb hb hlt=>by have hb:b=w.heap.size:=hb;omega
  ·exact eI.blk ir (show ¬L.S=w.heap.size by omega)
theorem end_c(h:zQG X w L d 0)(hi:Inv p f d)(hs:Fit d):Calls prog 36 #[L.ptr] w (yXE X w L (.int .i64 (zJf d.σ)) d.end_):=by
 have hS:=h.S_lt
 have td:=hi.l8
 refine xZa _ w _ ((zXn h (Pu.refl w)).mono ?_)
 rintro e w1 ⟨rfl,hI,hf,hsz⟩
 have h1:=hI.at_ h
 refine⟨_,_,rfl,zJg (Br.of (λc=>by cases c) λ_=>(yJT h1 (by omega)).mono ?_)⟩
 rintro e w3 (⟨hnil,rfl,ax⟩|⟨l0,x,v0,t,hP,rfl,fU,xf⟩)
 ·refine⟨0,⟨none,0,0⟩,⟨none,0,0⟩,9,rfl,alB λw4 aK dx=>zQi dx zKS.symm rfl rfl λw5 bu cL _=>Br.of (λ_=>?_) (λc=>by cases c)⟩
  have fh:Pu w1 w5:=(ax.trans aK).andNew cL λi hi=>by rw[show i=_ from hi];exact ax.size
  have e1:zJf d.σ=9:=by unfold zJf;rw[if_pos hnil]
  have e2:d.end_=d:=by unfold Dat.end_;rw[if_pos hnil]
  rw[e1,e2]
  exact zXN (h1.pu fh) (hI.left.trans (zZe.pu fh L))
 ·have h3:=h1.pop hP fU xf
  have hlne:d.σ.lev ≠ []:=by rw[hP.lev];simp
  have e1:zJf d.σ=0:=by unfold zJf;rw[if_neg hlne]
  have e2:d.end_=({ d with σ:={ d.σ with lev:=v0 } }:Dat).commit:=by unfold Dat.end_ Dat.to;rw[if_neg hlne,hP.lev,List.dropLast_concat]
  have hW:InvW p f { d with σ:={ d.σ with lev:=v0 } }:=by
   have:=yXw hi
   unfold Dat.to at this
   rw[hP.lev,List.dropLast_concat]at this;exact this
  have hL3:zZe w1 w3 L (L.pop l0):=⟨fU.mono λb hb _=>.inl hb,λb hb=>.inl (yYQ hP.lh hb),rfl⟩
  refine⟨x.page,x.f,x.r,0,rfl,alB λw4 aK dx=>zQi dx zKS.symm rfl rfl λw5 bu cL _=>Br.of (λc=>by cases c) (λ_=>?_)⟩
  have ci:Pu w3 w5:=aK.andNew cL λi hi=>by rw[show i=_ from hi];exact Nat.le_refl _
  refine Calls.mono (yKE (L:=L.pop l0) (h3.pu ci) hW ⟨hs.l1,hs.l2,hs.wn,hs.dn⟩) ?_
  rintro e w7 ⟨rfl,L2,h7,hL7⟩
  refine⟨rfl,?_⟩
  rw[e1,e2]
  have hL:=(hI.left.trans hL3).trans ((zZe.pu ci (L.pop l0)).trans hL7)
  exact zXY h7 hL hL.ptr.symm
end Go.Proofs.YtaeecpjhfmcliaaGreatDoor
/- The log: records are put behind, replaced, marked; values are set. No condition but those stated. -/
namespace Go.Proofs.YtaeecpjhfmcliaaGreatDoor
open Go.Sh Go.RowKit Tryz
variable {w0 w w' : World} {X : Nat -> Prop} {L L' : SL} {d d' : Dat} {mu : Int} {p : Int} {f : List Fld}
theorem yQX{L1:SL}{w1:World}{d1:Dat}(h1:zQG X w1 L1 d1 1)(hl:zZe w w1 L L1)(hW:InvW p f d1)(hs:Fit d1):Calls prog 79 #[L.ptr] w1 λe w2=>e=.returned (.tuple #[])/\∃L2,zQG X w2 L2 d1.commit 1/\zZe w w2 L L2:=by
 have e:L.ptr=L1.ptr:=by unfold SL.ptr;rw[hl.ptr]
 rw[e]
 refine(yKE h1 hW hs).mono ?_
 rintro e w2 ⟨rfl,L2,h2,xT⟩
 exact⟨rfl,L2,h2,hl.trans xT⟩
theorem stA3 {c:Array Value} {S:Nat} {v0 v1 v2:Value} {K:World->Prop} (hb:w.heap[S]?=some (.cells c 108)) (hc:c.size=11) (h0:yX2 v0=true) (h1:yX2 v1=true) (h2:yX2 v2=true)
  (hK:∀w2,w2.heap[S]?=some (.cells (((c.setIfInBounds 2 v0).setIfInBounds 3 v1).setIfInBounds 4 v2) 108)->Fr (·=S) w w2->K w2):stA prog 35 ((⟨S,0,none⟩:Addr).add 2) #[v0,v1,v2] w K:=by
 refine⟨zKS.symm,by simp[h0,h1,h2],?_⟩
 show Sh.st1 (((⟨S,0,none⟩:Addr).add 2).add 0) v0 w _
 rw[zQr,zQr]
 refine zQt hb (by omega) λwa hwa hba=>?_
 show Sh.st1 (((⟨S,0+2,none⟩:Addr)).add 1) v1 wa _
 rw[zQr]
 refine zQt hba (by simp;omega) λwb hwb hbb=>?_
 show Sh.st1 (((⟨S,0+2,none⟩:Addr)).add 2) v2 wb _
 rw[zQr]
 refine zQt hbb (by simp;omega) λwc hwc hbc=>hK wc hbc ?_
 rw[hwc,hwb,hwa]
 exact((Fr.cell w _ _ _).trans (Fr.cell _ _ _ _) λ_ h _=>h).trans (Fr.cell _ _ _ _) λ_ h _=>h
theorem xV2(h:zQG X w L d 0)(td:d.σ.lev.length<=8):Calls prog 37 #[L.ptr] w (yXE X w L (.int .i64 (zJf d.σ)) d.back):=by
 have hS:=h.S_lt
 refine xX9 _ w _ ((zXn h (Pu.refl w)).mono ?_)
 rintro e w1 ⟨rfl,hI,hf,hsz⟩
 have h1:=hI.at_ h
 refine⟨_,_,rfl,zJg (Br.of (λc=>by cases c) λ_=>(yJT h1 (by omega)).mono ?_)⟩
 rintro e w3 (⟨hnil,rfl,ax⟩|⟨l0,x,v0,t,hP,rfl,fU,xf⟩)
 ·refine⟨0,⟨none,0,0⟩,⟨none,0,0⟩,9,rfl,alB λw4 aK dx=>zQi dx zKS.symm rfl rfl λw5 bu cL _=>Br.of (λ_=>?_) (λc=>by cases c)⟩
  have fh:Pu w1 w5:=(ax.trans aK).andNew cL λi hi=>by rw[show i=_ from hi];exact ax.size
  have e1:zJf d.σ=9:=by unfold zJf;rw[if_pos hnil]
  have e2:d.back=d:=by unfold Dat.back Dat.to zVj;rw[if_pos hnil]
  rw[e1,e2]
  exact zXN (h1.pu fh) (hI.left.trans (zZe.pu fh L))
 ·have hlne:d.σ.lev ≠ []:=by rw[hP.lev];simp
  have e1:zJf d.σ=0:=by unfold zJf;rw[if_neg hlne]
  have e2:d.back={ d with σ:={ d.σ with t:=t,lev:=v0 } }:=by
   unfold Dat.back Dat.to zVj;rw[if_neg hlne,hP.lev,List.dropLast_concat,List.getLast?_concat];rfl
  refine⟨x.page,x.f,x.r,0,rfl,alB λw4 aK dx=>zQi dx zKS.symm rfl rfl λw5 bu cL _=>Br.of (λc=>by cases c) (λ_=>⟨_,cl bu 0,x.f,cl bu 1,x.r,cl bu 2,?_⟩)⟩
  have ci:Pu w3 w5:=aK.andNew cL λi hi=>by rw[show i=_ from hi];exact Nat.le_refl _
  rw[zZn]
  refine stA3 (ci.blk xf) rfl rfl rfl rfl λw8 j1 oz=>?_
  have hf18:Fr (·=L.S) w1 w8:=(fU.trans (Fr.pu ci:Fr (·=L.S) w3 w5) λ_ h _=>h).trans oz λ_ h _=>h
  have h8:=h1.undo hP hf18 (mu':=1) j1
  have hL8:zZe w1 w8 L (L.undo l0 x):=⟨hf18.mono λb hb _=>.inl hb,λb hb=>.inl (yKu hP.lh hb),rfl⟩
  rw[e1,e2]
  exact zXY h8 (hI.left.trans hL8) rfl
theorem zYM(h:zQG X w L d mu)(hn:d.σ.t.recs.length<=1000000)(k:Int):Calls prog 81 #[L.ptr,.int .i64 k] w λe w'=>e=.returned (.bool (zXd d.σ k))/\w'=w:=by
 have hrl:=h.now.rlen
 refine xXh _ _ w _ (Br.of (λc=>⟨L.now.r,h.cellB 2 2,?_,rfl⟩) (λc=>⟨?_,rfl⟩))
 ·have c:=zQk c
  unfold zXd
  rw[hrl,decide_eq_true (show 1<=k by omega),Bool.true_and]
 ·have c:=zQd c
  unfold zXd
  rw[decide_eq_false (show ¬1<=k by omega),Bool.false_and]
theorem xVr(h:zQG X w L d mu)(hv:zQh d.σ.t=0){s:SV}{r:Rec}(hr:zX6 w s r.v):Calls prog 77 #[L.ptr,.agg #[.bool r.gone,slV s]] w λe w'=>e=.returned (.int .i64 (zQ0 d.σ.t.fields d.σ.t.page r))/\Pu w w':=by
 have hR:=zQL.of hv
 refine xXa _ _ _ w _ (alB λw1 aq ay=>zQc λw2 ar _=>?_)
 have aF:=aq.trans ar
 have h2:=h.pu aF
 have cM:=ar.blk ay
 refine⟨λu=>Pu w2 u,Pu.refl _,d.σ.t.page,λu hu=>by rw[(h2.pu hu).cellA 2,←h.now.page];rfl,L.now.f,λu hu=>(h2.pu hu).cellB 2 1,r.gone,λu hu=>cl (hu.blk cM) 0,s,λu hu=>cl (hu.blk cM) 1,alB λw5 aU bu=>⟨aU,?_⟩⟩
 have dC:=aF.trans aU
 have hrow:zX6 w5 ⟨some ⟨w2.heap.size,0,none⟩,1,1⟩ [r]:=by
  refine⟨rfl,Nat.le_refl _,by show 1<=140737488355328;omega,λi x hx=>?_⟩
  have xk:i=0:=by have:=(List.getElem?_eq_some_iff.1 hx).1;simp at this;exact this
  subst xk
  simp at hx;subst hx
  refine⟨⟨w2.heap.size,0,none⟩,rfl,[.bool r.gone,slV s],⟨s,rfl,hr.pu dC⟩,λj v hv=>?_⟩
  rcases j with _|_|j <;> simp at hv
  ·subst hv;exact cl bu 0
  ·subst hv;exact cl bu 1
 refine(zZy (t:=⟨d.σ.t.page,d.σ.t.fields,[r]⟩) ⟨(zX8 hv).page,((h.pu dC).kp0).nf,hrow⟩ (show Lim.ok d.σ.t.fields from zZ8 hv)).mono ?_
 rintro e w6 ⟨rfl,bC⟩
 refine⟨_,rfl,?_,dC.trans bC⟩
 congr 2
 unfold zQh
 rw[if_pos hR.page,if_neg (by rw[hR.vf];simp),if_neg (by show ¬300<1;omega)]
 show zXu d.σ.t.fields d.σ.t.page [r]=_
 unfold zXu
 split
 ·rfl
 ·rename_i hx
  have:zQ0 d.σ.t.fields d.σ.t.page r=0:=by simpa using hx
  rw[this];rfl
def RecK(w:World)(L:SL)(s:SV)(r:Rec):Prop:=∀w2,Fr L.own w w2->zX6 w2 s r.v
theorem xQE{b:Nat}(h:b ∈ zQe L.now.r∨b ∈ vBl L.now.hs):L.own b:=.inr (.inr (.inr (.inr (.inr ⟨L.now,List.mem_cons_self,h⟩))))
theorem app_c(h:zQG X w L d 0)(hi:Inv p f d)(hs:Fit d){s:SV}{r:Rec}(hr:RecK w L s r):Calls prog 34 #[L.ptr,.agg #[.bool r.gone,slV s]] w (yXE X w L (.tuple #[.int .i64 (yYf d.σ r),.int .i64 (yZU d.σ r)]) (d.app r)):=by
 have hS:=h.S_lt
 have cK:=(zQL.of hi.t.ok).n300
 have hrl:=h.now.rlen
 refine xXL _ _ _ w _ (alB λw1 aq ay=>(zXn h aq).mono ?_)
 rintro e w2 ⟨rfl,hI,hf,hsz⟩
 have h2:=hI.at_ h
 have ng:w.heap.size<w1.heap.size:=zQx ay
 have b2:=hf.blk ay (show ¬w.heap.size=L.S by omega)
 have stay:∀{w3:World} (c:Int),yZU d.σ r=c->c ≠ 0->Pu w2 w3->zQb prog [zZc L] w3 λw4=>yXE X w L (.tuple #[.int .i64 (yYf d.σ r),.int .i64 (yZU d.σ r)]) (d.app r) (.returned (.tuple #[.int .i64 0,.int .i64 c])) w4:=λ{w3} c hc h0 hp=>by
  have e1:yYf d.σ r=0:=by unfold yYf;rw[if_neg (by rw[hc];exact h0)]
  have e2:d.app r=d:=by unfold Dat.app;rw[if_neg (by rw[hc];exact h0)]
  rw[e1,e2,hc]
  exact zXN (h2.pu hp) (hI.left.trans (zZe.pu hp L))
 refine⟨_,_,rfl,zJg (Br.of (λc=>by cases c) λ_=>⟨L.now.r,h2.cellB 2 2,Br.of (λc=>?_) (λc=>?_)⟩)⟩
 ·exact stay 3 (by unfold yZU;rw[if_pos (by have:=zQk c;omega)]) (by decide) (Pu.refl _)
 have c:¬300<=d.σ.t.recs.length:=by have:=zQd c;omega
 have eC:yZU d.σ r=zQ0 d.σ.t.fields d.σ.t.page r:=by unfold yZU;rw[if_neg c]
 have jo:zX6 w2 s r.v:=hr w2 (hI.left.fr)
 refine⟨r.gone,cl b2 0,s,cl b2 1,(xVr h2 hi.t.ok jo).mono ?_⟩
 rintro e w6 ⟨rfl,bC⟩
 refine⟨_,rfl,Br.of (λc1=>stay _ eC (zQ1 c1) bC) (λc1=>?_)⟩
 have c1:zQ0 d.σ.t.fields d.σ.t.page r=0:=zQs c1
 have pd:r.v.length<=1000000:=by have:=zX0 c1;have:=(zJc.of hi.t.ok).n16;omega
 refine zQc λw8 cj _=>?_
 have iu:=bC.trans cj
 have h8:=h2.pu iu
 have b8:=iu.blk b2
 refine⟨λu=>Pu w8 u,Pu.refl _,L.now.r,λu hu=>(h8.pu hu).cellB 2 2,r.gone,λu hu=>cl0 (hu.blk b8),s,λu hu=>cl (hu.blk b8) 1,(yQW (RdV.of (jo.pu iu)) pd).mono ?_⟩
 rintro e aO ⟨q,rfl,hq,hqn,dP⟩
 refine⟨q,rfl,dP,alB λaR fg ir=>⟨dP.trans fg,?_⟩⟩
 have rU:=dP.trans fg
 have qH:=h8.pu rU
 have hnl:∀b,(b ∈ zQe L.now.r∨b ∈ vBl L.now.hs)->b<w8.heap.size:=λb hb=>h8.own_lt (xQE hb)
 obtain⟨s',aM,hra,pe,eI,hbk⟩:=qH.now.push (x:=r) (hq.pu fg) (λb hb hc=>by have:=hqn b hb;have:=hnl b (.inr hc);omega) ir (by omega)
 refine⟨s',aM,hra,?_⟩
 have kB:=eI.blk qH.st (qH.now.rw_.other qH.st (by decide))
 rw[zZn,zQr,zQr]
 refine zQt kB (by show 0+2+2<11;omega) λbo hw14 iH=>?_
 have oA:Fr (·=L.S) aM bo:=by rw[hw14];exact Fr.cell aM _ _ _
 have hf811:Fr (λb=>b=L.S∨b ∈ zQe L.now.r) aR bo:=(eI.mono λb hb _=>.inr hb).trans oA λb hb _=>.inl hb
 have hT14:=pe.fr oA λb hb e=>by
  have e:b=L.S:=e
  subst e
  rcases hb with hb|hb
  ·rcases hbk _ hb with hb|hb
   ·exact qH.now.rw_.other qH.st (by decide) hb
   ·have:=qH.S_lt;omega
  ·have hb:L.S ∈ vBl (L.now.hs ++ [(r.gone,q)]):=hb
   rw[zXv,List.mem_append]at hb
   rcases hb with hb|hb
   ·exact qH.now.other qH.st (by decide) (by decide) (.inr hb)
   ·have:=hqn L.S (by simpa[vBl] using hb);have:=h8.S_lt;omega
 obtain⟨h14,hL14⟩:=h8.reNow rU hf811 (λb hb=>hb.imp id .inl) (q:={ L.now with r:=s',hs:=L.now.hs ++ [(r.gone,q)] }) (t:={ d.σ.t with recs:=d.σ.t.recs ++ [r] }) iH hT14 (λb hb=>by
  rcases hb with hb|hb
  ·rcases hbk _ hb with hb|hb
   ·exact .inl (.inl hb)
   ·exact .inr (by have:=rU.size;omega)
  ·have hb:b ∈ vBl (L.now.hs ++ [(r.gone,q)]):=hb
   rw[zXv,List.mem_append]at hb
   rcases hb with hb|hb
   ·exact .inl (.inr hb)
   ·exact .inr (hqn b (by simpa[vBl] using hb))) rfl rfl
 have hLall:zZe w bo L { L with now:={ L.now with r:=s',hs:=L.now.hs ++ [(r.gone,q)] } }:=(hI.left.trans (zZe.pu iu L)).trans hL14
 have hW:=zJC (l:=d.σ.t.recs ++ [r]) hi (by rw[List.length_append,List.length_singleton];omega) (by rw[List.length_append];omega) λx hx=>by
  rcases List.mem_append.1 hx with hx|hx
  ·exact hi.recR x hx
  ·rw[List.mem_singleton.1 hx,←hi.t.fields,←hi.t.page];exact c1
 refine(yQX h14 hLall hW ⟨hs.l1,hs.l2,hs.wn,hs.dn⟩).mono ?_
 rintro e bt ⟨rfl,L2,rV,j2⟩
 have eA:d.app r=d.recs (d.σ.t.recs ++ [r]):=by unfold Dat.app;rw[if_pos (by rw[eC];exact c1)]
 have eN:yYf d.σ r=(d.σ.t.recs.length:Int)+1:=by unfold yYf;rw[if_pos (by rw[eC];exact c1)]
 have hlen:L2.now.r.len=d.σ.t.recs.length+1:=by
  rw[rV.now.rlen,Dat.commit_σ]
  unfold zZv
  split <;> simp[Dat.to]
 rw[←j2.ptr]
 refine⟨rfl,L2.now.r,rV.cellB 2 2,?_⟩
 rw[eA,eN,eC,c1,show((L2.now.r.len:Nat):Int)=(d.σ.t.recs.length:Int)+1 by omega]
 exact zXY (v:=.tuple #[.int .i64 ((d.σ.t.recs.length:Int)+1),.int .i64 0]) rV j2 j2.ptr.symm
end Go.Proofs.YtaeecpjhfmcliaaGreatDoor
/- The log: how the reference's store lies in memory. No condition but those stated. -/
namespace Go.Proofs.YtaeecpjhfmcliaaGreatDoor
open Go.Sh Go.RowKit Tryz
variable {w0 w w' : World} {X : Nat -> Prop}
structure RL where
 S:Nat
 t:HT
 cm:SV
 ch:List HT
 op:SV
 oh:List HT
def refC(R:RL):Array Value:=#[.int .i64 R.t.page,slV R.t.f,slV R.t.r,slV R.cm,slV R.op]
def RL.own(R:RL)(b:Nat):Prop:=b=R.S∨b ∈ zQe R.cm∨b ∈ zQe R.op
abbrev RL.ptr(R:RL):Value:=.pointer (some ⟨R.S,0,none⟩)
def xYW(w:World)(h:HT)(t:Tbl):Prop:=h.page=t.page/\zXz w t h.f h.r
structure RKp(w:World)(R:RL)(σ:Sto):Prop where
 t:xYW w R.t σ.t
 ch:∀(i:Nat) h t,R.ch[i]?=some h->σ.done[i]?=some t->xYW w h t
 oh:∀(i:Nat) h t,R.oh[i]?=some h->σ.lev[i]?=some t->xYW w h t
structure zQR(X:Nat->Prop)(w:World)(R:RL)(σ:Sto):Prop where
 st:w.heap[R.S]?=some (.cells (refC R) 115)
 cm:zQl w 35 3 R.cm (R.ch.flatMap zV7)
 op:zQl w 35 3 R.op (R.oh.flatMap zV7)
 cln:R.ch.length=σ.done.length
 oln:R.oh.length=σ.lev.length
 dj:∀b ∈ zQe R.cm,b ∉ zQe R.op
 xl:∀b,X b->b<w.heap.size
 kp:∀w2,Fr (λb=>R.own b∨X b) w w2->RKp w2 R σ
variable {R R' : RL} {σ σ' : Sto}
theorem zQR.kp0(h:zQR X w R σ):RKp w R σ:=h.kp w (Fr.refl _ _)
theorem zQR.own_lt(h:zQR X w R σ){b:Nat}(hb:R.own b):b<w.heap.size:=by
 rcases hb with rfl|hb|hb
 ·exact zQx h.st
 ·exact h.cm.lt b hb
 ·exact h.op.lt b hb
theorem zQR.S_lt(h:zQR X w R σ):R.S<w.heap.size:=h.own_lt (.inl rfl)
theorem zQR.fr{B:Nat->Prop}(h:zQR X w R σ)(hf:Fr B w w')(hn:∀b,R.own b->¬B b)(hx:∀b,B b->b<w.heap.size->X b):zQR X w' R σ where
 st:=hf.blk h.st (hn _ (.inl rfl))
 cm:=h.cm.fr hf λb hb=>hn b (.inr (.inl hb))
 op:=h.op.fr hf λb hb=>hn b (.inr (.inr hb))
 cln:=h.cln
 oln:=h.oln
 dj:=h.dj
 xl:=λb hb=>Nat.lt_of_lt_of_le (h.xl b hb) hf.size
 kp:=λw2 h2=>h.kp w2 ((hf.mono λb hb hlt=>.inr (hx b hb hlt)).trans h2 λb hb _=>hb)
theorem zQR.pu(h:zQR X w R σ)(hp:Pu w w'):zQR X w' R σ:=h.fr (Fr.pu hp:Fr (λ_=>False) w w') (λ_ _ h=>h) (λ_ h=>h.elim)
theorem zQR.cell(h:zQR X w R σ)(o:Nat):w.cell? ((⟨R.S,0,none⟩:Addr).add o)=(refC R)[o]?:=by rw[zQr,Nat.zero_add];exact zQF h.st o
theorem zQR.cell0(h:zQR X w R σ):w.cell? (⟨R.S,0,none⟩:Addr)=some (.int .i64 R.t.page):=zQF h.st 0
structure zXs(w w':World)(R R':RL):Prop where
 fr:Fr R.own w w'
 own:∀b,R'.own b->R.own b∨w.heap.size<=b
 ptr:R'.S=R.S
theorem zXs.refl(w:World)(R:RL):zXs w w R R:=⟨Fr.refl _ _,λ_ h=>.inl h,rfl⟩
theorem zXs.pu(hp:Pu w w')(R:RL):zXs w w' R R:=⟨Fr.pu hp,λ_ h=>.inl h,rfl⟩
theorem zXs.trans{w'':World}{R'':RL}(h:zXs w w' R R')(k:zXs w' w'' R' R''):zXs w w'' R R'':=by
 refine⟨h.fr.trans k.fr λb hb hlt=>(h.own b hb).resolve_right (by omega),λb hb=>?_,k.ptr.trans h.ptr⟩
 rcases k.own b hb with h1|h1
 ·exact h.own b h1
 ·exact .inr (Nat.le_trans h.fr.size h1)
theorem zXs.keep {Q:World->Prop} (h:zXs w w' R R') (hq:∀w2,Fr (λb=>R.own b∨X b) w w2->Q w2) (hxl:∀b,X b->b<w.heap.size):∀w2,Fr (λb=>R'.own b∨X b) w' w2->Q w2:=λw2 h2=>
 hq w2 ((h.fr.mono λb hb _=>.inl hb).trans h2 λb hb hlt=>by
  rcases hb with hb|hb
  ·exact .inl ((h.own b hb).resolve_right (by omega))
  ·exact .inr hb)
def zJB(X:Nat->Prop)(w:World)(R:RL)(v:Value)(σ':Sto):Rt:=λe w'=>e=.returned v/\∃R',zQR X w' R' σ'/\zXs w w' R R'
theorem zJn.keepR{t:Tbl}{f r:SV}(ho:zJn w0 w t f r)(hv:zQh t=0)(hro:∀b,R.own b->b<w0.heap.size)(hx:∀b,X b->b<w0.heap.size):∀w2,Fr (λb=>R.own b∨X b) w w2->zXz w2 t f r:=λw2 h2=>by
 have nb:∀k,w0.heap.size<=k->¬(R.own k∨X k):=λk hk e=>e.elim (λe=>by have:=hro k e;omega) (λe=>by have:=hx k e;omega)
 refine zJn.rd (w0:=w0) ⟨ho.fs.fr h2 λk hk=>nb k (ho.fs.2 k hk),?_⟩ (zX8 hv)
 obtain⟨qs,k1,k2,k3,k4⟩:=ho.rs
 exact⟨qs,k1.fr h2 λk hk=>nb k (k2 k hk),k2,k3,λi r x hr hx=>⟨(k4 i r x hr hx).1,(k4 i r x hr hx).2.fr h2 λk hk=>nb k ((k4 i r x hr hx).2.2 k hk)⟩⟩
theorem zQR.pushC (h:zQR X w R σ) {q:HT} {t:Tbl} (hp:q.page=t.page) (hq:∀w2,Fr (λb=>R.own b∨X b) w w2->zXz w2 t q.f q.r) {r:Nat} (hr:w.heap[r]?=some (.cells (zV7 q).toArray 35)) (hn:σ.done.length<=1000000)
  {K:World->Prop} (hK:∀w' R',zQR X w' R' { σ with done:=σ.done ++ [t] }->zXs w w' R R'->K w') :
  ∃s:SV,∃w1:World,(Builtin.append_ #[106,106] 106 #[slV R.cm,.slice (some ⟨r,0,none⟩) 1 1]).run prog w=.ok (slV s) w1/\st1 ((⟨R.S,0,none⟩:Addr).add 3) (slV s) w1 K:=by
 have hl:=h.cm.len zQv (by decide)
 have hcl:=h.cln
 obtain⟨s,w1,hra,hrow,dY,hblk,hsl⟩:=zQy (P:=prog) (ty:=106) xJt vi35 rfl (by decide) h.cm (A:=some ⟨r,0,none⟩) (m:=1) (c:=1) (news:=zV7 q) rfl (λj u hu=>⟨_,rfl,by rw[cl hr];simpa using hu⟩) (λu hu=>by simp[zV7]at hu;rcases hu with rfl|rfl|rfl <;> rfl) (by show(R.cm.len+1) * (56+1)<=_;omega)
 refine⟨s,w1,hra,?_⟩
 have hnS:R.S ∉ zQe R.cm:=h.cm.other h.st (by decide)
 have rQ:=dY.blk h.st hnS
 rw[zQr,Nat.zero_add]
 refine zQt rQ (by show 3<5;omega) λw2 mV aN=>?_
 have fZ:Fr (·=R.S) w1 w2:=by rw[mV];exact Fr.cell w1 _ _ _
 have hf:Fr (λb=>b=R.S∨b ∈ zQe R.cm) w w2:=(dY.mono λb hb _=>.inr hb).trans fZ λb hb _=>.inl hb
 have hsn:∀b ∈ zQe s,b ≠ R.S:=λb hb e=>by
  rcases hblk b hb with h1|h1
  ·exact hnS (by rw[←e];exact h1)
  ·have:=zQx h.st;omega
 have oB:zQl w2 35 3 s ((R.ch ++ [q]).flatMap zV7):=by
  rw[List.flatMap_append,List.flatMap_singleton]
  exact hrow.fr fZ λb hb e=>hsn b hb e
 have hleft:zXs w w2 R { R with cm:=s,ch:=R.ch ++ [q] }:=by
  refine⟨hf.mono λb hb _=>hb.elim .inl λhb=>.inr (.inl hb),λb hb=>?_,rfl⟩
  rcases hb with hb|hb|hb
  ·exact .inl (.inl hb)
  ·rcases hblk b hb with h1|h1
   ·exact .inl (.inr (.inl h1))
   ·exact .inr h1
  ·exact .inl (.inr (.inr hb))
 refine hK w2 { R with cm:=s,ch:=R.ch ++ [q] } ⟨aN,oB,h.op.fr hf λb hb hx=>?_,by simp[hcl],h.oln,λb hb hx=>?_,λb hb=>Nat.lt_of_lt_of_le (h.xl b hb) hf.size,λw3 h3=>?_⟩ hleft
 ·rcases hx with rfl|hx
  ·exact h.op.other h.st (by decide) hb
  ·exact h.dj b hx hb
 ·rcases hblk b hb with h1|h1
  ·exact h.dj b h1 hx
  ·have hx:b ∈ zQe R.op:=hx
   have:=h.op.lt b hx;omega
 ·obtain⟨a1,a2,a3⟩:=hleft.keep (X:=X) h.kp h.xl w3 h3
  refine⟨a1,λi x u hx hu=>?_,a3⟩
  have hx:(R.ch ++ [q])[i]?=some x:=hx
  have hu:(σ.done ++ [t])[i]?=some u:=hu
  rcases Nat.lt_trichotomy i σ.done.length with hi|hi|hi
  ·rw[List.getElem?_append_left (by omega)]at hx hu
   exact a2 i x u hx hu
  ·rw[List.getElem?_append_right (by omega),hcl,hi,Nat.sub_self]at hx
   rw[List.getElem?_append_right (by omega),hi,Nat.sub_self]at hu
   simp at hx hu;subst hx hu
   exact⟨hp,hleft.keep (X:=X) hq h.xl w3 h3⟩
  ·rw[List.getElem?_eq_none (by rw[List.length_append,List.length_singleton];omega)]at hu;cases hu
theorem zQR.pushO (h:zQR X w R σ) {q:HT} {t:Tbl} (hp:q.page=t.page) (hq:∀w2,Fr (λb=>R.own b∨X b) w w2->zXz w2 t q.f q.r) {r:Nat} (hr:w.heap[r]?=some (.cells (zV7 q).toArray 35)) (hn:σ.lev.length<=1000000)
  {K:World->Prop} (hK:∀w' R',zQR X w' R' { σ with lev:=σ.lev ++ [t] }->zXs w w' R R'->K w') :
  ∃s:SV,∃w1:World,(Builtin.append_ #[106,106] 106 #[slV R.op,.slice (some ⟨r,0,none⟩) 1 1]).run prog w=.ok (slV s) w1/\st1 ((⟨R.S,0,none⟩:Addr).add 4) (slV s) w1 K:=by
 have hl:=h.op.len zQv (by decide)
 have hcl:=h.oln
 obtain⟨s,w1,hra,hrow,dY,hblk,hsl⟩:=zQy (P:=prog) (ty:=106) xJt vi35 rfl (by decide) h.op (A:=some ⟨r,0,none⟩) (m:=1) (c:=1) (news:=zV7 q) rfl (λj u hu=>⟨_,rfl,by rw[cl hr];simpa using hu⟩) (λu hu=>by simp[zV7]at hu;rcases hu with rfl|rfl|rfl <;> rfl) (by show(R.op.len+1) * (56+1)<=_;omega)
 refine⟨s,w1,hra,?_⟩
 have hnS:R.S ∉ zQe R.op:=h.op.other h.st (by decide)
 have rQ:=dY.blk h.st hnS
 rw[zQr,Nat.zero_add]
 refine zQt rQ (by show 4<5;omega) λw2 mV aN=>?_
 have fZ:Fr (·=R.S) w1 w2:=by rw[mV];exact Fr.cell w1 _ _ _
 have hf:Fr (λb=>b=R.S∨b ∈ zQe R.op) w w2:=(dY.mono λb hb _=>.inr hb).trans fZ λb hb _=>.inl hb
 have hsn:∀b ∈ zQe s,b ≠ R.S:=λb hb e=>by
  rcases hblk b hb with h1|h1
  ·exact hnS (by rw[←e];exact h1)
  ·have:=zQx h.st;omega
 have oB:zQl w2 35 3 s ((R.oh ++ [q]).flatMap zV7):=by
  rw[List.flatMap_append,List.flatMap_singleton]
  exact hrow.fr fZ λb hb e=>hsn b hb e
 have hleft:zXs w w2 R { R with op:=s,oh:=R.oh ++ [q] }:=by
  refine⟨hf.mono λb hb _=>hb.elim .inl λhb=>.inr (.inr hb),λb hb=>?_,rfl⟩
  rcases hb with hb|hb|hb
  ·exact .inl (.inl hb)
  ·exact .inl (.inr (.inl hb))
  ·rcases hblk b hb with h1|h1
   ·exact .inl (.inr (.inr h1))
   ·exact .inr h1
 refine hK w2 { R with op:=s,oh:=R.oh ++ [q] } ⟨aN,h.cm.fr hf λb hb hx=>?_,oB,h.cln,by simp[hcl],λb hb hx=>?_,λb hb=>Nat.lt_of_lt_of_le (h.xl b hb) hf.size,λw3 h3=>?_⟩ hleft
 ·rcases hx with rfl|hx
  ·exact h.cm.other h.st (by decide) hb
  ·exact h.dj b hb hx
 ·rcases hblk b hx with h1|h1
  ·exact h.dj b hb h1
  ·have hb:b ∈ zQe R.cm:=hb
   have:=h.cm.lt b hb;omega
 ·obtain⟨a1,a2,a3⟩:=hleft.keep (X:=X) h.kp h.xl w3 h3
  refine⟨a1,a2,λi x u hx hu=>?_⟩
  have hx:(R.oh ++ [q])[i]?=some x:=hx
  have hu:(σ.lev ++ [t])[i]?=some u:=hu
  rcases Nat.lt_trichotomy i σ.lev.length with hi|hi|hi
  ·rw[List.getElem?_append_left (by omega)]at hx hu
   exact a3 i x u hx hu
  ·rw[List.getElem?_append_right (by omega),hcl,hi,Nat.sub_self]at hx
   rw[List.getElem?_append_right (by omega),hi,Nat.sub_self]at hu
   simp at hx hu;subst hx hu
   exact⟨hp,hleft.keep (X:=X) hq h.xl w3 h3⟩
  ·rw[List.getElem?_eq_none (by rw[List.length_append,List.length_singleton];omega)]at hu;cases hu
theorem zQR.reT (h:zQR X w R σ) (hf:Fr (·=R.S) w w') {q:HT} {t:Tbl} (hst:w'.heap[R.S]?=some (.cells (refC { R with t:=q }) 115)) (hq:∀w2,Fr (λb=>R.own b∨X b) w w2->xYW w2 q t):zQR X w' { R with t:=q } { σ with t:=t }:=by
 refine⟨hst,h.cm.fr hf λb hb e=>h.cm.other h.st (by decide) (by rw[←show b=R.S from e];exact hb),h.op.fr hf λb hb e=>h.op.other h.st (by decide) (by rw[←show b=R.S from e];exact hb),h.cln,h.oln,h.dj,λb hb=>Nat.lt_of_lt_of_le (h.xl b hb) hf.size,λw2 h2=>?_⟩
 have h3:Fr (λb=>R.own b∨X b) w w2:=(hf.mono λb hb _=>.inl (.inl hb)).trans h2 λb hb _=>hb
 exact⟨hq w2 h3,(h.kp w2 h3).ch,(h.kp w2 h3).oh⟩
theorem zQR.setT (h:zQR X w R σ) {q:HT} {t:Tbl} (hq:∀w2,Fr (λb=>R.own b∨X b) w w2->xYW w2 q t) {K:World->Prop} (hK:∀w',zQR X w' { R with t:=q } { σ with t:=t }->zXs w w' R { R with t:=q }->K w') :
  stA prog 35 (⟨R.S,0,none⟩:Addr) #[.int .i64 q.page,slV q.f,slV q.r] w K:=by
 refine⟨zKS.symm,rfl,?_⟩
 show Sh.st1 ((⟨R.S,0,none⟩:Addr).add 0) _ w _
 rw[zQr]
 refine zQt h.st (by show 0+0<5;omega) λwa hwa hba=>?_
 show Sh.st1 ((⟨R.S,0,none⟩:Addr).add 1) _ wa _
 rw[zQr]
 refine zQt hba (by show 0+1<5;omega) λwb hwb hbb=>?_
 show Sh.st1 ((⟨R.S,0,none⟩:Addr).add 2) _ wb _
 rw[zQr]
 refine zQt hbb (by show 0+2<5;omega) λwc hwc hbc=>?_
 have hf:Fr (·=R.S) w wc:=by
  rw[hwc,hwb,hwa]
  exact((Fr.cell w _ _ _).trans (Fr.cell _ _ _ _) λ_ h _=>h).trans (Fr.cell _ _ _ _) λ_ h _=>h
 exact hK wc (h.reT hf hbc hq) ⟨hf.mono λb hb _=>.inl hb,λ_ h=>.inl h,rfl⟩
theorem zQR.popO (h:zQR X w R σ) {l0:List HT} {x:HT} {v0:List Tbl} {t:Tbl} (hoh:R.oh=l0 ++ [x]) (hlev:σ.lev=v0 ++ [t]) {K:World->Prop} (hK:∀w' R',zQR X w' R' { σ with lev:=v0 }->zXs w w' R R'->R'.t=R.t->K w') :
  st1 ((⟨R.S,0,none⟩:Addr).add 4) (.slice R.op.a (R.op.len - 1) R.op.cap) w K:=by
 have hl:=h.op.len zQv (by decide)
 have hll:R.oh.length=l0.length+1:=by rw[hoh];simp
 have hol:=h.oln
 have hlv:σ.lev.length=v0.length+1:=by rw[hlev];simp
 have ha:R.op.a ≠ none:=by
  obtain⟨_,hd|⟨g,cur,h3,_⟩⟩:=h.op
  ·rw[hd]at hl
   have hl:0=R.oh.length:=hl
   omega
  ·rw[h3];simp
 have hrow:zQl w 35 3 ⟨R.op.a,R.op.len - 1,R.op.cap⟩ (l0.flatMap zV7):=by
  have h1:=yZs h.op (n:=R.op.len - 1) (by omega) ha
  rw[hoh,List.flatMap_append,show R.op.len - 1=l0.length by omega]at h1
  have e:(l0.flatMap zV7).length=l0.length * 3:=zQ2 zQv l0
  rw[←e,List.take_left]at h1
  rw[show R.op.len - 1=l0.length by omega]
  exact h1
 rw[zQr,Nat.zero_add]
 refine zQt h.st (by show 4<5;omega) λw2 mV aN=>?_
 have hf:Fr (·=R.S) w w2:=by rw[mV];exact Fr.cell w _ _ _
 have hleft:zXs w w2 R { R with op:=⟨R.op.a,R.op.len - 1,R.op.cap⟩,oh:=l0 }:=⟨hf.mono λb hb _=>.inl hb,λb hb=>.inl hb,rfl⟩
 refine hK w2 { R with op:=⟨R.op.a,R.op.len - 1,R.op.cap⟩,oh:=l0 } ⟨aN,h.cm.fr hf λb hb e=>h.cm.other h.st (by decide) (by rw[←show b=R.S from e];exact hb),hrow.fr hf λb hb e=>hrow.other h.st (by decide) (by rw[←show b=R.S from e];exact hb),h.cln,by show l0.length=v0.length;omega,h.dj,λb hb=>Nat.lt_of_lt_of_le (h.xl b hb) hf.size,λw3 h3=>?_⟩ hleft rfl
 obtain⟨a1,a2,a3⟩:=hleft.keep (X:=X) h.kp h.xl w3 h3
 refine⟨a1,a2,λi y u hy hu=>a3 i y u ?_ ?_⟩
 ·have hy:l0[i]?=some y:=hy
  rw[hoh,List.getElem?_append_left (List.getElem?_eq_some_iff.1 hy).1];exact hy
 ·have hu:v0[i]?=some u:=hu
  rw[hlev,List.getElem?_append_left (List.getElem?_eq_some_iff.1 hu).1];exact hu
theorem zQR.lastC (h:zQR X w R σ) (hne:σ.done ≠ []) (hn:σ.done.length<=1000000):∃x a,R.cm.a=some a/\R.cm.len=σ.done.length/\0<R.cm.len/\IntKind.i64.wrap (((R.cm.len:Nat):Int) - 1)=((R.cm.len - 1:Nat):Int)/\
  w.cell? ((a.add ((R.cm.len - 1) * 3)).add 0)=some (.int .i64 x.page)/\w.cell? ((a.add ((R.cm.len - 1) * 3)).add 1)=some (slV x.f)/\w.cell? ((a.add ((R.cm.len - 1) * 3)).add 2)=some (slV x.r)/\xYW w x σ.last:=by
 have hl:=h.cm.len zQv (by decide)
 have hcl:=h.cln
 have hpos:0<σ.done.length:=List.length_pos_iff.2 hne
 obtain⟨x,hx⟩:=zQM (l:=R.ch) (k:=R.cm.len - 1) (by omega)
 obtain⟨a,ha,hk,c0⟩:=h.cm.elem zQv hx (o:=0) rfl
 obtain⟨a',ha',_,c1⟩:=h.cm.elem zQv hx (o:=1) rfl
 obtain⟨a'',ha'',_,c2⟩:=h.cm.elem zQv hx (o:=2) rfl
 rw[ha]at ha' ha'';cases ha';cases ha''
 refine⟨x,a,ha,by omega,by omega,by rw[zQa (by omega) (by omega)];omega,c0,c1,c2,h.kp0.ch _ x _ hx ?_⟩
 have h1:=zZ3 hne
 rw[List.getLast?_eq_getElem?]at h1
 rw[show R.cm.len - 1=σ.done.length - 1 by omega];exact h1
end Go.Proofs.YtaeecpjhfmcliaaGreatDoor
/- The log: what the reference's store does, without its records' methods. No condition but those stated. -/
namespace Go.Proofs.YtaeecpjhfmcliaaGreatDoor
open Go.Sh Go.RowKit Tryz
variable {w0 w w' : World} {X : Nat -> Prop} {R R' : RL} {σ σ' : Sto}
theorem zXs.toPtr(h:zXs w w' R R'):R.ptr=R'.ptr:=by unfold RL.ptr;rw[h.ptr]
def NewRf(X:Nat->Prop)(w w':World)(p:Option Addr)(σ:Sto):Prop:=∃R:RL,p=some ⟨R.S,0,none⟩/\zQR X w' R σ/\∀b,R.own b->w.heap.size<=b
theorem xWJ{t:Tbl}{f r:SV}(h:zXz w t f r)(hX:∀b,X b->b<w.heap.size) :
  Calls prog 42 #[zWR t f r] w λe w'=>Pu w w'/\((zQh t ≠ 0/\e=.returned (.tuple #[.pointer none,.int .i64 (zQh t)]))∨zQh t=0/\∃p,e=.returned (.tuple #[.pointer p,.int .i64 0])/\NewRf X w w' p (Sto.new t)):=by
 refine xZf _ _ _ w _ (alB λw1 aq ay=>⟨_,cl ay 0,f,cl ay 1,r,cl ay 2,(yJ6 (h.pu aq)).mono ?_⟩)
 rintro e w2 ⟨rfl,ar⟩
 have aF:=aq.trans ar
 have cM:=ar.blk ay
 refine⟨_,rfl,Br.of (λc=>⟨aF,.inl ⟨zQ1 c,rfl⟩⟩) (λc=>zQc λw4 aK _=>?_)⟩
 have hv:zQh t=0:=zQs c
 have cp:=aF.trans aK
 have gS:=aK.blk cM
 refine⟨λu=>Pu w4 u,Pu.refl _,_,λu hu=>cl (hu.blk gS) 0,f,λu hu=>cl (hu.blk gS) 1,r,λu hu=>cl (hu.blk gS) 2,_,λu hu=>cl (hu.blk gS) 0,f,λu hu=>cl (hu.blk gS) 1,r,λu hu=>cl (hu.blk gS) 2,(zYO (h.pu cp) hv).mono ?_⟩
 rintro e w5 ⟨f1,r1,rfl,hO1,aU⟩
 refine⟨_,f1,r1,rfl,aU,(zYO (h.pu (cp.trans aU)) hv).mono ?_⟩
 rintro e w6 ⟨f2,r2,rfl,hO2,bC⟩
 refine⟨_,f2,r2,rfl,alB λw7 cH j0=>alB λw8 cj j1=>?_⟩
 have o8:=((aU.trans bC).trans cH).trans cj
 have dO:=cp.trans o8
 have z4:=cp.size
 have z5:=aU.size
 have z6:=bC.size
 have lt6:w6.heap.size<w7.heap.size:=zQx j0
 have lt7:w7.heap.size<w8.heap.size:=zQx j1
 have hO1':zJn w4 w8 t f1 r1:=((hO1.pu bC).pu cH).pu cj
 have hO2':zJn w5 w8 t f2 r2:=(hO2.pu cH).pu cj
 obtain⟨R,hR⟩:∃R:RL,R=⟨w7.heap.size,⟨t.page,f1,r1,[]⟩,⟨some ⟨w6.heap.size,0,none⟩,1,1⟩,[⟨t.page,f2,r2,[]⟩],⟨none,0,0⟩,[]⟩:=⟨_,rfl⟩
 have own:∀b,R.own b->b=w7.heap.size∨b=w6.heap.size:=λb hb=>by
  rw[hR]at hb
  rcases hb with hb|hb|hb
  ·exact .inl hb
  ·simp[zQe]at hb;exact .inr hb
  ·simp[zQe]at hb
 have keep:∀{wz:World} {f r:SV},w4.heap.size<=wz.heap.size->wz.heap.size<=w6.heap.size->zJn wz w8 t f r->(∀b,b=w7.heap.size∨b=w6.heap.size->¬(b ∈ zQe f))->True:=λ_ _ _ _=>trivial
 have kp:∀{wz:World} {f r:SV},w.heap.size<=wz.heap.size->zJn wz w6 t f r->∀w3,Fr (λb=>R.own b∨X b) w8 w3->zXz w3 t f r:=λ{wz f r} hz ho w3 h3=>by
  have hf:Fr (λb=>X b∨w6.heap.size<=b) w6 w3:=((Fr.pu (cH.trans cj):Fr (λb=>X b∨w6.heap.size<=b) w6 w8)).trans h3 λb hb _=>hb.elim (λhb=>by rcases own b hb with rfl|rfl <;> exact .inr (by omega)) .inl
  have nb:∀k,wz.heap.size<=k->k<w6.heap.size->¬(X k∨w6.heap.size<=k):=λk hk hlt e=>e.elim (λe=>by have:=hX k e;omega) (λe=>by omega)
  refine zJn.rd (w0:=wz) ⟨ho.fs.fr hf λk hk=>nb k (ho.fs.2 k hk) (ho.fs.1.lt k hk),?_⟩ (zX8 hv)
  obtain⟨qs,k1,k2,k3,k4⟩:=ho.rs
  exact⟨qs,k1.fr hf λk hk=>nb k (k2 k hk) (k1.lt k hk),k2,k3,λi r x hr hx=>⟨(k4 i r x hr hx).1,(k4 i r x hr hx).2.fr hf λk hk=>nb k ((k4 i r x hr hx).2.2 k hk) ((k4 i r x hr hx).2.1.lt k hk)⟩⟩
 refine⟨dO,.inr ⟨hv,_,rfl,R,by rw[hR],⟨?_,?_,?_,?_,?_,?_,λb hb=>Nat.lt_of_lt_of_le (hX b hb) dO.size,λw3 h3=>?_⟩,λb hb=>by rcases own b hb with rfl|rfl <;> omega⟩⟩
 ·rw[hR];exact j1
 ·rw[hR];exact⟨rfl,.inr ⟨_,_,rfl,cj.blk j0,Nat.le_refl _,by show 1<=maxLen;unfold maxLen;omega,rfl,rfl⟩⟩
 ·rw[hR];exact zQl.nil _ _ _
 ·rw[hR];rfl
 ·rw[hR];rfl
 ·rw[hR];intro b hb;simp[zQe]
 ·have k1:=kp (by omega) (hO1.pu bC) w3 h3
  have k2:=kp (by omega) hO2 w3 h3
  rw[hR]
  refine⟨⟨rfl,k1⟩,λi x u hx hu=>?_,λi x u hx hu=>by simp at hx⟩
  rcases i with _|i
  ·simp[Sto.new]at hx hu;subst hx hu;exact⟨rfl,k2⟩
  ·simp at hx
theorem yZT (h:zQR X w R σ) (hv:zQh σ.t=0) (hne:σ.done ≠ []) (hn:σ.done.length<=1000000):Calls prog 99 #[R.ptr] w (zJB X w R (.tuple #[]) (zZv σ)):=by
 have hol:=h.op.len zQv (by decide)
 have holn:=h.oln
 refine xQb _ w _ (zQc λw1 aq _=>?_)
 have h1:=h.pu aq
 refine⟨R.op,h1.cell 4,Br.of (λc=>?_) (λc=>?_)⟩
 ·have c:R.op.len=0:=by simpa using c
  have hlev:σ.lev=[]:=List.eq_nil_of_length_eq_zero (by omega)
  obtain⟨x,a,ha,hcl,hpos,hwr,c0,c1,c2,hK⟩:=h1.lastC hne hn
  refine⟨R.t.page,h1.cell 0,R.t.f,h1.cell 1,R.t.r,h1.cell 2,R.cm,h1.cell 3,R.cm,h1.cell 3,a,ha,?_⟩
  rw[hwr,zXh]
  refine⟨by omega,by omega,x.page,c0,x.f,c1,x.r,c2,?_⟩
  rw[hK.1,h1.kp0.t.1]
  refine(yXd h1.kp0.t.2 hK.2).mono ?_
  rintro e w7 ⟨rfl,cH⟩
  refine⟨_,rfl,Br.of (λc1=>?_) (λc1=>?_)⟩
  ·have c1:σ.t ≠ σ.last:=by simpa using c1
   have eC:zZv σ={ σ with done:=σ.done ++ [σ.t] }:=by unfold zZv;rw[if_pos ⟨hlev,c1⟩]
   refine zQc λw8 cj _=>?_
   have dO:=(aq.trans cH).trans cj
   have h8:=h.pu dO
   refine⟨λu=>Pu w8 u,Pu.refl _,R.cm,λu hu=>(h8.pu hu).cell 3,R.t.page,λu hu=>(h8.pu hu).cell 0,R.t.f,λu hu=>(h8.pu hu).cell 1,R.t.r,λu hu=>(h8.pu hu).cell 2,?_⟩
   rw[h8.kp0.t.1]
   refine(zYO h8.kp0.t.2 hv).mono ?_
   rintro e aR ⟨f,r,rfl,hO,fg⟩
   refine⟨_,f,r,rfl,fg,alB λaM dN kU=>⟨fg.trans dN,?_⟩⟩
   have vY:=fg.trans dN
   refine(h8.pu vY).pushC (q:=⟨σ.t.page,f,r,[]⟩) (t:=σ.t) rfl ((hO.pu dN).keepR hv (λb hb=>h8.own_lt hb) h8.xl) kU hn λw2 R2 h2 pW=>?_
   rw[eC]
   exact⟨rfl,R2,h2,(zXs.pu (dO.trans vY) R).trans pW⟩
  ·have c1:σ.t=σ.last:=by simpa using c1
   have eC:zZv σ=σ:=by unfold zZv;rw[if_neg (λe=>e.2 c1)]
   rw[eC]
   exact⟨rfl,R,h.pu (aq.trans cH),zXs.pu (aq.trans cH) R⟩
 ·have c:¬R.op.len=0:=by simpa using c
  have eC:zZv σ=σ:=by unfold zZv;rw[if_neg (λe=>by rw[e.1]at holn;simp at holn;rw[holn]at hol;simp at hol;exact c hol)]
  rw[eC]
  exact⟨rfl,R,h1,zXs.pu aq R⟩
theorem xJ2(h:zQR X w R σ)(hv:zQh σ.t=0):Calls prog 59 #[R.ptr] w (zJB X w R (.int .i64 (zJT σ)) (zJa σ)):=by
 have hol:=h.op.len zQv (by decide)
 have holn:=h.oln
 refine yYJ _ w _ ⟨R.op,h.cell 4,Br.of (λc=>?_) (λc=>?_)⟩
 ·have c:8<=σ.lev.length:=by have:=zQk c;omega
  have e1:zJT σ=3:=by unfold zJT;rw[if_pos c]
  have e2:zJa σ=σ:=by unfold zJa;rw[if_pos c]
  rw[e1,e2]
  exact⟨rfl,R,h,zXs.refl w R⟩
 ·have c:¬8<=σ.lev.length:=by have:=zQd c;omega
  have e1:zJT σ=0:=by unfold zJT;rw[if_neg c]
  have e2:zJa σ={ σ with lev:=σ.lev ++ [σ.t] }:=by unfold zJa;rw[if_neg c]
  rw[e1,e2]
  refine zQc λw3 ax _=>?_
  have h3:=h.pu ax
  refine⟨λu=>Pu w3 u,Pu.refl _,R.op,λu hu=>(h3.pu hu).cell 4,R.t.page,λu hu=>(h3.pu hu).cell 0,R.t.f,λu hu=>(h3.pu hu).cell 1,R.t.r,λu hu=>(h3.pu hu).cell 2,?_⟩
  rw[h3.kp0.t.1]
  refine(zYO h3.kp0.t.2 hv).mono ?_
  rintro e w6 ⟨f,r,rfl,hO,bC⟩
  refine⟨_,f,r,rfl,bC,alB λw7 cH j0=>⟨bC.trans cH,?_⟩⟩
  have hp37:=bC.trans cH
  refine(h3.pu hp37).pushO (q:=⟨σ.t.page,f,r,[]⟩) (t:=σ.t) rfl ((hO.pu cH).keepR hv (λb hb=>h3.own_lt hb) h3.xl) j0 (by omega) λw2 R2 h2 pW=>?_
  exact⟨rfl,R2,h2,(zXs.pu (ax.trans hp37) R).trans pW⟩
theorem zYk (h:zQR X w R σ) (hn:σ.lev.length<=1000000) (hne:σ.lev ≠ []):∃l0 x v0 t a,R.oh=l0 ++ [x]/\σ.lev=v0 ++ [t]/\R.op.a=some a/\0<R.op.len/\R.op.len<=R.op.cap/\IntKind.i64.wrap (((R.op.len:Nat):Int) - 1)=((R.op.len - 1:Nat):Int)/\
  w.cell? ((a.add ((R.op.len - 1) * 3)).add 0)=some (.int .i64 x.page)/\w.cell? ((a.add ((R.op.len - 1) * 3)).add 1)=some (slV x.f)/\w.cell? ((a.add ((R.op.len - 1) * 3)).add 2)=some (slV x.r)/\(∀w2,Fr (λb=>R.own b∨X b) w w2->xYW w2 x t)/\
  (.slice (if R.op.cap=0 then R.op.a else R.op.a.map (λx=>x.add (0 * 3))) (R.op.len - 1 - 0) (R.op.cap - 0):Value)=.slice R.op.a (R.op.len - 1) R.op.cap:=by
 have hol:=h.op.len zQv (by decide)
 have holn:=h.oln
 have hpos:0<σ.lev.length:=List.length_pos_iff.2 hne
 obtain⟨l0,x,hoh⟩:=yX7 (l:=R.oh) (λe=>by rw[e]at holn;simp at holn;omega)
 obtain⟨v0,t,hlev⟩:=yX7 hne
 have v6:R.oh.length=l0.length+1:=by rw[hoh];simp
 have mT:σ.lev.length=v0.length+1:=by rw[hlev];simp
 have hx:R.oh[R.op.len - 1]?=some x:=by rw[hoh,List.getElem?_append_right (by omega),show R.op.len - 1 - l0.length=0 by omega];rfl
 have ht:σ.lev[R.op.len - 1]?=some t:=by rw[hlev,List.getElem?_append_right (by omega),show R.op.len - 1 - v0.length=0 by omega];rfl
 obtain⟨a,ha,hk,c0⟩:=h.op.elem zQv hx (o:=0) rfl
 obtain⟨a',ha',_,c1⟩:=h.op.elem zQv hx (o:=1) rfl
 obtain⟨a'',ha'',_,c2⟩:=h.op.elem zQv hx (o:=2) rfl
 rw[ha]at ha' ha'';cases ha';cases ha''
 have hcap:=h.op.le_cap.1
 refine⟨l0,x,v0,t,a,hoh,hlev,ha,by omega,hcap,by rw[zQa (by omega) (by omega)];omega,c0,c1,c2,λw2 h2=>(h.kp w2 h2).oh _ x t hx ht,?_⟩
 have esl:(if R.op.cap=0 then R.op.a else R.op.a.map (λx=>x.add (0 * 3)))=R.op.a:=by rw[if_neg (by omega),ha];show some (a.add (0 * 3))=_;rw[Nat.zero_mul,yYd]
 rw[esl,Nat.sub_zero,Nat.sub_zero]
theorem rend_c (h:zQR X w R σ) (hv:zQh σ.t=0) (hne:σ.done ≠ []) (hn:σ.done.length<=1000000) (hl:σ.lev.length<=1000000):Calls prog 60 #[R.ptr] w (zJB X w R (.int .i64 (zJf σ)) (xV3 σ)):=by
 have hol:=h.op.len zQv (by decide)
 have holn:=h.oln
 refine xZi _ w _ ⟨R.op,h.cell 4,Br.of (λc=>?_) (λc=>?_)⟩
 ·have c:R.op.len=0:=by simpa using c
  have hlev:σ.lev=[]:=List.eq_nil_of_length_eq_zero (by omega)
  have e1:zJf σ=9:=by unfold zJf;rw[if_pos hlev]
  have e2:xV3 σ=σ:=by unfold xV3;rw[if_pos hlev]
  rw[e1,e2]
  exact⟨rfl,R,h,zXs.refl w R⟩
 ·have c:¬R.op.len=0:=by simpa using c
  have hlne:σ.lev ≠ []:=λe=>by rw[e]at holn;simp at holn;rw[holn]at hol;simp at hol;exact c hol
  have e1:zJf σ=0:=by unfold zJf;rw[if_neg hlne]
  refine zQc λw3 ax _=>?_
  have h3:=h.pu ax
  obtain⟨l0,x,v0,t,a,hoh,hlev,ha,hpos,hcap,hwr,c0,c1,c2,hK,esl⟩:=zYk h3 hl hlne
  have e2:xV3 σ=zZv { σ with lev:=v0 }:=by unfold xV3;rw[if_neg hlne,hlev,List.dropLast_concat]
  refine⟨R.op,h3.cell 4,R.op,h3.cell 4,?_⟩
  rw[hwr,zXh,esl]
  refine⟨by omega,by omega,by omega,?_⟩
  rw[zZn]
  refine h3.popO hoh hlev λw7 R7 h7 hl7 _=>?_
  rw[show(Value.pointer (some ⟨R.S,0,none⟩))=R7.ptr from hl7.toPtr]
  refine(yZT h7 hv hne hn).mono ?_
  rintro e w8 ⟨rfl,R8,h8,td⟩
  refine⟨rfl,?_⟩
  rw[e1,e2]
  exact⟨rfl,R8,h8,((zXs.pu ax R).trans hl7).trans td⟩
theorem xYC(h:zQR X w R σ)(hl:σ.lev.length<=1000000):Calls prog 61 #[R.ptr] w (zJB X w R (.int .i64 (zJf σ)) (zVj σ)):=by
 have hol:=h.op.len zQv (by decide)
 have holn:=h.oln
 refine xXk _ w _ ⟨R.op,h.cell 4,Br.of (λc=>?_) (λc=>?_)⟩
 ·have c:R.op.len=0:=by simpa using c
  have hlev:σ.lev=[]:=List.eq_nil_of_length_eq_zero (by omega)
  have e1:zJf σ=9:=by unfold zJf;rw[if_pos hlev]
  have e2:zVj σ=σ:=by unfold zVj;rw[if_pos hlev]
  rw[e1,e2]
  exact⟨rfl,R,h,zXs.refl w R⟩
 ·have c:¬R.op.len=0:=by simpa using c
  have hlne:σ.lev ≠ []:=λe=>by rw[e]at holn;simp at holn;rw[holn]at hol;simp at hol;exact c hol
  have e1:zJf σ=0:=by unfold zJf;rw[if_neg hlne]
  refine zQc λw3 ax _=>?_
  have h3:=h.pu ax
  obtain⟨l0,x,v0,t,a,hoh,hlev,ha,hpos,hcap,hwr,c0,c1,c2,hK,esl⟩:=zYk h3 hl hlne
  have e2:zVj σ={ σ with t:=t,lev:=v0 }:=by unfold zVj;rw[if_neg hlne,hlev,List.dropLast_concat,List.getLast?_concat];rfl
  refine⟨R.op,h3.cell 4,R.op,h3.cell 4,a,ha,?_⟩
  rw[hwr,zXh]
  refine⟨by omega,by omega,x.page,c0,x.f,c1,x.r,c2,?_⟩
  rw[zZn]
  refine h3.setT hK λw8 h8 td=>zQc λw9 cI _=>?_
  have h9:=h8.pu cI
  refine⟨R.op,h9.cell 4,R.op,h9.cell 4,?_⟩
  rw[hwr,zXh,esl]
  refine⟨by omega,by omega,by omega,?_⟩
  rw[zZn]
  refine h9.popO hoh hlev λw7 R7 h7 hl7 _=>?_
  rw[e1,e2]
  exact⟨rfl,R7,h7,(((zXs.pu ax R).trans td).trans (zXs.pu cI _)).trans hl7⟩
theorem xZ4(h:zQR X w R σ):Calls prog 68 #[R.ptr] w λe w'=>e=.returned (.int .i64 (zVE σ))/\Pu w w':=by
 have hol:=h.op.len zQv (by decide)
 have holn:=h.oln
 refine xQG _ w _ ⟨R.op,h.cell 4,Br.of (λc=>⟨?_,Pu.refl _⟩) (λc=>⟨?_,Pu.refl _⟩)⟩
 ·unfold zVE;rw[if_neg (λe=>by have:=zQk c;rw[e]at holn;simp at holn;rw[holn]at hol;simp at hol;omega)]
 ·unfold zVE;rw[if_pos (List.eq_nil_of_length_eq_zero (by have:=zQd c;omega))]
theorem yXa(h:zQR X w R σ)(k:Int):Calls prog 101 #[R.ptr,.int .i64 k] w λe w'=>e=.returned (.bool (zXd σ k))/\w'=w:=by
 have hrl:=h.kp0.t.2.recs.len
 refine yVh _ _ w _ (Br.of (λc=>⟨R.t.r,h.cell 2,?_,rfl⟩) (λc=>⟨?_,rfl⟩))
 ·have c:=zQk c
  unfold zXd
  rw[hrl,decide_eq_true (show 1<=k by omega),Bool.true_and]
 ·have c:=zQd c
  unfold zXd
  rw[decide_eq_false (show ¬1<=k by omega),Bool.false_and]
end Go.Proofs.YtaeecpjhfmcliaaGreatDoor
