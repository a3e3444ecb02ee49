import Derived.Test.YtaeecpjhfmcliaaGreatDoorLgOwH
import Derived.Test.YtaeecpjhfmcliaaGreatDoorLgOwG
import Derived.Test.YtaeecpjhfmcliaaGreatDoorLgPrB
import Derived.Test.YtaeecpjhfmcliaaGreatDoorLgPrC
/- The log: what differs from the last committed table; the files behind some writes. No condition but those stated. -/
set_option maxRecDepth 100000
set_option linter.unusedVariables false
set_option linter.unusedSimpArgs false
noncomputable section
namespace Go.Proofs.YtaeecpjhfmcliaaGreatDoor
open Go.Sh Go.RowKit Tryz
variable {w0 w w' : World} {X : Nat -> Prop} {L L' : SL} {d d' : Dat} {mu : Int} {p : Int} {f : List Fld}
theorem zQH.lastD (h:zQH X w L d mu) (hne:d.σ.done ≠ []) (hn:d.σ.done.length<=1000000):∃(x:HT) (a:Addr),L.dn.a=some a/\(IntKind.i64.wrap (((L.dn.len:Nat):Int) - 1))=((d.σ.done.length - 1:Nat):Int)/\d.σ.done.length - 1<L.dn.len/\w.cell? ((a.add ((d.σ.done.length - 1) * 3)).add 0)=some (.int .i64 d.σ.last.page)/\
  w.cell? ((a.add ((d.σ.done.length - 1) * 3)).add 1)=some (slV x.f)/\w.cell? ((a.add ((d.σ.done.length - 1) * 3)).add 2)=some (slV x.r)/\zX2 w d.σ.last x.f x.r:=by
 have hl:=h.dn.len zQv (by decide)
 have hdl:=h.dl
 have hpos:=List.length_pos_iff.2 hne
 have hlast:=zZD hne
 rw[List.getLast?_eq_getElem?]at hlast
 obtain⟨x,hx⟩:=zQM (l:=L.dh) (k:=d.σ.done.length - 1) (by omega)
 obtain⟨ep,hR⟩:=h.kp0.dt _ x _ hx hlast
 obtain⟨a,ha,hk,c0⟩:=h.dn.elem zQv hx (o:=0) rfl
 obtain⟨a',ha',_,c1⟩:=h.dn.elem zQv hx (o:=1) rfl
 obtain⟨a'',ha'',_,c2⟩:=h.dn.elem zQv hx (o:=2) rfl
 rw[ha]at ha' ha'';cases ha';cases ha''
 exact⟨x,a,ha,by rw[zQa (by omega) (by omega)];omega,hk,by rw[c0,ep],c1,c2,hR⟩
theorem yZW(h:InvW p f d):xW3 d.σ.last d.σ.t=(zJx d.σ,0):=by
 have hL:=h.lastL
 unfold xW3
 rw[if_neg (by rw[hL.ok];simp),if_neg (by rw[h.t.ok];simp),if_neg (by rw[hL.page,hL.fields,h.t.page,h.t.fields];simp)]
 rfl
structure Small(d:Dat):Prop where
 f1:d.first.1.length<=400000000
 f2:d.first.2.length<=400000000
 wn:d.wr.length<=500
 wb:∀x ∈ d.wr,okW x
theorem Small.files(h:Small d)(n:Nat):(zQK d.first d.wr n).1.length<=750000000/\(zQK d.first d.wr n).2.length<=750000000:=by
 have h1:=zJI (F:=d.first) (W:=d.wr.take n) (c:=400000000) ⟨h.f1,h.f2⟩ λy hy=>(h.wb y (List.mem_of_mem_take hy)).2.2
 have h2:(d.wr.take n).length<=500:=by rw[List.length_take];have:=h.wn;omega
 unfold zQK
 omega
theorem Small.fall(h:Small d)(n:Nat)(k:Int):(zJi d.first d.wr n k).1.length<=760000000/\(zJi d.first d.wr n k).2.length<=760000000:=by
 have h1:=h.files n
 unfold zJi
 split
 ·rename_i x hx
  have:=yXx (k:=k) h1 (h.wb x (List.mem_of_getElem? hx)).2.2
  omega
 ·omega
def zKZ(d:Dat)(n k:Int):Int:=if n<0∨(d.wr.length:Int)<n∨k<0 then 1 else 0
def zJ7(d:Dat)(n k:Int):Fls:=if n<0∨(d.wr.length:Int)<n∨k<0 then([],[])else zJi d.first d.wr n.toNat k
theorem yJY{R:Rt}{wa w3:World}{r0 r1:SV}{G:Fls}(h:zQH X w0 L d 0)(hi:Ins w0 wa L)(hz:w0.heap.size<=w3.heap.size)(n0:zQh w3 wa r0 G.1)(n1:zQh w3 wa r1 G.2)
  (hR:∀wz,Pu w0 wz->zQh w0 wz r0 G.1->zQh w0 wz r1 G.2->R (.returned (.tuple #[slV r0,slV r1,.int .i64 0])) wz) :
  alE (.cells #[.slice none 0 0,.slice none 0 0] 63) wa λaL w6=>stA prog 63 (⟨aL,0,none⟩:Addr) #[slV r0,slV r1] w6 λw7=>dwE w7 λw8=>
   0<=(0:Int)/\(0:Int)<((2:Nat):Int)/\∃jU:SV,w8.cell? ((⟨aL,0,none⟩:Addr).add ((0:Int).toNat * 1))=some (.slice jU.a jU.len jU.cap)/\
   0<=(1:Int)/\(1:Int)<((2:Nat):Int)/\∃kV:SV,w8.cell? ((⟨aL,0,none⟩:Addr).add ((1:Int).toNat * 1))=some (.slice kV.a kV.len kV.cap)/\
   zQb prog [zXZ L] w8 λw9=>R (.returned (.tuple #[.slice jU.a jU.len jU.cap,.slice kV.a kV.len kV.cap,.int .i64 0])) w9:=by
 have hS:=h.S_lt
 refine alB λw6 bB fU=>zQi fU vk63.symm rfl rfl λw7 j8 ki _=>zQc λw8 bP _=>?_
 have xY:Pu wa w8:=(bB.andNew ki λi hi=>by rw[show i=_ from hi];exact Nat.le_refl _).trans bP
 have j9:=bP.blk j8
 refine⟨by omega,by omega,r0,cl j9 0,by omega,by omega,r1,cl j9 1,zZp h (hi.pu xY) λw9 cx pn=>hR w9 cx ((n0.pu xY).out pn hS hz) ((n1.pu xY).out pn hS hz)⟩
theorem yJg(h:zQH X w L d 0)(hs:Small d)(n k:Int):Calls prog 33 #[L.ptr,.int .i64 n,.int .i64 k] w λe w'=>∃r0 r1:SV,e=.returned (.tuple #[slV r0,slV r1,.int .i64 (zKZ d n k)])/\zQh w w' r0 (zJ7 d n k).1/\zQh w w' r1 (zJ7 d n k).2/\Pu w w':=by
 have hS:=h.S_lt
 have hl:=h.wr.len zXM (by decide)
 have hwl:=h.wl
 refine yYR _ _ _ w _ ((zXe h (Pu.refl w)).mono ?_)
 rintro e w1 ⟨rfl,hI,hf,hsz⟩
 have h1:=hI.at_ h
 refine⟨_,_,rfl,zJe (Br.of (λc=>by cases c) λ_=>?_)⟩
 have bad:(n<0∨(d.wr.length:Int)<n∨k<0)->zQb prog [zXZ L] w1 λw2=>∃r0 r1:SV,Ending.returned (.tuple #[.slice none 0 0,.slice none 0 0,.int .i64 1])=.returned (.tuple #[slV r0,slV r1,.int .i64 (zKZ d n k)])/\zQh w w2 r0 (zJ7 d n k).1/\zQh w w2 r1 (zJ7 d n k).2/\Pu w w2:=λhx=>
  zZp h hI λw2 aq _=>⟨⟨none,0,0⟩,⟨none,0,0⟩,by unfold zKZ;rw[if_pos hx],by unfold zJ7;rw[if_pos hx];exact zQh.nil _ _,by unfold zJ7;rw[if_pos hx];exact zQh.nil _ _,aq⟩
 refine Br.of (λc=>bad (.inl (zQk c))) (λc=>⟨L.wr,h1.cellA 9,Br.of (λc1=>bad (.inr (.inl (by have:=zQk c1;omega)))) (λc1=>Br.of (λc2=>bad (.inr (.inr (zQk c2)))) (λc2=>?_))⟩)
 have c:=zQd c
 have c1:=zQd c1
 have c2:=zQd c2
 have hgood:¬(n<0∨(d.wr.length:Int)<n∨k<0):=by omega
 obtain⟨m,rfl⟩:∃m:Nat,n=(m:Int):=⟨n.toNat,by omega⟩
 have hcap:=h.wr.le_cap.1
 refine⟨L.first,h1.cellA 7,L.wr,h1.cellA 9,by omega,by omega,by omega,?_⟩
 have hwn:=hs.wn
 have eG:zJ7 d (m:Int) k=zJi d.first d.wr m k:=by unfold zJ7;rw[if_neg hgood,zXj]
 have eC:zKZ d (m:Int) k=0:=by unfold zKZ;rw[if_neg hgood]
 rw[eG,eC,zXj,Nat.sub_zero]
 have hB:∀{wz:World},w.heap.size<=wz.heap.size->∀b,(L.own b∨X b)->b<wz.heap.size:=λhz b hb=>hb.elim (λhb=>by have:=h.own_lt hb;omega) (λhb=>by have:=h.xl b hb;omega)
 have hK0:zZb (λb=>L.own b∨X b) w1 L.first L.f0 L.f1 d.first:=λw2 h2=>(h.kp w2 ((hf.mono λb hb _=>.inl (.inl hb)).trans h2 λb hb _=>hb)).fi
 refine zQw m (λj u w'=>u.2=(j:Int)/\Pu w1 w'/\∃r0 r1,zZb (λb=>L.own b∨X b) w' u.1 r0 r1 (zQK d.first d.wr j)) ⟨rfl,Pu.refl _,L.f0,L.f1,hK0⟩ ?_
 rintro j J ⟨u1,u2⟩ wa hj ⟨tx,hpa,x0,x1,hK⟩ hJ
 obtain rfl:u2=(j:Int):=tx
 dsimp only at hK ⊢
 have hIa:=hI.pu hpa
 have ha:=hIa.at_ h
 have hza:=hpa.size
 -- a write of the store
 have wrAt:∀{i:Nat} {y:Wr} {wz:World},zQH X wz L d 1->d.wr[i]?=some y->∃a x,L.wr.a=some a/\i<L.wr.len/\wz.cell? ((a.add (i * 3)).add 0)=some (.int .i64 y.file)/\wz.cell? ((a.add (i * 3)).add 1)=some (.int .i64 y.at_)/\wz.cell? ((a.add (i * 3)).add 2)=some (slV x)/\ByV wz x y.b:=λ{i y wz} hz hy=>by
  obtain⟨x,hx⟩:=zQM (l:=L.wh) (k:=i) (by rw[hwl];exact(List.getElem?_eq_some_iff.1 hy).1)
  obtain⟨e1,e2,e3⟩:=hz.kp0.wb i x y hx hy
  obtain⟨a,ha,hk,c0⟩:=hz.wr.elem zXM hx (o:=0) rfl
  obtain⟨a',ha',_,c1⟩:=hz.wr.elem zXM hx (o:=1) rfl
  obtain⟨a'',ha'',_,c2⟩:=hz.wr.elem zXM hx (o:=2) rfl
  rw[ha]at ha' ha'';cases ha';cases ha''
  exact⟨a,x.2.2,ha,hk,by rw[c0,e1],by rw[c1,e2],c2,e3⟩
 have hsj:=hs.files j
 refine Br.of (λd1=>?_) (λd1=>?_)
 ·have kj:j<m:=by have:=zQk d1;omega
  obtain⟨y,hy⟩:=zQM (l:=d.wr) (k:=j) (by omega)
  obtain⟨ok1,ok2,ok3⟩:=hs.wb y (List.mem_of_getElem? hy)
  obtain⟨a,x,hwa,hka,g0,g1,g2,hBy⟩:=wrAt ha hy
  have hadd:∀o,((a.add (0 * 3)).add (j * 3)).add o=(a.add (j * 3)).add o:=λo=>by rw[Nat.zero_mul,yYf]
  refine⟨a.add (0 * 3),by show(if L.wr.cap=0 then L.wr.a else L.wr.a.map (λx=>x.add (0 * 3)))=_;rw[if_neg (by omega),hwa];rfl,by omega,by show(j:Int)<((m:Nat):Int);omega,_,by rw[zXj,hadd];exact g0,_,by rw[zXj,hadd];exact g1,x,by rw[zXj,hadd];exact g2,alB λwb hpb hbb=>zQi hbb vk90.symm rfl rfl λwc hbc hfc _=>?_⟩
  have hpac:Pu wa wc:=hpb.andNew hfc λi hi=>by rw[show i=_ from hi];exact Nat.le_refl _
  refine⟨_,cl hbc 0,_,cl hbc 1,x,cl hbc 2,?_⟩
  refine(xQ9 (x:=y) (hB (by have:=hpac.size;omega)) (hK.pu hpac) (hBy.pu hpac) ok1 ok2 ⟨by omega,by omega⟩ (by omega)).mono ?_
  rintro e wd ⟨o',y0,y1,rfl,hK',hpd⟩
  refine⟨o',rfl,?_⟩
  rw[zQa (by omega) (by omega)]
  refine hJ _ _ kj ⟨rfl,(hpa.trans hpac).trans hpd,y0,y1,?_⟩
  have:zQK d.first d.wr (j+1)=zQ1 (zQK d.first d.wr j) y:=by unfold zQK;exact zYE hy
  dsimp only
  rw[this];exact hK'
 ·have kj:j=m:=by have:=zQd d1;omega
  subst kj
  refine⟨L.wr,ha.cellA 9,Br.of (λd2=>?_) (λd2=>?_)⟩
  ·have d2:=zQk d2
   obtain⟨y,hy⟩:=zQM (l:=d.wr) (k:=j) (by omega)
   obtain⟨ok1,ok2,ok3⟩:=hs.wb y (List.mem_of_getElem? hy)
   obtain⟨a,x,hwa,hka,g0,g1,g2,hBy⟩:=wrAt ha hy
   have ef:zJi d.first d.wr j k=zZs (zQK d.first d.wr j) y k:=by unfold zJi;rw[hy]
   rw[ef]
   refine⟨L.wr,ha.cellA 9,a,hwa,by omega,by omega,_,by rw[zXj];exact g0,_,by rw[zXj];exact g1,x,by rw[zXj];exact g2,(xJQ (x:=y) (hB (by omega)) hK hBy ok1 ok2 ⟨by omega,by omega⟩ (by omega) k).mono ?_⟩
   rintro e wb ⟨o',y0,y1,rfl,hK',hpb⟩
   have hdl:=yXx (k:=k) hsj ok3
   refine⟨o',rfl,(xWo hK'.at_ ⟨by omega,by omega⟩).mono ?_⟩
   rintro e wc ⟨r0,r1,rfl,n0,n1,hpc⟩
   refine⟨r0,r1,rfl,yJY (R:=λe w'=>∃r0 r1:SV,e=.returned (.tuple #[slV r0,slV r1,.int .i64 0])/\zQh w w' r0 (zZs (zQK d.first d.wr j) y k).1/\zQh w w' r1 (zZs (zQK d.first d.wr j) y k).2/\Pu w w') h (hIa.pu (hpb.trans hpc)) (by have:=hpb.size;omega) n0 n1 λwz hpz m0 m1=>⟨r0,r1,rfl,m0,m1,hpz⟩⟩
  ·have d2:=zQd d2
   have ef:zJi d.first d.wr j k=zQK d.first d.wr j:=by unfold zJi;rw[List.getElem?_eq_none (by omega)]
   rw[ef]
   refine(xWo hK.at_ ⟨by omega,by omega⟩).mono ?_
   rintro e wc ⟨r0,r1,rfl,n0,n1,hpc⟩
   refine⟨r0,r1,rfl,yJY (R:=λe w'=>∃r0 r1:SV,e=.returned (.tuple #[slV r0,slV r1,.int .i64 0])/\zQh w w' r0 (zQK d.first d.wr j).1/\zQh w w' r1 (zQK d.first d.wr j).2/\Pu w w') h (hIa.pu hpc) (by omega) n0 n1 λwz hpz m0 m1=>⟨r0,r1,rfl,m0,m1,hpz⟩⟩
end Go.Proofs.YtaeecpjhfmcliaaGreatDoor
/- The log: writes to the files of a store; a commit. No condition but those stated. -/
namespace Go.Proofs.YtaeecpjhfmcliaaGreatDoor
open Go.Sh Go.RowKit Tryz
variable {w0 w w' : World} {X : Nat -> Prop} {L L' : SL} {d d' : Dat} {mu : Int} {p : Int} {f : List Fld}
theorem xZj{B:Nat->Prop}{Q:World->Prop}(h:∀w2,Fr B w w2->Q w2)(hp:Pu w w'):∀w2,Fr B w' w2->Q w2:=λw2 h2=>h w2 ((Fr.pu hp:Fr B w w').trans h2 λb hb _=>hb)
theorem zQH.xw(h:zQH X w L d mu):∀b,(L.own b∨X b)->b<w.heap.size:=λb hb=>hb.elim (λhb=>h.own_lt hb) (h.xl b)
theorem zQh.keepBy{w0:World}{q:SV}{l:List UInt8}(h:zQh w0 w q l)(hl:l.length<=1000000000){B:Nat->Prop}(hB:∀b,B b->b<w0.heap.size):∀w2,Fr B w w2->ByV w2 q l:=λw2 h2=>
 (h.fr h2 λb hb e=>by have:=h.2 b hb;have:=hB b e;omega).by (by omega)
theorem yX0 (h:zQH X w L d 1) {y:Wr} (hy:okW y) {q:SV} (hq:∀w2,Fr (λb=>L.own b∨X b) w w2->ByV w2 q y.b) (hl:d.last.1.length<=900000000/\d.last.2.length<=900000000) (hn:d.wr.length<=1000000) :
  Calls prog 84 #[L.ptr,.agg #[.int .i64 y.file,.int .i64 y.at_,slV q]] w λe w'=>e=.returned (.tuple #[])/\∃L',zQH X w' L' (d.write y) 1/\zZg w w' L L':=by
 refine xXs _ _ _ _ w _ (alB λw1 ar aB=>zQc λw2 aq _=>?_)
 have aG:=ar.trans aq
 have cP:=aq.blk aB
 have h2:=h.pu aG
 have nJ:w.heap.size<w1.heap.size:=zQx aB
 refine⟨λu=>Pu w2 u,Pu.refl _,L.wr,λu hu=>(h2.pu hu).cellA 9,y.file,λu hu=>cl (hu.blk cP) 0,y.at_,λu hu=>cl (hu.blk cP) 1,q,λu hu=>cl (hu.blk cP) 2,alB λw4 aK dm=>⟨aK,?_⟩⟩
 have bQ:=aG.trans aK
 have h4:=h.pu bQ
 have yC:=xZj hq bQ
 obtain⟨s,w5,hr,hst⟩:=h4.pushWr (y:=y) yC dm hn (K:=λw7=>dwE w7 λw8=>∃dv:SV,w8.cell? ((⟨L.S,0,none⟩:Addr).add 8)=some (.slice dv.a dv.len dv.cap)/\
   ∃dH:Int,w8.cell? ((⟨w.heap.size,0,none⟩:Addr).add 0)=some (.int .i64 dH)/\∃bT:Int,w8.cell? ((⟨w.heap.size,0,none⟩:Addr).add 1)=some (.int .i64 bT)/\∃cS:SV,w8.cell? ((⟨w.heap.size,0,none⟩:Addr).add 2)=some (.slice cS.a cS.len cS.cap)/\
   Calls prog 49 #[.slice dv.a dv.len dv.cap,.agg #[.int .i64 dH,.int .i64 bT,.slice cS.a cS.len cS.cap]] w8 λe aN=>∃dZ:SV,e=.returned (.slice dZ.a dZ.len dZ.cap)/\
   st1 ((⟨L.S,0,none⟩:Addr).add 8) (.slice dZ.a dZ.len dZ.cap) aN λaO=>(Ending.returned (.tuple #[])=.returned (.tuple #[]))/\∃L',zQH X aO L' (d.write y) 1/\zZg w aO L L') λw7 L1 h7 ql hlast=>by
  have sX:=ql.fr.blk (aK.blk cP) (λho=>by have:=h.own_lt ho;omega)
  refine zQc λw8 bP _=>?_
  have h8:=h7.pu bP
  have pj:=bP.blk sX
  have hk8:=xZj (ql.keep (X:=X) yC h4.xl) bP
  refine⟨L1.last,by rw[←ql.ptr];exact h8.cellA 8,y.file,cl pj 0,y.at_,cl pj 1,q,cl pj 2,?_⟩
  refine(xQ9 (B:=λb=>L1.own b∨X b) (x:=y) h8.xw (λw9 h9=>(h8.kp w9 h9).la) (hk8 _ (Fr.refl _ _)) hy.1 hy.2.1 hl (by have:=hy.2.2;omega)).mono ?_
  rintro e aN ⟨o,r0,r1,rfl,hK,dk⟩
  refine⟨o,rfl,?_⟩
  rw[←ql.ptr]
  refine(h8.pu dk).setLast hK λaO L2 nD yH=>⟨rfl,L2,nD,?_⟩
  exact((zZg.pu bQ L).trans ql).trans ((zZg.pu (bP.trans dk) L1).trans yH)
 exact⟨s,w5,hr,hst⟩
theorem zYG (h:d.σ.lev ≠ []∨d.σ.t=d.σ.last):d.commit=d:=by
 unfold Dat.commit
 rw[if_neg]
 rintro⟨h1,h2⟩
 rcases h with h|h
 ·exact h h1
 ·exact h2 h
structure Fit(d:Dat):Prop where
 l1:d.last.1.length<=800000000
 l2:d.last.2.length<=800000000
 wn:d.wr.length<=100000
 dn:d.σ.done.length<=100000
theorem yK8(h:zQH X w L d 1)(hi:InvW p f d)(hs:Fit d):Calls prog 79 #[L.ptr] w λe w'=>e=.returned (.tuple #[])/\∃L',zQH X w' L' d.commit 1/\zZg w w' L L':=by
 have hS:=h.S_lt
 have hlv:=h.lv.len zQv (by decide)
 have hll:=h.ll
 have hdn:=hs.dn
 refine xXQ _ w _ (zQc λw1 ar _=>?_)
 have h1:=h.pu ar
 obtain⟨x,a,ha,e1,hk,c0,c1,c2,hR⟩:=h1.lastD hi.ne (by omega)
 refine⟨λu=>Pu w1 u,Pu.refl _,L.dn,λu hu=>(h1.pu hu).cellA 6,L.dn,λu hu=>(h1.pu hu).cellA 6,a,ha,by rw[e1];omega,by rw[e1];omega,d.σ.last.page,λu hu=>hu.cell (by rw[e1,zXj];exact c0),x.f,λu hu=>hu.cell (by rw[e1,zXj];exact c1),x.r,λu hu=>hu.cell (by rw[e1,zXj];exact c2),?_⟩
 refine alB λw5 aR bo=>⟨aR,zQi bo zKW.symm rfl rfl λw6 fU iJ _=>zQc λw7 cv _=>?_⟩
 have kM:Pu w1 w7:=(aR.andNew iJ λi hi=>by rw[show i=_ from hi];exact Nat.le_refl _).trans cv
 have gm:=ar.trans kM
 have h7:=h.pu gm
 have b7:=cv.blk fU
 refine⟨_,cl b7 0,x.f,cl b7 1,x.r,cl b7 2,_,h7.cellB 2 0,L.now.f,h7.cellB 2 1,L.now.r,h7.cellB 2 2,?_⟩
 rw[h7.now.page]
 refine(xJ8 (hR.pu kM) (h7.rdNow hi.t.ok) (zZJ hi.lastL.ok) (zZJ hi.t.ok)).mono ?_
 rintro e w9 ⟨q,rfl,hq,cx⟩
 rw[yZW hi]at hq
 replace hq:zW1 w7 w9 q (zJx d.σ):=hq
 have he2:=congrArg Prod.snd (yZW hi)
 have nE:=gm.trans cx
 have h9:=h.pu nE
 have hql:q.len=(zJx d.σ).length:=hq.len
 refine⟨q,_,rfl,L.lv,h9.cellA 5,Br.of (λc=>?_) (λc=>Br.of (λpk=>?_) (λpk=>?_))⟩
 ·have c:=zQk c
  have hlne:d.σ.lev ≠ []:=λe=>by
   have:d.σ.lev.length=0:=by rw[e];rfl
   omega
  rw[zYG (.inl hlne)]
  exact⟨rfl,L,h9,zZg.pu nE L⟩
 ·have pk:q.len=0:=by simpa using pk
  have hnil:zJx d.σ=[]:=List.eq_nil_of_length_eq_zero (by show(zJx d.σ).length=0;rw[hql]at pk;exact pk)
  have hrec:=xYH (a:=d.σ.last.recs) (b:=d.σ.t.recs) hnil
  have hL:=hi.lastL
  have:d.σ.t=d.σ.last:=by
   have p1:=hi.t.page
   have p2:=hi.t.fields
   have p3:=hL.page
   have p4:=hL.fields
   cases ht:d.σ.t with
   | mk a b c=>cases hlt:d.σ.last with
    | mk a' b' c'=>
     rw[ht]at p1 p2 hrec
     rw[hlt]at p3 p4 hrec
     dsimp only at p1 p2 p3 p4 hrec
     rw[p1,p2,p3,p4,hrec]
  rw[zYG (.inr this)]
  exact⟨rfl,L,h9,zZg.pu nE L⟩
 ·have c:=zQd c
  have hlev:d.σ.lev=[]:=List.eq_nil_of_length_eq_zero (by omega)
  have pk:¬q.len=0:=by simpa using pk
  have hne:d.σ.t ≠ d.σ.last:=λe=>pk (by
   have:zJx d.σ=[]:=by unfold zJx;rw[e];exact xJz _
   rw[hql];show(zJx d.σ).length=0;rw[this];rfl)
  have hcm:d.commit={ d.write d.rec_ with σ:={ d.σ with done:=d.σ.done ++ [d.σ.t] },pts:=d.pts ++ [(d.wr.length:Int)+1] }:=by unfold Dat.commit;rw[if_pos ⟨hlev,hne⟩]
  refine zQc λaH bj _=>?_
  have sF:=nE.trans bj
  have nj:=h.pu sF
  obtain⟨al,hal,cl0',tJ⟩:=nj.kp0.la.ex
  have hll2:=nj.kp0.la.len
  have hb1l:=nj.kp0.la.b1.len
  refine⟨λu=>Pu aH u,Pu.refl _,L.last,λu hu=>(nj.pu hu).cellA 8,al,hal,by omega,by omega,L.l1,λu hu=>hu.cell tJ,_,λu hu=>(nj.pu hu).cellB 2 0,L.now.f,λu hu=>(nj.pu hu).cellB 2 1,L.now.r,λu hu=>(nj.pu hu).cellB 2 2,?_⟩
  rw[nj.now.page]
  have cM:=(zQP.of hi.t.ok).n300
  have hl300:=(zQP.of hi.lastL.ok).n300
  refine(xJF (nj.rdNow hi.t.ok) hi.t.ok (hq.pu bj) (λk hk=>?_) ?_).mono ?_
  ·obtain⟨i,yD,rfl⟩:=List.mem_map.1 hk
   have:=List.mem_range.1 (List.mem_filter.1 yD).1
   omega
  ·show(zJx d.σ).length<=1000
   unfold zJx zVP
   rw[List.length_map]
   refine Nat.le_trans (List.length_filter_le _ _) ?_
   rw[List.length_range];omega
  rintro e bH ⟨q17,rfl,lr,sG⟩
  have hcl:(zXs d.σ.t (zJx d.σ)).length<=650000:=yQL (t:=d.σ.last) hi.t.ok hi.ge
  have hcne:zXs d.σ.t (zJx d.σ) ≠ []:=λe=>by
   have:=congrArg List.length e
   rw[yQB,List.length_append,zQ7]at this
   simp at this
  refine⟨q17,rfl,sG,(yKa 99 (lr.by (by omega)) hcne (by omega)).mono ?_⟩
  rintro e bO ⟨q18,rfl,iF,nB⟩
  have sH:=sG.trans nB
  have xd:=sF.trans sH
  have yI:=h.pu xd
  refine⟨q18,rfl,sH,?_⟩
  have hy:okW d.rec_:=⟨.inr rfl,by show 0<=(d.last.2.length:Int);omega,by show(zZY 99 (zXs d.σ.t (zJx d.σ))).length<=_;rw[zJr];omega⟩
  have hx17:∀b,(L.own b∨X b)->b<bH.heap.size:=(h.pu (sF.trans sG)).xw
  have hrl:(zZY 99 (zXs d.σ.t (zJx d.σ))).length<=1000000000:=by rw[zJr];omega
  have hw:=yX0 (y:=d.rec_) (q:=q18) yI hy (iF.keepBy hrl hx17) ⟨by have:=hs.l1;omega,by have:=hs.l2;omega⟩ (by have:=hs.wn;omega)
  rw[show((L.l1.len:Nat):Int)=((d.last.2.length:Nat):Int)by omega]
  refine Calls.mono hw ?_
  rintro e cL ⟨rfl,L1,h19,ql⟩
  refine⟨rfl,zQc λbU iT _=>?_⟩
  have qG:=h19.pu iT
  rw[←ql.ptr]
  refine⟨λu=>Pu bU u,Pu.refl _,L1.dn,λu hu=>(qG.pu hu).cellA 6,_,λu hu=>(qG.pu hu).cellB 2 0,L1.now.f,λu hu=>(qG.pu hu).cellB 2 1,L1.now.r,λu hu=>(qG.pu hu).cellB 2 2,?_⟩
  rw[qG.now.page]
  refine(zJT (qG.rdNow hi.t.ok) hi.t.ok).mono ?_
  rintro e dV ⟨x23,rfl,fp,oN⟩
  refine⟨x23.page,x23.f,x23.r,rfl,oN,alB λdy fV hb24=>⟨oN.trans fV,?_⟩⟩
  have h24:=(qG.pu oN).pu fV
  have hkd:=(fp.pu fV).keep (L:=L1) (X:=X) hi.t.ok (λb hb=>qG.own_lt hb) qG.xl
  obtain⟨s,gj,hr,hst⟩:=h24.pushDone (q:=x23) (t:=d.σ.t) fp.tab.page hkd hb24 (λb hb e=>by have:=(qG.pu oN).own_lt hb;omega) (by show d.σ.done.length<=_;omega)
   (K:=λgQ=>dwE gQ λdW=>∃S5:World->Prop,S5 dW/\∃nr:SV,(∀w',S5 w'->w'.cell? ((⟨L1.S,0,none⟩:Addr).add 10)=some (.slice nr.a nr.len nr.cap))/\∃o0:SV,(∀w',S5 w'->w'.cell? ((⟨L1.S,0,none⟩:Addr).add 9)=some (.slice o0.a o0.len o0.cap))/\
    alE (.cells #[.int .i64 ((o0.len:Nat):Int)] 3) dW λr78 gn=>S5 gn/\∃iX:SV,∃gk:World,(Builtin.append_ #[52,52] 52 #[.slice nr.a nr.len nr.cap,.slice (some ⟨r78,0,none⟩) 1 1]).run prog gn=.ok (.slice iX.a iX.len iX.cap) gk/\
    st1 ((⟨L1.S,0,none⟩:Addr).add 10) (.slice iX.a iX.len iX.cap) gk λfX=>(Ending.returned (.tuple #[])=.returned (.tuple #[]))/\∃L',zQH X fX L' d.commit 1/\zZg w fX L L') λgQ L2 h27 yH _ _=>by
   refine zQc λdW ip _=>?_
   have h28:=h27.pu ip
   rw[←yH.ptr]
   refine⟨λu=>Pu dW u,Pu.refl _,L2.pt,λu hu=>(h28.pu hu).cellA 10,L2.wr,λu hu=>(h28.pu hu).cellA 9,alB λgn oO hb31=>⟨oO,?_⟩⟩
   have h31:=h28.pu oO
   have hwrl:=h31.wr.len zXM (by decide)
   have hwl2:=h31.wl
   have hpl:d.pts.length+1=d.σ.done.length:=hi.hist.len
   have hwl3:L2.wr.len=d.wr.length+1:=by
    rw[hwrl,hwl2];show(d.wr ++ [d.rec_]).length=_;simp
   obtain⟨s2,gk,jw,hst2⟩:=h31.pushPt hb31 (by show d.pts.length<=_;omega) (K:=λfX=>(Ending.returned (.tuple #[])=.returned (.tuple #[]))/\∃L',zQH X fX L' d.commit 1/\zZg w fX L L') λfX L3 h34 hL3=>⟨rfl,L3,by rw[hcm];rw[hwl3]at h34;exact h34,((zZg.pu xd L).trans ql).trans (((zZg.pu ((iT.trans oN).trans fV) L1).trans yH).trans ((zZg.pu (ip.trans oO) L2).trans hL3))⟩
   exact⟨s2,gk,jw,hst2⟩
  exact⟨s,gj,hr,hst⟩
end Go.Proofs.YtaeecpjhfmcliaaGreatDoor
/- The log: a table's own rows are written. No condition but those stated. -/
namespace Go.Proofs.YtaeecpjhfmcliaaGreatDoor
open Go.Sh Go.RowKit Tryz
variable {w w' : World} {t : Tbl} {h : HT}
theorem zJJ.rlen(ht:zJJ w t h):h.r.len=t.recs.length:=by rw[ht.rw_.len zQT (by decide),ht.len]
theorem zJJ.push (ht:zJJ w t h) {q:SV} {x:Rec} (hq:zQl w 73 3 q (x.v.flatMap zVN)) (hn:∀b ∈ zQe q,b ∉ vBl h.hs) {r:Nat} (hr:w.heap[r]?=some (.cells #[.bool x.gone,slV q] 67)) (hb:t.recs.length<=100000) :
  ∃(s:SV) (w1:World),(Builtin.append_ #[33,33] 33 #[slV h.r,.slice (some ⟨r,0,none⟩) 1 1]).run prog w=.ok (slV s) w1/\zJJ w1 { t with recs:=t.recs ++ [x] } { h with r:=s,hs:=h.hs ++ [(x.gone,q)] }/\Fr (· ∈ zQe h.r) w w1/\∀k ∈ zQe s,k ∈ zQe h.r∨w.heap.size<=k:=by
 have hl:=ht.rlen
 obtain⟨s,w1,hra,hrow,d8,hblk,hsl⟩:=zQy (P:=prog) (ty:=33) vu33 vi67 rfl (by decide) ht.rw_ (A:=some ⟨r,0,none⟩) (m:=1) (c:=1) (news:=yKk (x.gone,q)) rfl (λj u hu=>⟨_,rfl,by rw[cl hr];simpa[yKk] using hu⟩) (λu hu=>by simp[yKk]at hu;rcases hu with rfl|rfl <;> rfl) (by show(h.r.len+1) * (32+1)<=_;omega)
 refine⟨s,w1,hra,⟨ht.page,?_,by simp[ht.len],?_,?_⟩,d8,hblk⟩
 ·show zQl w1 67 2 s ((h.hs ++ [(x.gone,q)]).flatMap yKk)
  rw[List.flatMap_append,List.flatMap_singleton];exact hrow
 ·intro i y z hy hz
  have hy:(h.hs ++ [(x.gone,q)])[i]?=some y:=hy
  have hz:(t.recs ++ [x])[i]?=some z:=hz
  rw[List.getElem?_append]at hy hz
  split at hy
  ·rename_i hi
   rw[if_pos (by rw[←ht.len];exact hi)]at hz
   obtain⟨e1,e2⟩:=ht.rec_ i y z hy hz
   exact⟨e1,e2.fr d8 (zQq e2 ht.rw_ (by decide))⟩
  ·rename_i hi
   rw[if_neg (by rw[←ht.len];exact hi)]at hz
   have e1:y=(x.gone,q):=List.mem_singleton.1 (List.mem_of_getElem? hy)
   have e2:z=x:=List.mem_singleton.1 (List.mem_of_getElem? hz)
   rw[e1,e2]
   exact⟨rfl,hq.fr d8 (zQq hq ht.rw_ (by decide))⟩
 ·show(vBl (h.hs ++ [(x.gone,q)])).Nodup
  rw[zXy]
  refine List.nodup_append.2 ⟨ht.nd,by simp[vBl,zY8],λa ha b hb e=>?_⟩
  subst e
  exact hn a (by simpa[vBl] using hb) ha
theorem xYU {hs:List (Bool × SV)} {k:Nat} {x:Bool × SV} (hk:k<hs.length):∀b ∈ vBl (hs.set k x),b ∈ vBl hs∨b ∈ zQe x.2:=λb hb=>by
 obtain⟨y,hy,hyb⟩:=List.mem_flatMap.1 hb
 rcases List.mem_or_eq_of_mem_set hy with hy|rfl
 ·exact .inl (zVp hy hyb)
 ·exact .inr hyb
theorem yXh {hs:List (Bool × SV)} {k:Nat} {x:Bool × SV} (hk:k<hs.length) (hn:(vBl hs).Nodup) (hx:∀b ∈ zQe x.2,b ∉ vBl hs):(vBl (hs.set k x)).Nodup:=by
 obtain⟨y,hy⟩:=zQM hk
 have e:hs=hs.take k ++ y :: hs.drop (k+1):=by rw[←zXU hy,List.take_append_drop]
 have e2:vBl hs=vBl (hs.take k) ++ (zQe y.2 ++ vBl (hs.drop (k+1))):=by conv=>lhs;rw[e,zXy,zVV]
 rw[e2]at hn hx
 rw[xX1 hk,zXy,zVV]
 obtain⟨n1,n2,n3⟩:=List.nodup_append.1 hn
 obtain⟨m1,m2,m3⟩:=List.nodup_append.1 n2
 refine List.nodup_append.2 ⟨n1,List.nodup_append.2 ⟨zY8 _,m2,λa ha b hb e=>?_⟩,λa ha b hb e=>?_⟩
 ·subst e
  exact hx a ha (List.mem_append_right _ (List.mem_append_right _ hb))
 ·subst e
  rcases List.mem_append.1 hb with hb|hb
  ·exact hx a hb (List.mem_append_left _ ha)
  ·exact n3 a ha a (List.mem_append_right _ hb) rfl
theorem zJJ.set (ht:zJJ w t h) {k:Nat} (hk:k<t.recs.length) {q:SV} {x:Rec} (hq:zQl w 73 3 q (x.v.flatMap zVN)) (hn:∀b ∈ zQe q,b ∉ vBl h.hs) {K:World->Prop}
  (hK:∀w1,zJJ w1 { t with recs:=t.recs.set k x } { h with hs:=h.hs.set k (x.gone,q) }->Fr (· ∈ zQe h.r) w w1->K w1):∃a,h.r.a=some a/\stA prog 67 (a.add (k * 2)) #[.bool x.gone,slV q] w K:=by
 have hl:=ht.len
 refine ht.rw_.stElem zQT (by decide) (i:=k) (by omega) (x.gone,q) yWN.symm rfl λw1 h1 d8 sU=>hK w1 ⟨ht.page,h1,by simp[hl],λi y z hy hz=>?_,yXh (by omega) ht.nd hn⟩ d8
 have hy:(h.hs.set k (x.gone,q))[i]?=some y:=hy
 have hz:(t.recs.set k x)[i]?=some z:=hz
 rw[List.getElem?_set]at hy hz
 by_cases e:k=i
 ·subst e
  rw[if_pos rfl,if_pos (by omega)]at hy hz
  cases hy;cases hz
  exact⟨rfl,hq.fr d8 (zQq hq ht.rw_ (by decide))⟩
 ·rw[if_neg e]at hy hz
  obtain⟨e1,e2⟩:=ht.rec_ i y z hy hz
  exact⟨e1,e2.fr d8 (zQq e2 ht.rw_ (by decide))⟩
theorem zJJ.mark(ht:zJJ w t h){k:Nat}(hk:k<t.recs.length)(g:Bool){K:World->Prop}
  (hK:∀w1 hs,zJJ w1 { t with recs:=t.recs.modify k λr=>{ r with gone:=g } } { h with hs:=hs }->vBl hs=vBl h.hs->Fr (· ∈ zQe h.r) w w1->K w1):∃a,h.r.a=some a/\Sh.st1 (a.add (k * 2)) (.bool g) w K:=by
 have hl:=ht.len
 obtain⟨y,hy⟩:=zQM (l:=h.hs) (k:=k) (by omega)
 have e2:vBl (h.hs.set k (g,y.2))=vBl h.hs:=by
  have e:h.hs=h.hs.take k ++ y :: h.hs.drop (k+1):=by rw[←zXU hy,List.take_append_drop]
  rw[xX1 (by omega)]
  conv=>rhs;rw[e]
  rw[zXy,zXy,zVV,zVV]
 have hnd:(vBl (h.hs.set k (g,y.2))).Nodup:=by rw[e2];exact ht.nd
 obtain⟨a,ha,hst⟩:=zQl.stField (K:=K) ht.rw_ zQT (i:=k) (o:=0) (by omega) (by decide) (g,y.2) (.bool g) (λz hz=>by rw[hy]at hz;cases hz;rfl) λw1 h1 d8 sU=>hK w1 (h.hs.set k (g,y.2)) ⟨ht.page,h1,by simp[hl],λi z u hz hu=>by
   have hz:(h.hs.set k (g,y.2))[i]?=some z:=hz
   have hu:(t.recs.modify k λr=>{ r with gone:=g })[i]?=some u:=hu
   rw[List.getElem?_set]at hz
   rw[List.getElem?_modify]at hu
   by_cases e:k=i
   ·subst e
    rw[if_pos rfl,if_pos (by omega)]at hz
    cases hz
    obtain⟨r,hr⟩:=zQM hk
    simp only[if_pos,hr]at hu
    have hu:u={ r with gone:=g }:=by simpa using hu.symm
    subst hu
    obtain⟨e1,e2⟩:=ht.rec_ k y r hy hr
    exact⟨rfl,e2.fr d8 (zQq e2 ht.rw_ (by decide))⟩
   ·rw[if_neg e]at hz
    simp only[if_neg e]at hu
    obtain⟨e1,e2⟩:=ht.rec_ i z u hz (by simpa using hu)
    exact⟨e1,e2.fr d8 (zQq e2 ht.rw_ (by decide))⟩,hnd⟩ e2 d8
 rw[yYf]at hst
 exact⟨a,ha,hst⟩
theorem vBl_at {hs:List (Bool × SV)} (hn:(vBl hs).Nodup) {i j:Nat} {x y:Bool × SV} (hx:hs[i]?=some x) (hy:hs[j]?=some y) (hij:i ≠ j):∀b ∈ zQe x.2,b ∉ zQe y.2:=by
 have key:∀{i j:Nat} {x y:Bool × SV},i<j->hs[i]?=some x->hs[j]?=some y->∀b ∈ zQe x.2,b ∉ zQe y.2:=λ{i j x y} h hx hy b hb hc=>by
  have e:vBl hs=vBl (hs.take (i+1)) ++ vBl (hs.drop (i+1)):=by rw[←zXy,List.take_append_drop]
  rw[e]at hn
  refine(List.nodup_append.1 hn).2.2 b ?_ b ?_ rfl
  ·rw[zQD hx,zXy]
   exact List.mem_append_right _ (by simpa[vBl] using hb)
  ·refine zVp (x:=y) (List.mem_of_getElem? (i:=j - (i+1)) ?_) hc
   rw[List.getElem?_drop,show i+1+(j - (i+1))=j by omega];exact hy
 rcases Nat.lt_or_gt_of_ne hij with h|h
 ·exact key h hx hy
 ·exact λb hb hc=>key h hy hx b hc hb
theorem zJJ.setV (ht:zJJ w t h) {k i:Nat} {r:Rec} (hr:t.recs[k]?=some r) (hi:i<r.v.length) (v:Val) {K:World->Prop} {y:Bool × SV} (hy:h.hs[k]?=some y)
  (hK:∀w1,zJJ w1 { t with recs:=t.recs.modify k λr=>{ r with v:=r.v.set i v } } h->Fr (· ∈ zQe y.2) w w1->K w1):∃a,y.2.a=some a/\stA prog 73 (a.add (i * 3)) #[.int .i64 v.kind,.int .i64 v.n,.string v.s] w K:=by
 obtain⟨e1,e2⟩:=ht.rec_ k y r hy hr
 refine e2.stElem zXA (by decide) (i:=i) hi v xYX.symm rfl λw1 h1 d8 sU=>hK w1 ⟨ht.page,ht.rw_.fr d8 λb hb hc=>zQq e2 ht.rw_ (by decide) b hc hb,by simp[ht.len],λj z u hz hu=>?_,ht.nd⟩ d8
 have hu:(t.recs.modify k λr=>{ r with v:=r.v.set i v })[j]?=some u:=hu
 rw[List.getElem?_modify]at hu
 by_cases e:k=j
 ·subst e
  simp only[if_pos,hr]at hu
  have hu:u={ r with v:=r.v.set i v }:=by simpa using hu.symm
  subst hu
  rw[hy]at hz;cases hz
  exact⟨e1,h1⟩
 ·simp only[if_neg e]at hu
  obtain⟨d1,d2⟩:=ht.rec_ j z u hz (by simpa using hu)
  exact⟨d1,d2.fr d8 λb hb hc=>vBl_at ht.nd hy hz e b hc hb⟩
end Go.Proofs.YtaeecpjhfmcliaaGreatDoor
/- The log: transactions are begun, ended and taken back. No condition but those stated. -/
namespace Go.Proofs.YtaeecpjhfmcliaaGreatDoor
open Go.Sh Go.RowKit Tryz
variable {w0 w w' : World} {X : Nat -> Prop} {L L' : SL} {d d' : Dat} {mu : Int} {p : Int} {f : List Fld}
theorem zQH.st1S (h:zQH X w L d mu) {o:Nat} {v:Value} {K:World->Prop} (ho:o<11) (hK:∀w2,w2.heap[L.S]?=some (.cells ((zKf mu L).setIfInBounds o v) 108)->Fr (·=L.S) w w2->K w2):st1 ((⟨L.S,0,none⟩:Addr).add o) v w K:=by
 rw[zQr,Nat.zero_add]
 exact zQt h.st ho λw2 nA aM=>hK w2 aM (by rw[nA];exact Fr.cell w _ _ _)
def yXo(X:Nat->Prop)(w:World)(L:SL)(v:Value)(d':Dat):Rt:=λe w'=>e=.returned v/\∃L',zQH X w' L' d' 0/\zZg w w' L L'
theorem zXQ{v:Value}(h:zQH X w L d 1)(hl:zZg w0 w L' L):zQb prog [zXZ L] w λw2=>yXo X w0 L' v d (.returned v) w2:=yWD h hl λw3 h3 h4 _=>⟨rfl,L,h3,h4⟩
theorem zZa{v:Value}{L0:SL}(h:zQH X w L d 1)(hl:zZg w0 w L0 L)(hp:L0.S=L.S):zQb prog [zXZ L0] w λw2=>yXo X w0 L0 v d (.returned v) w2:=by
 have:zXZ L0=zXZ L:=by unfold zXZ SL.ptr;rw[hp]
 rw[this];exact zXQ h hl
theorem yJI(h:zQH X w L d 0)(hi:InvW p f d):Calls prog 35 #[L.ptr] w (yXo X w L (.int .i64 (zKd d.σ)) d.begin):=by
 have hlv:=h.lv.len zQv (by decide)
 have hll:=h.ll
 have h8:=hi.l8
 refine xZu _ w _ ((zXe h (Pu.refl w)).mono ?_)
 rintro e w1 ⟨rfl,hI,hf,hs⟩
 have h1:=hI.at_ h
 refine⟨_,_,rfl,zJe (Br.of (λc=>by cases c) λ_=>⟨L.lv,h1.cellA 5,Br.of (λc=>?_) (λc=>?_)⟩)⟩
 ·have c:8<=d.σ.lev.length:=by have:=zQk c;omega
  have e1:zKd d.σ=3:=by unfold zKd;rw[if_pos c]
  have e2:d.begin=d:=by unfold Dat.begin Dat.to zZZ;rw[if_pos c]
  rw[e1,e2]
  exact zXQ h1 hI.left
 ·have c:¬8<=d.σ.lev.length:=by have:=zQd c;omega
  have e1:zKd d.σ=0:=by unfold zKd;rw[if_neg c]
  have e2:d.begin={ d with σ:={ d.σ with lev:=d.σ.lev ++ [d.σ.t] } }:=by unfold Dat.begin Dat.to zZZ;rw[if_neg c]
  rw[e1,e2]
  refine zQc λw5 aR _=>?_
  have h5:=h1.pu aR
  refine⟨λu=>Pu w5 u,Pu.refl _,L.lv,λu hu=>(h5.pu hu).cellA 5,_,λu hu=>(h5.pu hu).cellB 2 0,L.now.f,λu hu=>(h5.pu hu).cellB 2 1,L.now.r,λu hu=>(h5.pu hu).cellB 2 2,?_⟩
  rw[h5.now.page]
  refine(zJT (h5.rdNow hi.t.ok) hi.t.ok).mono ?_
  rintro e w8 ⟨q,rfl,hq,bP⟩
  refine⟨q.page,q.f,q.r,rfl,bP,alB λw9 cx oM=>⟨bP.trans cx,?_⟩⟩
  obtain⟨s,aN,hr,hst⟩:=h5.pushLev (bP.trans cx) (hq.pu cx) hi.t.ok oM (by omega) (K:=λaO=>zQb prog [zXZ L] aO λaH=>yXo X w L (.int .i64 0) { d with σ:={ d.σ with lev:=d.σ.lev ++ [d.σ.t] } } (.returned (.int .i64 0)) aH) λaO L1 nD ql=>
   zZa nD ((hI.left.trans (zZg.pu aR L)).trans ql) ql.ptr.symm
  exact⟨s,aN,hr,hst⟩
theorem yZ9{e:TypeId}{sz:Nat}{s:SV}{vs:List Value}{n:Nat}(h:zQl w e sz s vs)(hn:n<=s.len)(ha:s.a ≠ none):zQl w e sz ⟨s.a,n,s.cap⟩ (vs.take (n * sz)):=by
 obtain⟨h1,hd|⟨g,cur,h3,h4,h5,h6,h7,h8⟩⟩:=h
 ·rw[hd]at ha;exact absurd rfl ha
 ·have hm:n * sz<=s.len * sz:=Nat.mul_le_mul_right _ hn
  refine⟨by rw[List.length_take,h1];exact Nat.min_eq_left hm,.inr ⟨g,cur,h3,h4,Nat.le_trans hn h5,h6,h7,?_⟩⟩
  rw[←h8,List.take_take,Nat.min_eq_left hm]
theorem yXn {α:Type} {l:List α} (h:l ≠ []):∃l0 x,l=l0 ++ [x]:=⟨l.dropLast,l.getLast h,(List.dropLast_concat_getLast h).symm⟩
structure yKP(L:SL)(d:Dat)(l0:List HT)(x:HT)(v0:List Tbl)(t:Tbl):Prop where
 lh:L.lh=l0 ++ [x]
 lev:d.σ.lev=v0 ++ [t]
def SL.pop(L:SL)(l0:List HT):SL:={ L with lv:=⟨L.lv.a,L.lv.len - 1,L.lv.cap⟩,lh:=l0 }
theorem xZo {l0:List HT} {x:HT} (h:L.lh=l0 ++ [x]) {b:Nat} (hb:(L.pop l0).own b):L.own b:=by
 rcases hb with hb|hb|hb|hb|hb|⟨z,hz,hb⟩
 ·exact .inl hb
 ·exact .inr (.inl hb)
 ·exact .inr (.inr (.inl hb))
 ·exact .inr (.inr (.inr (.inl hb)))
 ·exact .inr (.inr (.inr (.inr (.inl hb))))
 ·refine .inr (.inr (.inr (.inr (.inr ⟨z,?_,hb⟩))))
  have hz:z ∈ L.now :: l0:=hz
  rcases List.mem_cons.1 hz with rfl|hz
  ·exact List.mem_cons_self
  ·rw[h];exact List.mem_cons_of_mem _ (List.mem_append_left _ hz)
theorem pop_row(h:zQH X w L d mu){l0:List HT}{x:HT}{v0:List Tbl}{t:Tbl}(hP:yKP L d l0 x v0 t):zQl w 35 3 ⟨L.lv.a,L.lv.len - 1,L.lv.cap⟩ (l0.flatMap zVE):=by
 have hl:=h.lv.len zQv (by decide)
 have hll:L.lh.length=l0.length+1:=by rw[hP.lh];simp
 have ha:L.lv.a ≠ none:=by
  obtain⟨_,hd|⟨g,cur,h3,_⟩⟩:=h.lv
  ·rw[hd]at hl
   have hl:0=L.lh.length:=hl
   omega
  ·rw[h3];simp
 have h1:=yZ9 h.lv (n:=L.lv.len - 1) (by omega) ha
 rw[hP.lh,List.flatMap_append,show L.lv.len - 1=l0.length by omega]at h1
 have e:(l0.flatMap zVE).length=l0.length * 3:=zQ4 zQv l0
 rw[←e,List.take_left]at h1
 rw[show L.lv.len - 1=l0.length by omega]
 exact h1
theorem zQH.pop (h:zQH X w L d mu) {l0:List HT} {x:HT} {v0:List Tbl} {t:Tbl} (hP:yKP L d l0 x v0 t) (hf:Fr (·=L.S) w w') {mu':Int} (hst:w'.heap[L.S]?=some (.cells (zKf mu' (L.pop l0)) 108)):zQH X w' (L.pop l0) { d with σ:={ d.σ with lev:=v0 } } mu':=by
 have hr:=pop_row h hP
 have hll:l0.length=v0.length:=by
  have:=h.ll
  rw[hP.lh,hP.lev]at this;simpa using this
 have at0:∀{i:Nat} {y:HT},l0[i]?=some y->L.lh[i]?=some y:=λ{i y} hy=>by rw[hP.lh,List.getElem?_append_left (List.getElem?_eq_some_iff.1 hy).1];exact hy
 have xZ:∀{i:Nat} {y:Tbl},v0[i]?=some y->d.σ.lev[i]?=some y:=λ{i y} hy=>by rw[hP.lev,List.getElem?_append_left (List.getElem?_eq_some_iff.1 hy).1];exact hy
 refine⟨hst,hr.fr hf λb hb e=>hr.other h.st (by decide) (by rw[←show b=L.S from e];exact hb),h.dn.fr hf λb hb e=>h.dn.other h.st (by decide) (by rw[←show b=L.S from e];exact hb),h.wr.fr hf λb hb e=>h.wr.other h.st (by decide) (by rw[←show b=L.S from e];exact hb),h.pt.fr hf λb hb e=>h.pt.other h.st (by decide) (by rw[←show b=L.S from e];exact hb),
  h.now.fr hf λb hb e=>h.now.other h.st (by decide) (by decide) (by rw[←show b=L.S from e];exact hb),hll,h.dl,h.wl,λi y u hy hu=>(h.lvs i y u (at0 hy) (xZ hu)).fr hf λb hb e=>(h.lvs i y u (at0 hy) (xZ hu)).other h.st (by decide) (by decide) (by rw[←show b=L.S from e];exact hb),h.ld,λy hy=>h.dj y (by rw[hP.lh];exact List.mem_append_left _ hy),λi j y z hij hy hz=>h.djl i j y z hij (at0 hy) (at0 hz),λb hb=>Nat.lt_of_lt_of_le (h.xl b hb) hf.size,λw2 h2=>?_⟩
 have k:=h.kp w2 ((hf.mono λb hb _=>.inl (.inl hb)).trans h2 λb hb _=>hb.imp (xZo hP.lh) id)
 exact⟨k.nf,λi y u hy hu=>k.lf i y u (at0 hy) (xZ hu),k.dt,k.fi,k.la,k.wb⟩
def SL.undo(L:SL)(l0:List HT)(x:HT):SL:={ L with lv:=⟨L.lv.a,L.lv.len - 1,L.lv.cap⟩,lh:=l0,now:=x }
theorem yJU {l0:List HT} {x:HT} (h:L.lh=l0 ++ [x]) {b:Nat} (hb:(L.undo l0 x).own b):L.own b:=by
 rcases hb with hb|hb|hb|hb|hb|⟨z,hz,hb⟩
 ·exact .inl hb
 ·exact .inr (.inl hb)
 ·exact .inr (.inr (.inl hb))
 ·exact .inr (.inr (.inr (.inl hb)))
 ·exact .inr (.inr (.inr (.inr (.inl hb))))
 ·refine .inr (.inr (.inr (.inr (.inr ⟨z,?_,hb⟩))))
  have hz:z ∈ x :: l0:=hz
  rw[h]
  rcases List.mem_cons.1 hz with rfl|hz
  ·exact List.mem_cons_of_mem _ (List.mem_append_right _ (List.mem_singleton.2 rfl))
  ·exact List.mem_cons_of_mem _ (List.mem_append_left _ hz)
theorem zQH.undo (h:zQH X w L d mu) {l0:List HT} {x:HT} {v0:List Tbl} {t:Tbl} (hP:yKP L d l0 x v0 t) (hf:Fr (·=L.S) w w') {mu':Int} (hst:w'.heap[L.S]?=some (.cells (zKf mu' (L.undo l0 x)) 108)):zQH X w' (L.undo l0 x) { d with σ:={ d.σ with t:=t,lev:=v0 } } mu':=by
 have hr:=pop_row h hP
 have hll:l0.length=v0.length:=by
  have:=h.ll
  rw[hP.lh,hP.lev]at this;simpa using this
 have at0:∀{i:Nat} {y:HT},l0[i]?=some y->L.lh[i]?=some y:=λ{i y} hy=>by rw[hP.lh,List.getElem?_append_left (List.getElem?_eq_some_iff.1 hy).1];exact hy
 have xZ:∀{i:Nat} {y:Tbl},v0[i]?=some y->d.σ.lev[i]?=some y:=λ{i y} hy=>by rw[hP.lev,List.getElem?_append_left (List.getElem?_eq_some_iff.1 hy).1];exact hy
 have lx:L.lh[l0.length]?=some x:=by rw[hP.lh,List.getElem?_append_right (Nat.le_refl _),Nat.sub_self];rfl
 have lt:d.σ.lev[l0.length]?=some t:=by rw[hP.lev,hll,List.getElem?_append_right (Nat.le_refl _),Nat.sub_self];rfl
 have hx:=h.lvs _ x t lx lt
 refine⟨hst,hr.fr hf λb hb e=>hr.other h.st (by decide) (by rw[←show b=L.S from e];exact hb),h.dn.fr hf λb hb e=>h.dn.other h.st (by decide) (by rw[←show b=L.S from e];exact hb),h.wr.fr hf λb hb e=>h.wr.other h.st (by decide) (by rw[←show b=L.S from e];exact hb),h.pt.fr hf λb hb e=>h.pt.other h.st (by decide) (by rw[←show b=L.S from e];exact hb),
  hx.fr hf λb hb e=>hx.other h.st (by decide) (by decide) (by rw[←show b=L.S from e];exact hb),hll,h.dl,h.wl,λi y u hy hu=>(h.lvs i y u (at0 hy) (xZ hu)).fr hf λb hb e=>(h.lvs i y u (at0 hy) (xZ hu)).other h.st (by decide) (by decide) (by rw[←show b=L.S from e];exact hb),h.ld,λy hy b hb hyb=>?_,λi j y z hij hy hz=>h.djl i j y z hij (at0 hy) (at0 hz),λb hb=>Nat.lt_of_lt_of_le (h.xl b hb) hf.size,λw2 h2=>?_⟩
 ·obtain⟨i,hi⟩:=List.getElem?_of_mem (show y ∈ l0 from hy)
  have:=(List.getElem?_eq_some_iff.1 hi).1
  exact h.djl l0.length i x y (by omega) lx (at0 hi) b hb hyb
 ·have k:=h.kp w2 ((hf.mono λb hb _=>.inl (.inl hb)).trans h2 λb hb _=>hb.imp (yJU hP.lh) id)
  exact⟨k.lf _ x t lx lt,λi y u hy hu=>k.lf i y u (at0 hy) (xZ hu),k.dt,k.fi,k.la,k.wb⟩
theorem yKH(h:zQH X w L d 1)(hn:d.σ.lev.length<=1000000):Calls prog 80 #[L.ptr] w λe w'=>(d.σ.lev=[]/\e=.returned (.tuple #[.agg #[.int .i64 0,.slice none 0 0,.slice none 0 0],.int .i64 9])/\Pu w w') ∨
  ∃l0 x v0 t,yKP L d l0 x v0 t/\e=.returned (.tuple #[.agg #[.int .i64 x.page,slV x.f,slV x.r],.int .i64 0])/\Fr (·=L.S) w w'/\w'.heap[L.S]?=some (.cells (zKf 1 (L.pop l0)) 108):=by
 have hlv:=h.lv.len zQv (by decide)
 have hll:=h.ll
 have hS:=h.S_lt
 refine yYG _ w _ (alB λw1 ar aB=>?_)
 have h1:=h.pu ar
 refine⟨L.lv,h1.cellA 5,Br.of (λc=>?_) (λc=>?_)⟩
 ·have c:L.lv.len=0:=by simpa using c
  refine zQi aB zKW.symm rfl rfl λw3 bn fT _=>⟨_,cl bn 0,⟨none,0,0⟩,cl bn 1,⟨none,0,0⟩,cl bn 2,.inl ⟨List.eq_nil_of_length_eq_zero (by omega),rfl,ar.andNew fT λi hi=>by rw[show i=_ from hi];exact Nat.le_refl _⟩⟩
 ·have c:¬L.lv.len=0:=by simpa using c
  obtain⟨l0,x,hlh⟩:=yXn (l:=L.lh) (λe=>by rw[e]at hlv;simp at hlv;omega)
  obtain⟨v0,t,nw⟩:=yXn (l:=d.σ.lev) (λe=>by rw[e]at hll;simp at hll;rw[hll]at hlv;simp at hlv;omega)
  have hlen:L.lh.length=l0.length+1:=by rw[hlh];simp
  have hx:L.lh[L.lv.len - 1]?=some x:=by rw[hlh,List.getElem?_append_right (by omega),show L.lv.len - 1 - l0.length=0 by omega];rfl
  obtain⟨a,ha,hk,c0⟩:=h1.lv.elem zQv hx (o:=0) rfl
  obtain⟨a',ha',_,c1⟩:=h1.lv.elem zQv hx (o:=1) rfl
  obtain⟨a'',ha'',_,c2⟩:=h1.lv.elem zQv hx (o:=2) rfl
  rw[ha]at ha' ha'';cases ha';cases ha''
  rw[zQa (n:=((L.lv.len:Nat):Int) - 1) (by omega) (by omega),show((L.lv.len:Nat):Int) - 1=((L.lv.len - 1:Nat):Int)by omega,zXj]
  have hcap:=h1.lv.le_cap.1
  refine⟨L.lv,h1.cellA 5,a,ha,by omega,by omega,_,c0,x.f,c1,x.r,c2,alB λw7 cv j8=>zQi j8 zKW.symm rfl rfl λw8 j9 oR _=>?_⟩
  have nB:Pu w1 w8:=cv.andNew oR λi hi=>by rw[show i=_ from hi];exact Nat.le_refl _
  have dP:=ar.trans nB
  have h8:=h.pu dP
  have nJ:w.heap.size<w1.heap.size:=zQx aB
  refine⟨L.lv,h8.cellA 5,by omega,by omega,by omega,?_⟩
  have esl:(if L.lv.cap=0 then L.lv.a else L.lv.a.map (λx=>x.add (0 * 3)))=L.lv.a:=by rw[if_neg (by omega),ha];show some (a.add (0 * 3))=_;rw[Nat.zero_mul,yYf]
  rw[esl,Nat.sub_zero,Nat.sub_zero]
  rw[zZi]
  refine h8.st1S (by decide) λaV io nC=>?_
  have x6:=nC.blk j9 (show ¬w1.heap.size=L.S by omega)
  have b111:=nC.blk (nB.blk aB) (show ¬w.heap.size=L.S by omega)
  refine⟨_,cl x6 0,x.f,cl x6 1,x.r,cl x6 2,zQi b111 zKW.symm rfl rfl λaO ln eJ _=>⟨_,cl ln 0,x.f,cl ln 1,x.r,cl ln 2,.inr ⟨l0,x,v0,t,⟨hlh,nw⟩,rfl,?_,?_⟩⟩⟩
  ·exact((Fr.pu dP:Fr (·=L.S) w w8).trans nC λ_ h _=>h).trans eJ λb hb hlt=>by have hb:b=w.heap.size:=hb;omega
  ·exact eJ.blk io (show ¬L.S=w.heap.size by omega)
theorem end_c(h:zQH X w L d 0)(hi:Inv p f d)(hs:Fit d):Calls prog 36 #[L.ptr] w (yXo X w L (.int .i64 (zJj d.σ)) d.end_):=by
 have hS:=h.S_lt
 have tK:=hi.l8
 refine yYz _ w _ ((zXe h (Pu.refl w)).mono ?_)
 rintro e w1 ⟨rfl,hI,hf,hsz⟩
 have h1:=hI.at_ h
 refine⟨_,_,rfl,zJe (Br.of (λc=>by cases c) λ_=>(yKH h1 (by omega)).mono ?_)⟩
 rintro e w3 (⟨hnil,rfl,au⟩|⟨l0,x,v0,t,hP,rfl,fT,x7⟩)
 ·refine⟨0,⟨none,0,0⟩,⟨none,0,0⟩,9,rfl,alB λw4 aK dm=>zQi dm zKW.symm rfl rfl λw5 bo cN _=>Br.of (λ_=>?_) (λc=>by cases c)⟩
  have fj:Pu w1 w5:=(au.trans aK).andNew cN λi hi=>by rw[show i=_ from hi];exact au.size
  have e1:zJj d.σ=9:=by unfold zJj;rw[if_pos hnil]
  have e2:d.end_=d:=by unfold Dat.end_;rw[if_pos hnil]
  rw[e1,e2]
  exact zXQ (h1.pu fj) (hI.left.trans (zZg.pu fj L))
 ·have h3:=h1.pop hP fT x7
  have hlne:d.σ.lev ≠ []:=by rw[hP.lev];simp
  have e1:zJj d.σ=0:=by unfold zJj;rw[if_neg hlne]
  have e2:d.end_=({ d with σ:={ d.σ with lev:=v0 } }:Dat).commit:=by unfold Dat.end_ Dat.to;rw[if_neg hlne,hP.lev,List.dropLast_concat]
  have hW:InvW p f { d with σ:={ d.σ with lev:=v0 } }:=by
   have:=yQW hi
   unfold Dat.to at this
   rw[hP.lev,List.dropLast_concat]at this;exact this
  have hL3:zZg w1 w3 L (L.pop l0):=⟨fT.mono λb hb _=>.inl hb,λb hb=>.inl (xZo hP.lh hb),rfl⟩
  refine⟨x.page,x.f,x.r,0,rfl,alB λw4 aK dm=>zQi dm zKW.symm rfl rfl λw5 bo cN _=>Br.of (λc=>by cases c) (λ_=>?_)⟩
  have co:Pu w3 w5:=aK.andNew cN λi hi=>by rw[show i=_ from hi];exact Nat.le_refl _
  refine Calls.mono (yK8 (L:=L.pop l0) (h3.pu co) hW ⟨hs.l1,hs.l2,hs.wn,hs.dn⟩) ?_
  rintro e w7 ⟨rfl,L2,h7,hL7⟩
  refine⟨rfl,?_⟩
  rw[e1,e2]
  have hL:=(hI.left.trans hL3).trans ((zZg.pu co (L.pop l0)).trans hL7)
  exact zZa h7 hL hL.ptr.symm
end Go.Proofs.YtaeecpjhfmcliaaGreatDoor
/- The log: records are put behind, replaced, marked; values are set. No condition but those stated. -/
namespace Go.Proofs.YtaeecpjhfmcliaaGreatDoor
open Go.Sh Go.RowKit Tryz
variable {w0 w w' : World} {X : Nat -> Prop} {L L' : SL} {d d' : Dat} {mu : Int} {p : Int} {f : List Fld}
theorem yXE{L1:SL}{w1:World}{d1:Dat}(h1:zQH X w1 L1 d1 1)(hl:zZg w w1 L L1)(hW:InvW p f d1)(hs:Fit d1):Calls prog 79 #[L.ptr] w1 λe w2=>e=.returned (.tuple #[])/\∃L2,zQH X w2 L2 d1.commit 1/\zZg w w2 L L2:=by
 have e:L.ptr=L1.ptr:=by unfold SL.ptr;rw[hl.ptr]
 rw[e]
 refine(yK8 h1 hW hs).mono ?_
 rintro e w2 ⟨rfl,L2,h2,yH⟩
 exact⟨rfl,L2,h2,hl.trans yH⟩
theorem stA3 {c:Array Value} {S:Nat} {v0 v1 v2:Value} {K:World->Prop} (hb:w.heap[S]?=some (.cells c 108)) (hc:c.size=11) (h0:yXf v0=true) (h1:yXf v1=true) (h2:yXf v2=true)
  (hK:∀w2,w2.heap[S]?=some (.cells (((c.setIfInBounds 2 v0).setIfInBounds 3 v1).setIfInBounds 4 v2) 108)->Fr (·=S) w w2->K w2):stA prog 35 ((⟨S,0,none⟩:Addr).add 2) #[v0,v1,v2] w K:=by
 refine⟨zKW.symm,by simp[h0,h1,h2],?_⟩
 show Sh.st1 (((⟨S,0,none⟩:Addr).add 2).add 0) v0 w _
 rw[zQr,zQr]
 refine zQt hb (by omega) λwa hwa hba=>?_
 show Sh.st1 (((⟨S,0+2,none⟩:Addr)).add 1) v1 wa _
 rw[zQr]
 refine zQt hba (by simp;omega) λwb hwb hbb=>?_
 show Sh.st1 (((⟨S,0+2,none⟩:Addr)).add 2) v2 wb _
 rw[zQr]
 refine zQt hbb (by simp;omega) λwc hwc hbc=>hK wc hbc ?_
 rw[hwc,hwb,hwa]
 exact((Fr.cell w _ _ _).trans (Fr.cell _ _ _ _) λ_ h _=>h).trans (Fr.cell _ _ _ _) λ_ h _=>h
theorem xYc(h:zQH X w L d 0)(tK:d.σ.lev.length<=8):Calls prog 37 #[L.ptr] w (yXo X w L (.int .i64 (zJj d.σ)) d.back):=by
 have hS:=h.S_lt
 refine xX6 _ w _ ((zXe h (Pu.refl w)).mono ?_)
 rintro e w1 ⟨rfl,hI,hf,hsz⟩
 have h1:=hI.at_ h
 refine⟨_,_,rfl,zJe (Br.of (λc=>by cases c) λ_=>(yKH h1 (by omega)).mono ?_)⟩
 rintro e w3 (⟨hnil,rfl,au⟩|⟨l0,x,v0,t,hP,rfl,fT,x7⟩)
 ·refine⟨0,⟨none,0,0⟩,⟨none,0,0⟩,9,rfl,alB λw4 aK dm=>zQi dm zKW.symm rfl rfl λw5 bo cN _=>Br.of (λ_=>?_) (λc=>by cases c)⟩
  have fj:Pu w1 w5:=(au.trans aK).andNew cN λi hi=>by rw[show i=_ from hi];exact au.size
  have e1:zJj d.σ=9:=by unfold zJj;rw[if_pos hnil]
  have e2:d.back=d:=by unfold Dat.back Dat.to zVt;rw[if_pos hnil]
  rw[e1,e2]
  exact zXQ (h1.pu fj) (hI.left.trans (zZg.pu fj L))
 ·have hlne:d.σ.lev ≠ []:=by rw[hP.lev];simp
  have e1:zJj d.σ=0:=by unfold zJj;rw[if_neg hlne]
  have e2:d.back={ d with σ:={ d.σ with t:=t,lev:=v0 } }:=by
   unfold Dat.back Dat.to zVt;rw[if_neg hlne,hP.lev,List.dropLast_concat,List.getLast?_concat];rfl
  refine⟨x.page,x.f,x.r,0,rfl,alB λw4 aK dm=>zQi dm zKW.symm rfl rfl λw5 bo cN _=>Br.of (λc=>by cases c) (λ_=>⟨_,cl bo 0,x.f,cl bo 1,x.r,cl bo 2,?_⟩)⟩
  have co:Pu w3 w5:=aK.andNew cN λi hi=>by rw[show i=_ from hi];exact Nat.le_refl _
  rw[zZi]
  refine stA3 (co.blk x7) rfl rfl rfl rfl λw8 j9 oR=>?_
  have hf18:Fr (·=L.S) w1 w8:=(fT.trans (Fr.pu co:Fr (·=L.S) w3 w5) λ_ h _=>h).trans oR λ_ h _=>h
  have h8:=h1.undo hP hf18 (mu':=1) j9
  have hL8:zZg w1 w8 L (L.undo l0 x):=⟨hf18.mono λb hb _=>.inl hb,λb hb=>.inl (yJU hP.lh hb),rfl⟩
  rw[e1,e2]
  exact zZa h8 (hI.left.trans hL8) rfl
theorem zYQ(h:zQH X w L d mu)(hn:d.σ.t.recs.length<=1000000)(k:Int):Calls prog 81 #[L.ptr,.int .i64 k] w λe w'=>e=.returned (.bool (zXf d.σ k))/\w'=w:=by
 have hrl:=h.now.rlen
 refine xXI _ _ w _ (Br.of (λc=>⟨L.now.r,h.cellB 2 2,?_,rfl⟩) (λc=>⟨?_,rfl⟩))
 ·have c:=zQk c
  unfold zXf
  rw[hrl,decide_eq_true (show 1<=k by omega),Bool.true_and]
 ·have c:=zQd c
  unfold zXf
  rw[decide_eq_false (show ¬1<=k by omega),Bool.false_and]
theorem xKj(h:zQH X w L d mu)(hv:zQf d.σ.t=0){s:SV}{r:Rec}(hr:zX3 w s r.v):Calls prog 77 #[L.ptr,.agg #[.bool r.gone,slV s]] w λe w'=>e=.returned (.int .i64 (zQ0 d.σ.t.fields d.σ.t.page r))/\Pu w w':=by
 have hR:=zQP.of hv
 refine xQb _ _ _ w _ (alB λw1 ar aB=>zQc λw2 aq _=>?_)
 have aG:=ar.trans aq
 have h2:=h.pu aG
 have cP:=aq.blk aB
 refine⟨λu=>Pu w2 u,Pu.refl _,d.σ.t.page,λu hu=>by rw[(h2.pu hu).cellA 2,←h.now.page];rfl,L.now.f,λu hu=>(h2.pu hu).cellB 2 1,r.gone,λu hu=>cl (hu.blk cP) 0,s,λu hu=>cl (hu.blk cP) 1,alB λw5 aR bo=>⟨aR,?_⟩⟩
 have cI:=aG.trans aR
 have hrow:zX3 w5 ⟨some ⟨w2.heap.size,0,none⟩,1,1⟩ [r]:=by
  refine⟨rfl,Nat.le_refl _,by show 1<=140737488355328;omega,λi x hx=>?_⟩
  have yc:i=0:=by have:=(List.getElem?_eq_some_iff.1 hx).1;simp at this;exact this
  subst yc
  simp at hx;subst hx
  refine⟨⟨w2.heap.size,0,none⟩,rfl,[.bool r.gone,slV s],⟨s,rfl,hr.pu cI⟩,λj v hv=>?_⟩
  rcases j with _|_|j <;> simp at hv
  ·subst hv;exact cl bo 0
  ·subst hv;exact cl bo 1
 refine(zZ7 (t:=⟨d.σ.t.page,d.σ.t.fields,[r]⟩) ⟨(zX0 hv).page,((h.pu cI).kp0).nf,hrow⟩ (show Lim.ok d.σ.t.fields from zZJ hv)).mono ?_
 rintro e w6 ⟨rfl,bB⟩
 refine⟨_,rfl,?_,cI.trans bB⟩
 congr 2
 unfold zQf
 rw[if_pos hR.page,if_neg (by rw[hR.vf];simp),if_neg (by show ¬300<1;omega)]
 show zXw d.σ.t.fields d.σ.t.page [r]=_
 unfold zXw
 split
 ·rfl
 ·rename_i hx
  have:zQ0 d.σ.t.fields d.σ.t.page r=0:=by simpa using hx
  rw[this];rfl
def RecK(w:World)(L:SL)(s:SV)(r:Rec):Prop:=∀w2,Fr L.own w w2->zX3 w2 s r.v
theorem xQw{b:Nat}(h:b ∈ zQe L.now.r∨b ∈ vBl L.now.hs):L.own b:=.inr (.inr (.inr (.inr (.inr ⟨L.now,List.mem_cons_self,h⟩))))
theorem app_c(h:zQH X w L d 0)(hi:Inv p f d)(hs:Fit d){s:SV}{r:Rec}(hr:RecK w L s r):Calls prog 34 #[L.ptr,.agg #[.bool r.gone,slV s]] w (yXo X w L (.tuple #[.int .i64 (yYj d.σ r),.int .i64 (yJa d.σ r)]) (d.app r)):=by
 have hS:=h.S_lt
 have cM:=(zQP.of hi.t.ok).n300
 have hrl:=h.now.rlen
 refine xXV _ _ _ w _ (alB λw1 ar aB=>(zXe h ar).mono ?_)
 rintro e w2 ⟨rfl,hI,hf,hsz⟩
 have h2:=hI.at_ h
 have nJ:w.heap.size<w1.heap.size:=zQx aB
 have b2:=hf.blk aB (show ¬w.heap.size=L.S by omega)
 have stay:∀{w3:World} (c:Int),yJa d.σ r=c->c ≠ 0->Pu w2 w3->zQb prog [zXZ L] w3 λw4=>yXo X w L (.tuple #[.int .i64 (yYj d.σ r),.int .i64 (yJa d.σ r)]) (d.app r) (.returned (.tuple #[.int .i64 0,.int .i64 c])) w4:=λ{w3} c hc h0 hp=>by
  have e1:yYj d.σ r=0:=by unfold yYj;rw[if_neg (by rw[hc];exact h0)]
  have e2:d.app r=d:=by unfold Dat.app;rw[if_neg (by rw[hc];exact h0)]
  rw[e1,e2,hc]
  exact zXQ (h2.pu hp) (hI.left.trans (zZg.pu hp L))
 refine⟨_,_,rfl,zJe (Br.of (λc=>by cases c) λ_=>⟨L.now.r,h2.cellB 2 2,Br.of (λc=>?_) (λc=>?_)⟩)⟩
 ·exact stay 3 (by unfold yJa;rw[if_pos (by have:=zQk c;omega)]) (by decide) (Pu.refl _)
 have c:¬300<=d.σ.t.recs.length:=by have:=zQd c;omega
 have eC:yJa d.σ r=zQ0 d.σ.t.fields d.σ.t.page r:=by unfold yJa;rw[if_neg c]
 have jw:zX3 w2 s r.v:=hr w2 (hI.left.fr)
 refine⟨r.gone,cl b2 0,s,cl b2 1,(xKj h2 hi.t.ok jw).mono ?_⟩
 rintro e w6 ⟨rfl,bB⟩
 refine⟨_,rfl,Br.of (λc1=>stay _ eC (zQ2 c1) bB) (λc1=>?_)⟩
 have c1:zQ0 d.σ.t.fields d.σ.t.page r=0:=zQs c1
 have py:r.v.length<=1000000:=by have:=zX4 c1;have:=(zJg.of hi.t.ok).n16;omega
 refine zQc λw8 bP _=>?_
 have ip:=bB.trans bP
 have h8:=h2.pu ip
 have b8:=ip.blk b2
 refine⟨λu=>Pu w8 u,Pu.refl _,L.now.r,λu hu=>(h8.pu hu).cellB 2 2,r.gone,λu hu=>cl0 (hu.blk b8),s,λu hu=>cl (hu.blk b8) 1,(yXI (RdV.of (jw.pu ip)) py).mono ?_⟩
 rintro e aN ⟨q,rfl,hq,hqn,dk⟩
 refine⟨q,rfl,dk,alB λaV eI io=>⟨dk.trans eI,?_⟩⟩
 have sI:=dk.trans eI
 have qW:=h8.pu sI
 have hnl:∀b,(b ∈ zQe L.now.r∨b ∈ vBl L.now.hs)->b<w8.heap.size:=λb hb=>h8.own_lt (xQw hb)
 obtain⟨s',aO,hra,pz,eJ,hbk⟩:=qW.now.push (x:=r) (hq.pu eI) (λb hb hc=>by have:=hqn b hb;have:=hnl b (.inr hc);omega) io (by omega)
 refine⟨s',aO,hra,?_⟩
 have kN:=eJ.blk qW.st (qW.now.rw_.other qW.st (by decide))
 rw[zZi,zQr,zQr]
 refine zQt kN (by show 0+2+2<11;omega) λbq hw14 iE=>?_
 have oS:Fr (·=L.S) aO bq:=by rw[hw14];exact Fr.cell aO _ _ _
 have hf811:Fr (λb=>b=L.S∨b ∈ zQe L.now.r) aV bq:=(eJ.mono λb hb _=>.inr hb).trans oS λb hb _=>.inl hb
 have hT14:=pz.fr oS λb hb e=>by
  have e:b=L.S:=e
  subst e
  rcases hb with hb|hb
  ·rcases hbk _ hb with hb|hb
   ·exact qW.now.rw_.other qW.st (by decide) hb
   ·have:=qW.S_lt;omega
  ·have hb:L.S ∈ vBl (L.now.hs ++ [(r.gone,q)]):=hb
   rw[zXy,List.mem_append]at hb
   rcases hb with hb|hb
   ·exact qW.now.other qW.st (by decide) (by decide) (.inr hb)
   ·have:=hqn L.S (by simpa[vBl] using hb);have:=h8.S_lt;omega
 obtain⟨h14,hL14⟩:=h8.reNow sI hf811 (λb hb=>hb.imp id .inl) (q:={ L.now with r:=s',hs:=L.now.hs ++ [(r.gone,q)] }) (t:={ d.σ.t with recs:=d.σ.t.recs ++ [r] }) iE hT14 (λb hb=>by
  rcases hb with hb|hb
  ·rcases hbk _ hb with hb|hb
   ·exact .inl (.inl hb)
   ·exact .inr (by have:=sI.size;omega)
  ·have hb:b ∈ vBl (L.now.hs ++ [(r.gone,q)]):=hb
   rw[zXy,List.mem_append]at hb
   rcases hb with hb|hb
   ·exact .inl (.inr hb)
   ·exact .inr (hqn b (by simpa[vBl] using hb))) rfl rfl
 have hLall:zZg w bq L { L with now:={ L.now with r:=s',hs:=L.now.hs ++ [(r.gone,q)] } }:=(hI.left.trans (zZg.pu ip L)).trans hL14
 have hW:=zJB (l:=d.σ.t.recs ++ [r]) hi (by rw[List.length_append,List.length_singleton];omega) (by rw[List.length_append];omega) λx hx=>by
  rcases List.mem_append.1 hx with hx|hx
  ·exact hi.recR x hx
  ·rw[List.mem_singleton.1 hx,←hi.t.fields,←hi.t.page];exact c1
 refine(yXE h14 hLall hW ⟨hs.l1,hs.l2,hs.wn,hs.dn⟩).mono ?_
 rintro e bp ⟨rfl,L2,sJ,ka⟩
 have eA:d.app r=d.recs (d.σ.t.recs ++ [r]):=by unfold Dat.app;rw[if_pos (by rw[eC];exact c1)]
 have eN:yYj d.σ r=(d.σ.t.recs.length:Int)+1:=by unfold yYj;rw[if_pos (by rw[eC];exact c1)]
 have hlen:L2.now.r.len=d.σ.t.recs.length+1:=by
  rw[sJ.now.rlen,Dat.commit_σ]
  unfold zZy
  split <;> simp[Dat.to]
 rw[←ka.ptr]
 refine⟨rfl,L2.now.r,sJ.cellB 2 2,?_⟩
 rw[eA,eN,eC,c1,show((L2.now.r.len:Nat):Int)=(d.σ.t.recs.length:Int)+1 by omega]
 exact zZa (v:=.tuple #[.int .i64 ((d.σ.t.recs.length:Int)+1),.int .i64 0]) sJ ka ka.ptr.symm
end Go.Proofs.YtaeecpjhfmcliaaGreatDoor
/- The log: how the reference's store lies in memory. No condition but those stated. -/
namespace Go.Proofs.YtaeecpjhfmcliaaGreatDoor
open Go.Sh Go.RowKit Tryz
variable {w0 w w' : World} {X : Nat -> Prop}
structure RL where
 S:Nat
 t:HT
 cm:SV
 ch:List HT
 op:SV
 oh:List HT
def refC(R:RL):Array Value:=#[.int .i64 R.t.page,slV R.t.f,slV R.t.r,slV R.cm,slV R.op]
def RL.own(R:RL)(b:Nat):Prop:=b=R.S∨b ∈ zQe R.cm∨b ∈ zQe R.op
abbrev RL.ptr(R:RL):Value:=.pointer (some ⟨R.S,0,none⟩)
def kQ4(w:World)(h:HT)(t:Tbl):Prop:=h.page=t.page/\zX2 w t h.f h.r
structure RKp(w:World)(R:RL)(σ:Sto):Prop where
 t:kQ4 w R.t σ.t
 ch:∀(i:Nat) h t,R.ch[i]?=some h->σ.done[i]?=some t->kQ4 w h t
 oh:∀(i:Nat) h t,R.oh[i]?=some h->σ.lev[i]?=some t->kQ4 w h t
structure zQO(X:Nat->Prop)(w:World)(R:RL)(σ:Sto):Prop where
 st:w.heap[R.S]?=some (.cells (refC R) 115)
 cm:zQl w 35 3 R.cm (R.ch.flatMap zVE)
 op:zQl w 35 3 R.op (R.oh.flatMap zVE)
 cln:R.ch.length=σ.done.length
 oln:R.oh.length=σ.lev.length
 dj:∀b ∈ zQe R.cm,b ∉ zQe R.op
 xl:∀b,X b->b<w.heap.size
 kp:∀w2,Fr (λb=>R.own b∨X b) w w2->RKp w2 R σ
variable {R R' : RL} {σ σ' : Sto}
theorem zQO.kp0(h:zQO X w R σ):RKp w R σ:=h.kp w (Fr.refl _ _)
theorem zQO.own_lt(h:zQO X w R σ){b:Nat}(hb:R.own b):b<w.heap.size:=by
 rcases hb with rfl|hb|hb
 ·exact zQx h.st
 ·exact h.cm.lt b hb
 ·exact h.op.lt b hb
theorem zQO.S_lt(h:zQO X w R σ):R.S<w.heap.size:=h.own_lt (.inl rfl)
theorem zQO.fr{B:Nat->Prop}(h:zQO X w R σ)(hf:Fr B w w')(hn:∀b,R.own b->¬B b)(hx:∀b,B b->b<w.heap.size->X b):zQO X w' R σ where
 st:=hf.blk h.st (hn _ (.inl rfl))
 cm:=h.cm.fr hf λb hb=>hn b (.inr (.inl hb))
 op:=h.op.fr hf λb hb=>hn b (.inr (.inr hb))
 cln:=h.cln
 oln:=h.oln
 dj:=h.dj
 xl:=λb hb=>Nat.lt_of_lt_of_le (h.xl b hb) hf.size
 kp:=λw2 h2=>h.kp w2 ((hf.mono λb hb hlt=>.inr (hx b hb hlt)).trans h2 λb hb _=>hb)
theorem zQO.pu(h:zQO X w R σ)(hp:Pu w w'):zQO X w' R σ:=h.fr (Fr.pu hp:Fr (λ_=>False) w w') (λ_ _ h=>h) (λ_ h=>h.elim)
theorem zQO.cell(h:zQO X w R σ)(o:Nat):w.cell? ((⟨R.S,0,none⟩:Addr).add o)=(refC R)[o]?:=by rw[zQr,Nat.zero_add];exact zQI h.st o
theorem zQO.cell0(h:zQO X w R σ):w.cell? (⟨R.S,0,none⟩:Addr)=some (.int .i64 R.t.page):=zQI h.st 0
structure zXu(w w':World)(R R':RL):Prop where
 fr:Fr R.own w w'
 own:∀b,R'.own b->R.own b∨w.heap.size<=b
 ptr:R'.S=R.S
theorem zXu.refl(w:World)(R:RL):zXu w w R R:=⟨Fr.refl _ _,λ_ h=>.inl h,rfl⟩
theorem zXu.pu(hp:Pu w w')(R:RL):zXu w w' R R:=⟨Fr.pu hp,λ_ h=>.inl h,rfl⟩
theorem zXu.trans{w'':World}{R'':RL}(h:zXu w w' R R')(k:zXu w' w'' R' R''):zXu w w'' R R'':=by
 refine⟨h.fr.trans k.fr λb hb hlt=>(h.own b hb).resolve_right (by omega),λb hb=>?_,k.ptr.trans h.ptr⟩
 rcases k.own b hb with h1|h1
 ·exact h.own b h1
 ·exact .inr (Nat.le_trans h.fr.size h1)
theorem zXu.keep {Q:World->Prop} (h:zXu w w' R R') (hq:∀w2,Fr (λb=>R.own b∨X b) w w2->Q w2) (hxl:∀b,X b->b<w.heap.size):∀w2,Fr (λb=>R'.own b∨X b) w' w2->Q w2:=λw2 h2=>
 hq w2 ((h.fr.mono λb hb _=>.inl hb).trans h2 λb hb hlt=>by
  rcases hb with hb|hb
  ·exact .inl ((h.own b hb).resolve_right (by omega))
  ·exact .inr hb)
def zJD(X:Nat->Prop)(w:World)(R:RL)(v:Value)(σ':Sto):Rt:=λe w'=>e=.returned v/\∃R',zQO X w' R' σ'/\zXu w w' R R'
theorem zJd.keepR{t:Tbl}{f r:SV}(ho:zJd w0 w t f r)(hv:zQf t=0)(hro:∀b,R.own b->b<w0.heap.size)(hx:∀b,X b->b<w0.heap.size):∀w2,Fr (λb=>R.own b∨X b) w w2->zX2 w2 t f r:=λw2 h2=>by
 have nb:∀k,w0.heap.size<=k->¬(R.own k∨X k):=λk hk e=>e.elim (λe=>by have:=hro k e;omega) (λe=>by have:=hx k e;omega)
 refine zJd.rd (w0:=w0) ⟨ho.fs.fr h2 λk hk=>nb k (ho.fs.2 k hk),?_⟩ (zX0 hv)
 obtain⟨qs,k1,k2,k3,k4⟩:=ho.rs
 exact⟨qs,k1.fr h2 λk hk=>nb k (k2 k hk),k2,k3,λi r x hr hx=>⟨(k4 i r x hr hx).1,(k4 i r x hr hx).2.fr h2 λk hk=>nb k ((k4 i r x hr hx).2.2 k hk)⟩⟩
theorem zQO.pushC (h:zQO X w R σ) {q:HT} {t:Tbl} (hp:q.page=t.page) (hq:∀w2,Fr (λb=>R.own b∨X b) w w2->zX2 w2 t q.f q.r) {r:Nat} (hr:w.heap[r]?=some (.cells (zVE q).toArray 35)) (hn:σ.done.length<=1000000)
  {K:World->Prop} (hK:∀w' R',zQO X w' R' { σ with done:=σ.done ++ [t] }->zXu w w' R R'->K w') :
  ∃s:SV,∃w1:World,(Builtin.append_ #[106,106] 106 #[slV R.cm,.slice (some ⟨r,0,none⟩) 1 1]).run prog w=.ok (slV s) w1/\st1 ((⟨R.S,0,none⟩:Addr).add 3) (slV s) w1 K:=by
 have hl:=h.cm.len zQv (by decide)
 have hcl:=h.cln
 obtain⟨s,w1,hra,hrow,d8,hblk,hsl⟩:=zQy (P:=prog) (ty:=106) xJs vi35 rfl (by decide) h.cm (A:=some ⟨r,0,none⟩) (m:=1) (c:=1) (news:=zVE q) rfl (λj u hu=>⟨_,rfl,by rw[cl hr];simpa using hu⟩) (λu hu=>by simp[zVE]at hu;rcases hu with rfl|rfl|rfl <;> rfl) (by show(R.cm.len+1) * (56+1)<=_;omega)
 refine⟨s,w1,hra,?_⟩
 have hnS:R.S ∉ zQe R.cm:=h.cm.other h.st (by decide)
 have sE:=d8.blk h.st hnS
 rw[zQr,Nat.zero_add]
 refine zQt sE (by show 3<5;omega) λw2 nA aM=>?_
 have fY:Fr (·=R.S) w1 w2:=by rw[nA];exact Fr.cell w1 _ _ _
 have hf:Fr (λb=>b=R.S∨b ∈ zQe R.cm) w w2:=(d8.mono λb hb _=>.inr hb).trans fY λb hb _=>.inl hb
 have hsn:∀b ∈ zQe s,b ≠ R.S:=λb hb e=>by
  rcases hblk b hb with h1|h1
  ·exact hnS (by rw[←e];exact h1)
  ·have:=zQx h.st;omega
 have oT:zQl w2 35 3 s ((R.ch ++ [q]).flatMap zVE):=by
  rw[List.flatMap_append,List.flatMap_singleton]
  exact hrow.fr fY λb hb e=>hsn b hb e
 have hleft:zXu w w2 R { R with cm:=s,ch:=R.ch ++ [q] }:=by
  refine⟨hf.mono λb hb _=>hb.elim .inl λhb=>.inr (.inl hb),λb hb=>?_,rfl⟩
  rcases hb with hb|hb|hb
  ·exact .inl (.inl hb)
  ·rcases hblk b hb with h1|h1
   ·exact .inl (.inr (.inl h1))
   ·exact .inr h1
  ·exact .inl (.inr (.inr hb))
 refine hK w2 { R with cm:=s,ch:=R.ch ++ [q] } ⟨aM,oT,h.op.fr hf λb hb hx=>?_,by simp[hcl],h.oln,λb hb hx=>?_,λb hb=>Nat.lt_of_lt_of_le (h.xl b hb) hf.size,λw3 h3=>?_⟩ hleft
 ·rcases hx with rfl|hx
  ·exact h.op.other h.st (by decide) hb
  ·exact h.dj b hx hb
 ·rcases hblk b hb with h1|h1
  ·exact h.dj b h1 hx
  ·have hx:b ∈ zQe R.op:=hx
   have:=h.op.lt b hx;omega
 ·obtain⟨a1,a2,a3⟩:=hleft.keep (X:=X) h.kp h.xl w3 h3
  refine⟨a1,λi x u hx hu=>?_,a3⟩
  have hx:(R.ch ++ [q])[i]?=some x:=hx
  have hu:(σ.done ++ [t])[i]?=some u:=hu
  rcases Nat.lt_trichotomy i σ.done.length with hi|hi|hi
  ·rw[List.getElem?_append_left (by omega)]at hx hu
   exact a2 i x u hx hu
  ·rw[List.getElem?_append_right (by omega),hcl,hi,Nat.sub_self]at hx
   rw[List.getElem?_append_right (by omega),hi,Nat.sub_self]at hu
   simp at hx hu;subst hx hu
   exact⟨hp,hleft.keep (X:=X) hq h.xl w3 h3⟩
  ·rw[List.getElem?_eq_none (by rw[List.length_append,List.length_singleton];omega)]at hu;cases hu
theorem zQO.pushO (h:zQO X w R σ) {q:HT} {t:Tbl} (hp:q.page=t.page) (hq:∀w2,Fr (λb=>R.own b∨X b) w w2->zX2 w2 t q.f q.r) {r:Nat} (hr:w.heap[r]?=some (.cells (zVE q).toArray 35)) (hn:σ.lev.length<=1000000)
  {K:World->Prop} (hK:∀w' R',zQO X w' R' { σ with lev:=σ.lev ++ [t] }->zXu w w' R R'->K w') :
  ∃s:SV,∃w1:World,(Builtin.append_ #[106,106] 106 #[slV R.op,.slice (some ⟨r,0,none⟩) 1 1]).run prog w=.ok (slV s) w1/\st1 ((⟨R.S,0,none⟩:Addr).add 4) (slV s) w1 K:=by
 have hl:=h.op.len zQv (by decide)
 have hcl:=h.oln
 obtain⟨s,w1,hra,hrow,d8,hblk,hsl⟩:=zQy (P:=prog) (ty:=106) xJs vi35 rfl (by decide) h.op (A:=some ⟨r,0,none⟩) (m:=1) (c:=1) (news:=zVE q) rfl (λj u hu=>⟨_,rfl,by rw[cl hr];simpa using hu⟩) (λu hu=>by simp[zVE]at hu;rcases hu with rfl|rfl|rfl <;> rfl) (by show(R.op.len+1) * (56+1)<=_;omega)
 refine⟨s,w1,hra,?_⟩
 have hnS:R.S ∉ zQe R.op:=h.op.other h.st (by decide)
 have sE:=d8.blk h.st hnS
 rw[zQr,Nat.zero_add]
 refine zQt sE (by show 4<5;omega) λw2 nA aM=>?_
 have fY:Fr (·=R.S) w1 w2:=by rw[nA];exact Fr.cell w1 _ _ _
 have hf:Fr (λb=>b=R.S∨b ∈ zQe R.op) w w2:=(d8.mono λb hb _=>.inr hb).trans fY λb hb _=>.inl hb
 have hsn:∀b ∈ zQe s,b ≠ R.S:=λb hb e=>by
  rcases hblk b hb with h1|h1
  ·exact hnS (by rw[←e];exact h1)
  ·have:=zQx h.st;omega
 have oT:zQl w2 35 3 s ((R.oh ++ [q]).flatMap zVE):=by
  rw[List.flatMap_append,List.flatMap_singleton]
  exact hrow.fr fY λb hb e=>hsn b hb e
 have hleft:zXu w w2 R { R with op:=s,oh:=R.oh ++ [q] }:=by
  refine⟨hf.mono λb hb _=>hb.elim .inl λhb=>.inr (.inr hb),λb hb=>?_,rfl⟩
  rcases hb with hb|hb|hb
  ·exact .inl (.inl hb)
  ·exact .inl (.inr (.inl hb))
  ·rcases hblk b hb with h1|h1
   ·exact .inl (.inr (.inr h1))
   ·exact .inr h1
 refine hK w2 { R with op:=s,oh:=R.oh ++ [q] } ⟨aM,h.cm.fr hf λb hb hx=>?_,oT,h.cln,by simp[hcl],λb hb hx=>?_,λb hb=>Nat.lt_of_lt_of_le (h.xl b hb) hf.size,λw3 h3=>?_⟩ hleft
 ·rcases hx with rfl|hx
  ·exact h.cm.other h.st (by decide) hb
  ·exact h.dj b hb hx
 ·rcases hblk b hx with h1|h1
  ·exact h.dj b hb h1
  ·have hb:b ∈ zQe R.cm:=hb
   have:=h.cm.lt b hb;omega
 ·obtain⟨a1,a2,a3⟩:=hleft.keep (X:=X) h.kp h.xl w3 h3
  refine⟨a1,a2,λi x u hx hu=>?_⟩
  have hx:(R.oh ++ [q])[i]?=some x:=hx
  have hu:(σ.lev ++ [t])[i]?=some u:=hu
  rcases Nat.lt_trichotomy i σ.lev.length with hi|hi|hi
  ·rw[List.getElem?_append_left (by omega)]at hx hu
   exact a3 i x u hx hu
  ·rw[List.getElem?_append_right (by omega),hcl,hi,Nat.sub_self]at hx
   rw[List.getElem?_append_right (by omega),hi,Nat.sub_self]at hu
   simp at hx hu;subst hx hu
   exact⟨hp,hleft.keep (X:=X) hq h.xl w3 h3⟩
  ·rw[List.getElem?_eq_none (by rw[List.length_append,List.length_singleton];omega)]at hu;cases hu
theorem zQO.reT (h:zQO X w R σ) (hf:Fr (·=R.S) w w') {q:HT} {t:Tbl} (hst:w'.heap[R.S]?=some (.cells (refC { R with t:=q }) 115)) (hq:∀w2,Fr (λb=>R.own b∨X b) w w2->kQ4 w2 q t):zQO X w' { R with t:=q } { σ with t:=t }:=by
 refine⟨hst,h.cm.fr hf λb hb e=>h.cm.other h.st (by decide) (by rw[←show b=R.S from e];exact hb),h.op.fr hf λb hb e=>h.op.other h.st (by decide) (by rw[←show b=R.S from e];exact hb),h.cln,h.oln,h.dj,λb hb=>Nat.lt_of_lt_of_le (h.xl b hb) hf.size,λw2 h2=>?_⟩
 have h3:Fr (λb=>R.own b∨X b) w w2:=(hf.mono λb hb _=>.inl (.inl hb)).trans h2 λb hb _=>hb
 exact⟨hq w2 h3,(h.kp w2 h3).ch,(h.kp w2 h3).oh⟩
theorem zQO.setT (h:zQO X w R σ) {q:HT} {t:Tbl} (hq:∀w2,Fr (λb=>R.own b∨X b) w w2->kQ4 w2 q t) {K:World->Prop} (hK:∀w',zQO X w' { R with t:=q } { σ with t:=t }->zXu w w' R { R with t:=q }->K w') :
  stA prog 35 (⟨R.S,0,none⟩:Addr) #[.int .i64 q.page,slV q.f,slV q.r] w K:=by
 refine⟨zKW.symm,rfl,?_⟩
 show Sh.st1 ((⟨R.S,0,none⟩:Addr).add 0) _ w _
 rw[zQr]
 refine zQt h.st (by show 0+0<5;omega) λwa hwa hba=>?_
 show Sh.st1 ((⟨R.S,0,none⟩:Addr).add 1) _ wa _
 rw[zQr]
 refine zQt hba (by show 0+1<5;omega) λwb hwb hbb=>?_
 show Sh.st1 ((⟨R.S,0,none⟩:Addr).add 2) _ wb _
 rw[zQr]
 refine zQt hbb (by show 0+2<5;omega) λwc hwc hbc=>?_
 have hf:Fr (·=R.S) w wc:=by
  rw[hwc,hwb,hwa]
  exact((Fr.cell w _ _ _).trans (Fr.cell _ _ _ _) λ_ h _=>h).trans (Fr.cell _ _ _ _) λ_ h _=>h
 exact hK wc (h.reT hf hbc hq) ⟨hf.mono λb hb _=>.inl hb,λ_ h=>.inl h,rfl⟩
theorem zQO.popO (h:zQO X w R σ) {l0:List HT} {x:HT} {v0:List Tbl} {t:Tbl} (hoh:R.oh=l0 ++ [x]) (hlev:σ.lev=v0 ++ [t]) {K:World->Prop} (hK:∀w' R',zQO X w' R' { σ with lev:=v0 }->zXu w w' R R'->R'.t=R.t->K w') :
  st1 ((⟨R.S,0,none⟩:Addr).add 4) (.slice R.op.a (R.op.len - 1) R.op.cap) w K:=by
 have hl:=h.op.len zQv (by decide)
 have hll:R.oh.length=l0.length+1:=by rw[hoh];simp
 have hol:=h.oln
 have hlv:σ.lev.length=v0.length+1:=by rw[hlev];simp
 have ha:R.op.a ≠ none:=by
  obtain⟨_,hd|⟨g,cur,h3,_⟩⟩:=h.op
  ·rw[hd]at hl
   have hl:0=R.oh.length:=hl
   omega
  ·rw[h3];simp
 have hrow:zQl w 35 3 ⟨R.op.a,R.op.len - 1,R.op.cap⟩ (l0.flatMap zVE):=by
  have h1:=yZ9 h.op (n:=R.op.len - 1) (by omega) ha
  rw[hoh,List.flatMap_append,show R.op.len - 1=l0.length by omega]at h1
  have e:(l0.flatMap zVE).length=l0.length * 3:=zQ4 zQv l0
  rw[←e,List.take_left]at h1
  rw[show R.op.len - 1=l0.length by omega]
  exact h1
 rw[zQr,Nat.zero_add]
 refine zQt h.st (by show 4<5;omega) λw2 nA aM=>?_
 have hf:Fr (·=R.S) w w2:=by rw[nA];exact Fr.cell w _ _ _
 have hleft:zXu w w2 R { R with op:=⟨R.op.a,R.op.len - 1,R.op.cap⟩,oh:=l0 }:=⟨hf.mono λb hb _=>.inl hb,λb hb=>.inl hb,rfl⟩
 refine hK w2 { R with op:=⟨R.op.a,R.op.len - 1,R.op.cap⟩,oh:=l0 } ⟨aM,h.cm.fr hf λb hb e=>h.cm.other h.st (by decide) (by rw[←show b=R.S from e];exact hb),hrow.fr hf λb hb e=>hrow.other h.st (by decide) (by rw[←show b=R.S from e];exact hb),h.cln,by show l0.length=v0.length;omega,h.dj,λb hb=>Nat.lt_of_lt_of_le (h.xl b hb) hf.size,λw3 h3=>?_⟩ hleft rfl
 obtain⟨a1,a2,a3⟩:=hleft.keep (X:=X) h.kp h.xl w3 h3
 refine⟨a1,a2,λi y u hy hu=>a3 i y u ?_ ?_⟩
 ·have hy:l0[i]?=some y:=hy
  rw[hoh,List.getElem?_append_left (List.getElem?_eq_some_iff.1 hy).1];exact hy
 ·have hu:v0[i]?=some u:=hu
  rw[hlev,List.getElem?_append_left (List.getElem?_eq_some_iff.1 hu).1];exact hu
theorem zQO.lastC (h:zQO X w R σ) (hne:σ.done ≠ []) (hn:σ.done.length<=1000000):∃x a,R.cm.a=some a/\R.cm.len=σ.done.length/\0<R.cm.len/\IntKind.i64.wrap (((R.cm.len:Nat):Int) - 1)=((R.cm.len - 1:Nat):Int)/\
  w.cell? ((a.add ((R.cm.len - 1) * 3)).add 0)=some (.int .i64 x.page)/\w.cell? ((a.add ((R.cm.len - 1) * 3)).add 1)=some (slV x.f)/\w.cell? ((a.add ((R.cm.len - 1) * 3)).add 2)=some (slV x.r)/\kQ4 w x σ.last:=by
 have hl:=h.cm.len zQv (by decide)
 have hcl:=h.cln
 have hpos:0<σ.done.length:=List.length_pos_iff.2 hne
 obtain⟨x,hx⟩:=zQM (l:=R.ch) (k:=R.cm.len - 1) (by omega)
 obtain⟨a,ha,hk,c0⟩:=h.cm.elem zQv hx (o:=0) rfl
 obtain⟨a',ha',_,c1⟩:=h.cm.elem zQv hx (o:=1) rfl
 obtain⟨a'',ha'',_,c2⟩:=h.cm.elem zQv hx (o:=2) rfl
 rw[ha]at ha' ha'';cases ha';cases ha''
 refine⟨x,a,ha,by omega,by omega,by rw[zQa (by omega) (by omega)];omega,c0,c1,c2,h.kp0.ch _ x _ hx ?_⟩
 have h1:=zZD hne
 rw[List.getLast?_eq_getElem?]at h1
 rw[show R.cm.len - 1=σ.done.length - 1 by omega];exact h1
end Go.Proofs.YtaeecpjhfmcliaaGreatDoor
/- The log: what the reference's store does, without its records' methods. No condition but those stated. -/
namespace Go.Proofs.YtaeecpjhfmcliaaGreatDoor
open Go.Sh Go.RowKit Tryz
variable {w0 w w' : World} {X : Nat -> Prop} {R R' : RL} {σ σ' : Sto}
theorem zXu.toPtr(h:zXu w w' R R'):R.ptr=R'.ptr:=by unfold RL.ptr;rw[h.ptr]
def NewRf(X:Nat->Prop)(w w':World)(p:Option Addr)(σ:Sto):Prop:=∃R:RL,p=some ⟨R.S,0,none⟩/\zQO X w' R σ/\∀b,R.own b->w.heap.size<=b
theorem xQa{t:Tbl}{f r:SV}(h:zX2 w t f r)(hX:∀b,X b->b<w.heap.size) :
  Calls prog 42 #[zVb t f r] w λe w'=>Pu w w'/\((zQf t ≠ 0/\e=.returned (.tuple #[.pointer none,.int .i64 (zQf t)]))∨zQf t=0/\∃p,e=.returned (.tuple #[.pointer p,.int .i64 0])/\NewRf X w w' p (Sto.new t)):=by
 refine xQl _ _ _ w _ (alB λw1 ar aB=>⟨_,cl aB 0,f,cl aB 1,r,cl aB 2,(yJs (h.pu ar)).mono ?_⟩)
 rintro e w2 ⟨rfl,aq⟩
 have aG:=ar.trans aq
 have cP:=aq.blk aB
 refine⟨_,rfl,Br.of (λc=>⟨aG,.inl ⟨zQ2 c,rfl⟩⟩) (λc=>zQc λw4 aK _=>?_)⟩
 have hv:zQf t=0:=zQs c
 have bQ:=aG.trans aK
 have iB:=aK.blk cP
 refine⟨λu=>Pu w4 u,Pu.refl _,_,λu hu=>cl (hu.blk iB) 0,f,λu hu=>cl (hu.blk iB) 1,r,λu hu=>cl (hu.blk iB) 2,_,λu hu=>cl (hu.blk iB) 0,f,λu hu=>cl (hu.blk iB) 1,r,λu hu=>cl (hu.blk iB) 2,(zVn (h.pu bQ) hv).mono ?_⟩
 rintro e w5 ⟨f1,r1,rfl,hO1,aR⟩
 refine⟨_,f1,r1,rfl,aR,(zVn (h.pu (bQ.trans aR)) hv).mono ?_⟩
 rintro e w6 ⟨f2,r2,rfl,hO2,bB⟩
 refine⟨_,f2,r2,rfl,alB λw7 cv j8=>alB λw8 bP j9=>?_⟩
 have pq:=((aR.trans bB).trans cv).trans bP
 have dP:=bQ.trans pq
 have z4:=bQ.size
 have z5:=aR.size
 have z6:=bB.size
 have lt6:w6.heap.size<w7.heap.size:=zQx j8
 have lt7:w7.heap.size<w8.heap.size:=zQx j9
 have hO1':zJd w4 w8 t f1 r1:=((hO1.pu bB).pu cv).pu bP
 have hO2':zJd w5 w8 t f2 r2:=(hO2.pu cv).pu bP
 obtain⟨R,hR⟩:∃R:RL,R=⟨w7.heap.size,⟨t.page,f1,r1,[]⟩,⟨some ⟨w6.heap.size,0,none⟩,1,1⟩,[⟨t.page,f2,r2,[]⟩],⟨none,0,0⟩,[]⟩:=⟨_,rfl⟩
 have own:∀b,R.own b->b=w7.heap.size∨b=w6.heap.size:=λb hb=>by
  rw[hR]at hb
  rcases hb with hb|hb|hb
  ·exact .inl hb
  ·simp[zQe]at hb;exact .inr hb
  ·simp[zQe]at hb
 have keep:∀{wz:World} {f r:SV},w4.heap.size<=wz.heap.size->wz.heap.size<=w6.heap.size->zJd wz w8 t f r->(∀b,b=w7.heap.size∨b=w6.heap.size->¬(b ∈ zQe f))->True:=λ_ _ _ _=>trivial
 have kp:∀{wz:World} {f r:SV},w.heap.size<=wz.heap.size->zJd wz w6 t f r->∀w3,Fr (λb=>R.own b∨X b) w8 w3->zX2 w3 t f r:=λ{wz f r} hz ho w3 h3=>by
  have hf:Fr (λb=>X b∨w6.heap.size<=b) w6 w3:=((Fr.pu (cv.trans bP):Fr (λb=>X b∨w6.heap.size<=b) w6 w8)).trans h3 λb hb _=>hb.elim (λhb=>by rcases own b hb with rfl|rfl <;> exact .inr (by omega)) .inl
  have nb:∀k,wz.heap.size<=k->k<w6.heap.size->¬(X k∨w6.heap.size<=k):=λk hk hlt e=>e.elim (λe=>by have:=hX k e;omega) (λe=>by omega)
  refine zJd.rd (w0:=wz) ⟨ho.fs.fr hf λk hk=>nb k (ho.fs.2 k hk) (ho.fs.1.lt k hk),?_⟩ (zX0 hv)
  obtain⟨qs,k1,k2,k3,k4⟩:=ho.rs
  exact⟨qs,k1.fr hf λk hk=>nb k (k2 k hk) (k1.lt k hk),k2,k3,λi r x hr hx=>⟨(k4 i r x hr hx).1,(k4 i r x hr hx).2.fr hf λk hk=>nb k ((k4 i r x hr hx).2.2 k hk) ((k4 i r x hr hx).2.1.lt k hk)⟩⟩
 refine⟨dP,.inr ⟨hv,_,rfl,R,by rw[hR],⟨?_,?_,?_,?_,?_,?_,λb hb=>Nat.lt_of_lt_of_le (hX b hb) dP.size,λw3 h3=>?_⟩,λb hb=>by rcases own b hb with rfl|rfl <;> omega⟩⟩
 ·rw[hR];exact j9
 ·rw[hR];exact⟨rfl,.inr ⟨_,_,rfl,bP.blk j8,Nat.le_refl _,by show 1<=maxLen;unfold maxLen;omega,rfl,rfl⟩⟩
 ·rw[hR];exact zQl.nil _ _ _
 ·rw[hR];rfl
 ·rw[hR];rfl
 ·rw[hR];intro b hb;simp[zQe]
 ·have k1:=kp (by omega) (hO1.pu bB) w3 h3
  have k2:=kp (by omega) hO2 w3 h3
  rw[hR]
  refine⟨⟨rfl,k1⟩,λi x u hx hu=>?_,λi x u hx hu=>by simp at hx⟩
  rcases i with _|i
  ·simp[Sto.new]at hx hu;subst hx hu;exact⟨rfl,k2⟩
  ·simp at hx
theorem yXR (h:zQO X w R σ) (hv:zQf σ.t=0) (hne:σ.done ≠ []) (hn:σ.done.length<=1000000):Calls prog 99 #[R.ptr] w (zJD X w R (.tuple #[]) (zZy σ)):=by
 have hol:=h.op.len zQv (by decide)
 have holn:=h.oln
 refine yYn _ w _ (zQc λw1 ar _=>?_)
 have h1:=h.pu ar
 refine⟨R.op,h1.cell 4,Br.of (λc=>?_) (λc=>?_)⟩
 ·have c:R.op.len=0:=by simpa using c
  have hlev:σ.lev=[]:=List.eq_nil_of_length_eq_zero (by omega)
  obtain⟨x,a,ha,hcl,hpos,hwr,c0,c1,c2,hK⟩:=h1.lastC hne hn
  refine⟨R.t.page,h1.cell 0,R.t.f,h1.cell 1,R.t.r,h1.cell 2,R.cm,h1.cell 3,R.cm,h1.cell 3,a,ha,?_⟩
  rw[hwr,zXj]
  refine⟨by omega,by omega,x.page,c0,x.f,c1,x.r,c2,?_⟩
  rw[hK.1,h1.kp0.t.1]
  refine(zVm h1.kp0.t.2 hK.2).mono ?_
  rintro e w7 ⟨rfl,cv⟩
  refine⟨_,rfl,Br.of (λc1=>?_) (λc1=>?_)⟩
  ·have c1:σ.t ≠ σ.last:=by simpa using c1
   have eC:zZy σ={ σ with done:=σ.done ++ [σ.t] }:=by unfold zZy;rw[if_pos ⟨hlev,c1⟩]
   refine zQc λw8 bP _=>?_
   have dP:=(ar.trans cv).trans bP
   have h8:=h.pu dP
   refine⟨λu=>Pu w8 u,Pu.refl _,R.cm,λu hu=>(h8.pu hu).cell 3,R.t.page,λu hu=>(h8.pu hu).cell 0,R.t.f,λu hu=>(h8.pu hu).cell 1,R.t.r,λu hu=>(h8.pu hu).cell 2,?_⟩
   rw[h8.kp0.t.1]
   refine(zVn h8.kp0.t.2 hv).mono ?_
   rintro e aV ⟨f,r,rfl,hO,eI⟩
   refine⟨_,f,r,rfl,eI,alB λaO dO ln=>⟨eI.trans dO,?_⟩⟩
   have xe:=eI.trans dO
   refine(h8.pu xe).pushC (q:=⟨σ.t.page,f,r,[]⟩) (t:=σ.t) rfl ((hO.pu dO).keepR hv (λb hb=>h8.own_lt hb) h8.xl) ln hn λw2 R2 h2 qJ=>?_
   rw[eC]
   exact⟨rfl,R2,h2,(zXu.pu (dP.trans xe) R).trans qJ⟩
  ·have c1:σ.t=σ.last:=by simpa using c1
   have eC:zZy σ=σ:=by unfold zZy;rw[if_neg (λe=>e.2 c1)]
   rw[eC]
   exact⟨rfl,R,h.pu (ar.trans cv),zXu.pu (ar.trans cv) R⟩
 ·have c:¬R.op.len=0:=by simpa using c
  have eC:zZy σ=σ:=by unfold zZy;rw[if_neg (λe=>by rw[e.1]at holn;simp at holn;rw[holn]at hol;simp at hol;exact c hol)]
  rw[eC]
  exact⟨rfl,R,h1,zXu.pu ar R⟩
theorem xZN(h:zQO X w R σ)(hv:zQf σ.t=0):Calls prog 59 #[R.ptr] w (zJD X w R (.int .i64 (zKd σ)) (zZZ σ)):=by
 have hol:=h.op.len zQv (by decide)
 have holn:=h.oln
 refine xZq _ w _ ⟨R.op,h.cell 4,Br.of (λc=>?_) (λc=>?_)⟩
 ·have c:8<=σ.lev.length:=by have:=zQk c;omega
  have e1:zKd σ=3:=by unfold zKd;rw[if_pos c]
  have e2:zZZ σ=σ:=by unfold zZZ;rw[if_pos c]
  rw[e1,e2]
  exact⟨rfl,R,h,zXu.refl w R⟩
 ·have c:¬8<=σ.lev.length:=by have:=zQd c;omega
  have e1:zKd σ=0:=by unfold zKd;rw[if_neg c]
  have e2:zZZ σ={ σ with lev:=σ.lev ++ [σ.t] }:=by unfold zZZ;rw[if_neg c]
  rw[e1,e2]
  refine zQc λw3 au _=>?_
  have h3:=h.pu au
  refine⟨λu=>Pu w3 u,Pu.refl _,R.op,λu hu=>(h3.pu hu).cell 4,R.t.page,λu hu=>(h3.pu hu).cell 0,R.t.f,λu hu=>(h3.pu hu).cell 1,R.t.r,λu hu=>(h3.pu hu).cell 2,?_⟩
  rw[h3.kp0.t.1]
  refine(zVn h3.kp0.t.2 hv).mono ?_
  rintro e w6 ⟨f,r,rfl,hO,bB⟩
  refine⟨_,f,r,rfl,bB,alB λw7 cv j8=>⟨bB.trans cv,?_⟩⟩
  have hp37:=bB.trans cv
  refine(h3.pu hp37).pushO (q:=⟨σ.t.page,f,r,[]⟩) (t:=σ.t) rfl ((hO.pu cv).keepR hv (λb hb=>h3.own_lt hb) h3.xl) j8 (by omega) λw2 R2 h2 qJ=>?_
  exact⟨rfl,R2,h2,(zXu.pu (au.trans hp37) R).trans qJ⟩
theorem zYp (h:zQO X w R σ) (hn:σ.lev.length<=1000000) (hne:σ.lev ≠ []):∃l0 x v0 t a,R.oh=l0 ++ [x]/\σ.lev=v0 ++ [t]/\R.op.a=some a/\0<R.op.len/\R.op.len<=R.op.cap/\IntKind.i64.wrap (((R.op.len:Nat):Int) - 1)=((R.op.len - 1:Nat):Int)/\
  w.cell? ((a.add ((R.op.len - 1) * 3)).add 0)=some (.int .i64 x.page)/\w.cell? ((a.add ((R.op.len - 1) * 3)).add 1)=some (slV x.f)/\w.cell? ((a.add ((R.op.len - 1) * 3)).add 2)=some (slV x.r)/\(∀w2,Fr (λb=>R.own b∨X b) w w2->kQ4 w2 x t)/\
  (.slice (if R.op.cap=0 then R.op.a else R.op.a.map (λx=>x.add (0 * 3))) (R.op.len - 1 - 0) (R.op.cap - 0):Value)=.slice R.op.a (R.op.len - 1) R.op.cap:=by
 have hol:=h.op.len zQv (by decide)
 have holn:=h.oln
 have hpos:0<σ.lev.length:=List.length_pos_iff.2 hne
 obtain⟨l0,x,hoh⟩:=yXn (l:=R.oh) (λe=>by rw[e]at holn;simp at holn;omega)
 obtain⟨v0,t,hlev⟩:=yXn hne
 have xg:R.oh.length=l0.length+1:=by rw[hoh];simp
 have nw:σ.lev.length=v0.length+1:=by rw[hlev];simp
 have hx:R.oh[R.op.len - 1]?=some x:=by rw[hoh,List.getElem?_append_right (by omega),show R.op.len - 1 - l0.length=0 by omega];rfl
 have ht:σ.lev[R.op.len - 1]?=some t:=by rw[hlev,List.getElem?_append_right (by omega),show R.op.len - 1 - v0.length=0 by omega];rfl
 obtain⟨a,ha,hk,c0⟩:=h.op.elem zQv hx (o:=0) rfl
 obtain⟨a',ha',_,c1⟩:=h.op.elem zQv hx (o:=1) rfl
 obtain⟨a'',ha'',_,c2⟩:=h.op.elem zQv hx (o:=2) rfl
 rw[ha]at ha' ha'';cases ha';cases ha''
 have hcap:=h.op.le_cap.1
 refine⟨l0,x,v0,t,a,hoh,hlev,ha,by omega,hcap,by rw[zQa (by omega) (by omega)];omega,c0,c1,c2,λw2 h2=>(h.kp w2 h2).oh _ x t hx ht,?_⟩
 have esl:(if R.op.cap=0 then R.op.a else R.op.a.map (λx=>x.add (0 * 3)))=R.op.a:=by rw[if_neg (by omega),ha];show some (a.add (0 * 3))=_;rw[Nat.zero_mul,yYf]
 rw[esl,Nat.sub_zero,Nat.sub_zero]
theorem rend_c (h:zQO X w R σ) (hv:zQf σ.t=0) (hne:σ.done ≠ []) (hn:σ.done.length<=1000000) (hl:σ.lev.length<=1000000):Calls prog 60 #[R.ptr] w (zJD X w R (.int .i64 (zJj σ)) (xWQ σ)):=by
 have hol:=h.op.len zQv (by decide)
 have holn:=h.oln
 refine xXv _ w _ ⟨R.op,h.cell 4,Br.of (λc=>?_) (λc=>?_)⟩
 ·have c:R.op.len=0:=by simpa using c
  have hlev:σ.lev=[]:=List.eq_nil_of_length_eq_zero (by omega)
  have e1:zJj σ=9:=by unfold zJj;rw[if_pos hlev]
  have e2:xWQ σ=σ:=by unfold xWQ;rw[if_pos hlev]
  rw[e1,e2]
  exact⟨rfl,R,h,zXu.refl w R⟩
 ·have c:¬R.op.len=0:=by simpa using c
  have hlne:σ.lev ≠ []:=λe=>by rw[e]at holn;simp at holn;rw[holn]at hol;simp at hol;exact c hol
  have e1:zJj σ=0:=by unfold zJj;rw[if_neg hlne]
  refine zQc λw3 au _=>?_
  have h3:=h.pu au
  obtain⟨l0,x,v0,t,a,hoh,hlev,ha,hpos,hcap,hwr,c0,c1,c2,hK,esl⟩:=zYp h3 hl hlne
  have e2:xWQ σ=zZy { σ with lev:=v0 }:=by unfold xWQ;rw[if_neg hlne,hlev,List.dropLast_concat]
  refine⟨R.op,h3.cell 4,R.op,h3.cell 4,?_⟩
  rw[hwr,zXj,esl]
  refine⟨by omega,by omega,by omega,?_⟩
  rw[zZi]
  refine h3.popO hoh hlev λw7 R7 h7 hl7 _=>?_
  rw[show(Value.pointer (some ⟨R.S,0,none⟩))=R7.ptr from hl7.toPtr]
  refine(yXR h7 hv hne hn).mono ?_
  rintro e w8 ⟨rfl,R8,h8,tK⟩
  refine⟨rfl,?_⟩
  rw[e1,e2]
  exact⟨rfl,R8,h8,((zXu.pu au R).trans hl7).trans tK⟩
theorem kQw(h:zQO X w R σ)(hl:σ.lev.length<=1000000):Calls prog 61 #[R.ptr] w (zJD X w R (.int .i64 (zJj σ)) (zVt σ)):=by
 have hol:=h.op.len zQv (by decide)
 have holn:=h.oln
 refine yYY _ w _ ⟨R.op,h.cell 4,Br.of (λc=>?_) (λc=>?_)⟩
 ·have c:R.op.len=0:=by simpa using c
  have hlev:σ.lev=[]:=List.eq_nil_of_length_eq_zero (by omega)
  have e1:zJj σ=9:=by unfold zJj;rw[if_pos hlev]
  have e2:zVt σ=σ:=by unfold zVt;rw[if_pos hlev]
  rw[e1,e2]
  exact⟨rfl,R,h,zXu.refl w R⟩
 ·have c:¬R.op.len=0:=by simpa using c
  have hlne:σ.lev ≠ []:=λe=>by rw[e]at holn;simp at holn;rw[holn]at hol;simp at hol;exact c hol
  have e1:zJj σ=0:=by unfold zJj;rw[if_neg hlne]
  refine zQc λw3 au _=>?_
  have h3:=h.pu au
  obtain⟨l0,x,v0,t,a,hoh,hlev,ha,hpos,hcap,hwr,c0,c1,c2,hK,esl⟩:=zYp h3 hl hlne
  have e2:zVt σ={ σ with t:=t,lev:=v0 }:=by unfold zVt;rw[if_neg hlne,hlev,List.dropLast_concat,List.getLast?_concat];rfl
  refine⟨R.op,h3.cell 4,R.op,h3.cell 4,a,ha,?_⟩
  rw[hwr,zXj]
  refine⟨by omega,by omega,x.page,c0,x.f,c1,x.r,c2,?_⟩
  rw[zZi]
  refine h3.setT hK λw8 h8 tK=>zQc λw9 cx _=>?_
  have h9:=h8.pu cx
  refine⟨R.op,h9.cell 4,R.op,h9.cell 4,?_⟩
  rw[hwr,zXj,esl]
  refine⟨by omega,by omega,by omega,?_⟩
  rw[zZi]
  refine h9.popO hoh hlev λw7 R7 h7 hl7 _=>?_
  rw[e1,e2]
  exact⟨rfl,R7,h7,(((zXu.pu au R).trans tK).trans (zXu.pu cx _)).trans hl7⟩
theorem yVZ(h:zQO X w R σ)(hn:σ.done.length<=1000000):Calls prog 23 #[R.ptr] w λe w'=>e=.returned (.int .i64 ((σ.done.length:Nat) - 1))/\Pu w w':=by
 have hol:=h.cm.len zQv (by decide)
 have holn:=h.cln
 refine xQV _ w _ ⟨R.cm,h.cell 3,?_,Pu.refl _⟩
 rw[zQa (by omega) (by omega),hol,holn]
theorem xZ8(h:zQO X w R σ):Calls prog 68 #[R.ptr] w λe w'=>e=.returned (.int .i64 (zVA σ))/\Pu w w':=by
 have hol:=h.op.len zQv (by decide)
 have holn:=h.oln
 refine yYw _ w _ ⟨R.op,h.cell 4,Br.of (λc=>⟨?_,Pu.refl _⟩) (λc=>⟨?_,Pu.refl _⟩)⟩
 ·unfold zVA;rw[if_neg (λe=>by have:=zQk c;rw[e]at holn;simp at holn;rw[holn]at hol;simp at hol;omega)]
 ·unfold zVA;rw[if_pos (List.eq_nil_of_length_eq_zero (by have:=zQd c;omega))]
theorem yXC(h:zQO X w R σ)(k:Int):Calls prog 101 #[R.ptr,.int .i64 k] w λe w'=>e=.returned (.bool (zXf σ k))/\w'=w:=by
 have hrl:=h.kp0.t.2.recs.len
 refine yWR _ _ w _ (Br.of (λc=>⟨R.t.r,h.cell 2,?_,rfl⟩) (λc=>⟨?_,rfl⟩))
 ·have c:=zQk c
  unfold zXf
  rw[hrl,decide_eq_true (show 1<=k by omega),Bool.true_and]
 ·have c:=zQd c
  unfold zXf
  rw[decide_eq_false (show ¬1<=k by omega),Bool.false_and]
theorem xZV(h:zQO X w R σ)(hv:zQf σ.t=0):Calls prog 19 #[R.ptr] w λe w'=>∃f r:SV,e=.returned (zVb σ.t f r)/\zJd w w' σ.t f r/\Pu w w':=by
 refine yYJ _ w _ (alB λw1 ar aB=>?_)
 have h1:=h.pu ar
 refine⟨R.t.page,h1.cell 0,R.t.f,h1.cell 1,R.t.r,h1.cell 2,?_⟩
 rw[h1.kp0.t.1]
 refine(zVn h1.kp0.t.2 hv).mono ?_
 rintro e w3 ⟨f,r,rfl,hO,au⟩
 refine⟨_,f,r,rfl,zQi (au.blk aB) zKW.symm rfl rfl λw4 dm gi _=>⟨_,cl dm 0,f,cl dm 1,r,cl dm 2,f,r,rfl,(hO.other gi (au.blk aB)).low ar.size,(ar.trans au).andNew gi λi hi=>by rw[show i=_ from hi];exact Nat.le_refl _⟩⟩
end Go.Proofs.YtaeecpjhfmcliaaGreatDoor
