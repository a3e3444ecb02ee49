import Derived.Test.YtaeecpjhfmcliaaGreatDoorLgOwH
import Derived.Test.YtaeecpjhfmcliaaGreatDoorLgPrB
import Derived.Test.YtaeecpjhfmcliaaGreatDoorLgOwG
import Derived.Test.YtaeecpjhfmcliaaGreatDoorLgPrC
/- The log: what the reading methods of a store tell. No condition but those stated. -/
set_option maxRecDepth 100000
set_option linter.unusedVariables false
set_option linter.unusedSimpArgs false
noncomputable section
namespace Go.Proofs.YtaeecpjhfmcliaaGreatDoor
open Go.Sh Go.RowKit Tryz
variable {w0 w w' : World} {X : Nat -> Prop} {L L' : SL} {d d' : Dat} {mu : Int}
structure Ins(w0 w:World)(L:SL):Prop where
 fr:Fr (·=L.S) w0 w
 st:w.heap[L.S]?=some (.cells (zKd 1 L) 108)
theorem Ins.at_(hi:Ins w0 w L)(h0:zQJ X w0 L d mu):zQJ X w L d 1:=h0.reS hi.fr hi.st
theorem Ins.pu(hi:Ins w0 w L)(hp:Pu w w'):Ins w0 w' L:=⟨hi.fr.trans (Fr.pu hp:Fr (·=L.S) w w') λ_ h _=>h,hp.blk hi.st⟩
theorem Ins.box (hi:Ins w0 w L) {r:Nat} (hf:Fr (·=r) w w') (hS:L.S<w0.heap.size) (hr:w0.heap.size<=r):Ins w0 w' L:=
 ⟨hi.fr.trans hf λb hb hlt=>by have hb:b=r:=hb;omega,hf.blk hi.st (show ¬L.S=r by omega)⟩
theorem Ins.left(hi:Ins w0 w L):zZi w0 w L L:=⟨hi.fr.mono λb hb _=>.inl hb,λ_ h=>.inl h,rfl⟩
theorem zQJ.S_lt(h:zQJ X w L d mu):L.S<w.heap.size:=h.own_lt (.inl rfl)
theorem zX0(h:zQJ X w0 L d 0)(hp:Pu w0 w):Calls prog 55 #[L.ptr] w λe w'=>e=.returned (.tuple #[xQA L,.int .i64 0])/\Ins w0 w' L/\Fr (·=L.S) w w'/\w'.heap.size=w.heap.size:=by
 refine(kQg (h.pu hp)).mono ?_
 rintro e w1 ⟨he,h1,hf,hs⟩
 exact⟨he,⟨(Fr.pu hp:Fr (·=L.S) w0 w).trans hf λ_ h _=>h,h1.st⟩,hf,hs⟩
theorem zJb (h0:zQJ X w0 L d 0) (hi:Ins w0 w L) {K:World->Prop} (hK:∀w',Pu w0 w'->Fr (·=L.S) w w'->K w'):zQc prog [zZf L] w K:=xZ1 h0 (hi.at_ h0) hi.fr hK
theorem zKW.out {wa:World} {t:Tbl} {q:HT} (h:zKW wa w t q) (hf:Fr (·=L.S) w w') (hS:L.S<w0.heap.size) (hz:w0.heap.size<=wa.heap.size):zKW w0 w' t q:=
 (h.fr hf λb hb _ e=>by have e:b=L.S:=e;omega).low hz
theorem zQf.out {wa:World} {q:SV} {l:List UInt8} (h:zQf wa w q l) (hf:Fr (·=L.S) w w') (hS:L.S<w0.heap.size) (hz:w0.heap.size<=wa.heap.size):zQf w0 w' q l:=
 (h.fr hf λb hb e=>by have:=h.2 b hb;have e:b=L.S:=e;omega).low hz
theorem zJB {K:FuncId->Array Value->Array Value->Prop} (h:K 96 #[L.ptr] #[]):fnE (xQA L) K:=h
theorem xXu(h:zQJ X w L d 0)(hn:d.σ.done.length<=1000000):Calls prog 22 #[L.ptr] w λe w'=>e=.returned (.int .i64 ((d.σ.done.length:Nat) - 1))/\Pu w w':=by
 have hl:=h.dn.len zQv (by decide)
 have hll:=h.dl
 refine xXs _ w _ ((zX0 h (Pu.refl w)).mono ?_)
 rintro e w1 ⟨rfl,hi,hf,hs⟩
 refine⟨_,_,rfl,zJB (Br.of (λc=>by cases c) λ_=>⟨L.dn,(hi.at_ h).cellA 6,zJb h hi λw2 ar _=>⟨?_,ar⟩⟩)⟩
 rw[zQa (by omega) (by omega),hl,hll]
theorem xZ0(h:zQJ X w L d 0):Calls prog 30 #[L.ptr] w λe w'=>e=.returned (.int .i64 (d.wr.length:Nat))/\Pu w w':=by
 have hl:=h.wr.len zXH (by decide)
 have hll:=h.wl
 refine xZn _ w _ ((zX0 h (Pu.refl w)).mono ?_)
 rintro e w1 ⟨rfl,hi,hf,hs⟩
 refine⟨_,_,rfl,zJB (Br.of (λc=>by cases c) λ_=>⟨L.wr,(hi.at_ h).cellA 9,zJb h hi λw2 ar _=>⟨?_,ar⟩⟩)⟩
 rw[hl,hll]
theorem zZA(h:zQJ X w L d 0)(hv:zQg d.σ.t=0):Calls prog 14 #[L.ptr] w λe w'=>∃q:HT,e=.returned (.agg #[.int .i64 q.page,slV q.f,slV q.r])/\zKW w w' d.σ.t q/\Pu w w':=by
 have hS:=h.S_lt
 refine xXS _ w _ (alB λw1 aq aB=>(zX0 h aq).mono ?_)
 rintro e w2 ⟨rfl,hi,hf,hs⟩
 have h2:=hi.at_ h
 have hz1:=aq.size
 refine⟨_,_,rfl,zJB (Br.of (λc=>by cases c) λ_=>⟨_,h2.cellB 2 0,L.now.f,h2.cellB 2 1,L.now.r,h2.cellB 2 2,?_⟩)⟩
 rw[h2.now.page]
 refine(zJV (h2.rdNow hv) hv).mono ?_
 rintro e w3 ⟨q,rfl,hq,ax⟩
 have kU:=ax.blk (hf.blk aB (show ¬w.heap.size=L.S by omega))
 refine⟨q.page,q.f,q.r,rfl,zQi kU zKZ.symm rfl rfl λw4 du gR _=>?_⟩
 refine zJb h ((hi.pu ax).box gR hS (Nat.le_refl _)) λw5 aT cI=>?_
 have bq:=cI.blk du (show ¬w.heap.size=L.S by omega)
 refine⟨_,cl bq 0,q.f,cl bq 1,q.r,cl bq 2,q,rfl,?_,aT⟩
 have nG:w.heap.size<w1.heap.size:=zQy aB
 exact(hq.fr gR λb hb _ e=>by have e:b=w.heap.size:=e;omega).out cI hS (by omega)
theorem yJk(h:zQJ X w L d 0)(hv:∀t ∈ d.σ.done,zQg t=0)(n:Int):Calls prog 27 #[L.ptr,.int .i64 n] w λe w'=>∃q:HT,e=.returned (.tuple #[.agg #[.int .i64 q.page,slV q.f,slV q.r],.int .i64 (yJA d.σ n)])/\zKW w w' (yZD d.σ n) q/\Pu w w':=by
 have hS:=h.S_lt
 have hl:=h.dn.len zQv (by decide)
 have hll:=h.dl
 refine xQt _ _ w _ (alB λw1 aq aB=>(zX0 h aq).mono ?_)
 rintro e w2 ⟨rfl,hi,hf,hs⟩
 have h2:=hi.at_ h
 have hz1:=aq.size
 have nG:w.heap.size<w1.heap.size:=zQy aB
 have cN:=hf.blk aB (show ¬w.heap.size=L.S by omega)
 refine⟨_,_,rfl,zJB (Br.of (λc=>by cases c) λ_=>?_)⟩
 have bad:¬(0<=n/\n<d.σ.done.length)->stA prog 35 (⟨w.heap.size,0,none⟩:Addr) #[.int .i64 0,.slice none 0 0,.slice none 0 0] w2 λw5=>zQc prog [zZf L] w5 λw6=>
   ∃ag:Int,w6.cell? ((⟨w.heap.size,0,none⟩:Addr).add 0)=some (.int .i64 ag)/\∃ab:SV,w6.cell? ((⟨w.heap.size,0,none⟩:Addr).add 1)=some (.slice ab.a ab.len ab.cap)/\∃ae:SV,w6.cell? ((⟨w.heap.size,0,none⟩:Addr).add 2)=some (.slice ae.a ae.len ae.cap)/\
   ∃q:HT,Ending.returned (.tuple #[.agg #[.int .i64 ag,.slice ab.a ab.len ab.cap,.slice ae.a ae.len ae.cap],.int .i64 1])=.returned (.tuple #[.agg #[.int .i64 q.page,slV q.f,slV q.r],.int .i64 (yJA d.σ n)])/\zKW w w6 (yZD d.σ n) q/\Pu w w6:=λhn=>by
  refine zQi cN zKZ.symm rfl rfl λw4 du gR _=>zJb h (hi.box gR hS (Nat.le_refl _)) λw5 aT cI=>?_
  have bq:=cI.blk du (show ¬w.heap.size=L.S by omega)
  refine⟨_,cl bq 0,⟨none,0,0⟩,cl bq 1,⟨none,0,0⟩,cl bq 2,⟨0,⟨none,0,0⟩,⟨none,0,0⟩,[]⟩,?_,?_,aT⟩
  ·unfold yJA;rw[if_neg hn]
  ·have e:yZD d.σ n=yJ6:=by unfold yZD;rw[if_neg hn]
   rw[e]
   exact⟨⟨rfl,zQl.nil _ _ _,rfl,λi x r hx=>by simp at hx,by simp[vBl]⟩,zQl.nil _ _ _,by simp[zQd],by simp[zQd],by simp[vBl]⟩
 refine Br.of (λc=>bad (by have:=zQk c;omega)) (λc=>⟨L.dn,h2.cellA 6,Br.of (λc1=>bad (by have:=zQk c1;omega)) (λc1=>?_)⟩)
 have c:=zQe c
 have c1:=zQe c1
 have hn:0<=n/\n<d.σ.done.length:=by omega
 obtain⟨k,rfl⟩:∃k:Nat,n=(k:Int):=⟨n.toNat,by omega⟩
 obtain⟨t,ht⟩:=zQL (l:=d.σ.done) (k:=k) (by omega)
 obtain⟨x,hx⟩:=zQL (l:=L.dh) (k:=k) (by omega)
 obtain⟨ep,hR⟩:=(h2.kp0).dt k x t hx ht
 obtain⟨a,ha,hk,c0⟩:=h2.dn.elem zQv hx (o:=0) rfl
 obtain⟨a',ha',_,pj⟩:=h2.dn.elem zQv hx (o:=1) rfl
 obtain⟨a'',ha'',_,c2⟩:=h2.dn.elem zQv hx (o:=2) rfl
 rw[ha]at ha' ha'';cases ha';cases ha''
 refine⟨L.dn,h2.cellA 6,a,ha,by omega,by omega,x.page,by rw[zXf];exact c0,x.f,by rw[zXf];exact pj,x.r,by rw[zXf];exact c2,?_⟩
 have hvt:=hv t (List.mem_of_getElem? ht)
 have e:yZD d.σ (k:Int)=t:=by unfold yZD;rw[if_pos hn,zXf,List.getD_eq_getElem?_getD,ht];rfl
 have e2:yJA d.σ (k:Int)=0:=by unfold yJA;rw[if_pos hn]
 rw[ep]
 refine(zJV hR hvt).mono ?_
 rintro e3 w3 ⟨q,rfl,hq,ax⟩
 refine⟨q.page,q.f,q.r,rfl,zQi (ax.blk cN) zKZ.symm rfl rfl λw4 du gR _=>?_⟩
 refine zJb h ((hi.pu ax).box gR hS (Nat.le_refl _)) λw5 aT cI=>?_
 have bq:=cI.blk du (show ¬w.heap.size=L.S by omega)
 refine⟨_,cl bq 0,q.f,cl bq 1,q.r,cl bq 2,q,by rw[e2],?_,aT⟩
 rw[e]
 exact(hq.fr gR λb hb _ e=>by have e:b=w.heap.size:=e;omega).out cI hS (by omega)
end Go.Proofs.YtaeecpjhfmcliaaGreatDoor
/- The log: what differs from the last committed table; the files behind some writes. No condition but those stated. -/
namespace Go.Proofs.YtaeecpjhfmcliaaGreatDoor
open Go.Sh Go.RowKit Tryz
variable {w0 w w' : World} {X : Nat -> Prop} {L L' : SL} {d d' : Dat} {mu : Int} {p : Int} {f : List Fld}
theorem zQJ.lastD (h:zQJ X w L d mu) (hne:d.σ.done ≠ []) (hn:d.σ.done.length<=1000000):∃(x:HT) (a:Addr),L.dn.a=some a/\(IntKind.i64.wrap (((L.dn.len:Nat):Int) - 1))=((d.σ.done.length - 1:Nat):Int)/\d.σ.done.length - 1<L.dn.len/\w.cell? ((a.add ((d.σ.done.length - 1) * 3)).add 0)=some (.int .i64 d.σ.last.page)/\
  w.cell? ((a.add ((d.σ.done.length - 1) * 3)).add 1)=some (slV x.f)/\w.cell? ((a.add ((d.σ.done.length - 1) * 3)).add 2)=some (slV x.r)/\zX2 w d.σ.last x.f x.r:=by
 have hl:=h.dn.len zQv (by decide)
 have hdl:=h.dl
 have hpos:=List.length_pos_iff.2 hne
 have hlast:=zZ7 hne
 rw[List.getLast?_eq_getElem?]at hlast
 obtain⟨x,hx⟩:=zQL (l:=L.dh) (k:=d.σ.done.length - 1) (by omega)
 obtain⟨ep,hR⟩:=h.kp0.dt _ x _ hx hlast
 obtain⟨a,ha,hk,c0⟩:=h.dn.elem zQv hx (o:=0) rfl
 obtain⟨a',ha',_,c1⟩:=h.dn.elem zQv hx (o:=1) rfl
 obtain⟨a'',ha'',_,c2⟩:=h.dn.elem zQv hx (o:=2) rfl
 rw[ha]at ha' ha'';cases ha';cases ha''
 exact⟨x,a,ha,by rw[zQa (by omega) (by omega)];omega,hk,by rw[c0,ep],c1,c2,hR⟩
theorem yZ6(h:InvW p f d):xVG d.σ.last d.σ.t=(zJw d.σ,0):=by
 have hL:=h.lastL
 unfold xVG
 rw[if_neg (by rw[hL.ok];simp),if_neg (by rw[h.t.ok];simp),if_neg (by rw[hL.page,hL.fields,h.t.page,h.t.fields];simp)]
 rfl
structure Small(d:Dat):Prop where
 f1:d.first.1.length<=400000000
 f2:d.first.2.length<=400000000
 wn:d.wr.length<=500
 wb:∀x ∈ d.wr,okW x
theorem Small.files(h:Small d)(n:Nat):(zQV d.first d.wr n).1.length<=750000000/\(zQV d.first d.wr n).2.length<=750000000:=by
 have h1:=zKt (F:=d.first) (W:=d.wr.take n) (c:=400000000) ⟨h.f1,h.f2⟩ λy hy=>(h.wb y (List.mem_of_mem_take hy)).2.2
 have h2:(d.wr.take n).length<=500:=by rw[List.length_take];have:=h.wn;omega
 unfold zQV
 omega
theorem Small.fall(h:Small d)(n:Nat)(k:Int):(zVc d.first d.wr n k).1.length<=760000000/\(zVc d.first d.wr n k).2.length<=760000000:=by
 have h1:=h.files n
 unfold zVc
 split
 ·rename_i x hx
  have:=yKC (k:=k) h1 (h.wb x (List.mem_of_getElem? hx)).2.2
  omega
 ·omega
def zYZ(d:Dat)(n k:Int):Int:=if n<0∨(d.wr.length:Int)<n∨k<0 then 1 else 0
def zWc(d:Dat)(n k:Int):Fls:=if n<0∨(d.wr.length:Int)<n∨k<0 then([],[])else zVc d.first d.wr n.toNat k
theorem yKy{R:Rt}{wa w3:World}{r0 r1:SV}{G:Fls}(h:zQJ X w0 L d 0)(hi:Ins w0 wa L)(hz:w0.heap.size<=w3.heap.size)(n0:zQf w3 wa r0 G.1)(n1:zQf w3 wa r1 G.2)
  (hR:∀wz,Pu w0 wz->zQf w0 wz r0 G.1->zQf w0 wz r1 G.2->R (.returned (.tuple #[slV r0,slV r1,.int .i64 0])) wz) :
  alE (.cells #[.slice none 0 0,.slice none 0 0] 63) wa λaL w6=>stA prog 63 (⟨aL,0,none⟩:Addr) #[slV r0,slV r1] w6 λw7=>dwE w7 λw8=>
   0<=(0:Int)/\(0:Int)<((2:Nat):Int)/\∃jT:SV,w8.cell? ((⟨aL,0,none⟩:Addr).add ((0:Int).toNat * 1))=some (.slice jT.a jT.len jT.cap)/\
   0<=(1:Int)/\(1:Int)<((2:Nat):Int)/\∃lQ:SV,w8.cell? ((⟨aL,0,none⟩:Addr).add ((1:Int).toNat * 1))=some (.slice lQ.a lQ.len lQ.cap)/\
   zQc prog [zZf L] w8 λw9=>R (.returned (.tuple #[.slice jT.a jT.len jT.cap,.slice lQ.a lQ.len lQ.cap,.int .i64 0])) w9:=by
 have hS:=h.S_lt
 refine alB λw6 bn fT=>zQi fT vk63.symm rfl rfl λw7 jw kh _=>zQb λw8 bU _=>?_
 have xU:Pu wa w8:=(bn.andNew kh λi hi=>by rw[show i=_ from hi];exact Nat.le_refl _).trans bU
 have j8:=bU.blk jw
 refine⟨by omega,by omega,r0,cl j8 0,by omega,by omega,r1,cl j8 1,zJb h (hi.pu xU) λw9 cG pm=>hR w9 cG ((n0.pu xU).out pm hS hz) ((n1.pu xU).out pm hS hz)⟩
theorem xYX(h:zQJ X w L d 0)(hs:Small d)(n k:Int):Calls prog 33 #[L.ptr,.int .i64 n,.int .i64 k] w λe w'=>∃r0 r1:SV,e=.returned (.tuple #[slV r0,slV r1,.int .i64 (zYZ d n k)])/\zQf w w' r0 (zWc d n k).1/\zQf w w' r1 (zWc d n k).2/\Pu w w':=by
 have hS:=h.S_lt
 have hl:=h.wr.len zXH (by decide)
 have hwl:=h.wl
 refine xXl _ _ _ w _ ((zX0 h (Pu.refl w)).mono ?_)
 rintro e w1 ⟨rfl,hI,hf,hsz⟩
 have h1:=hI.at_ h
 refine⟨_,_,rfl,zJB (Br.of (λc=>by cases c) λ_=>?_)⟩
 have bad:(n<0∨(d.wr.length:Int)<n∨k<0)->zQc prog [zZf L] w1 λw2=>∃r0 r1:SV,Ending.returned (.tuple #[.slice none 0 0,.slice none 0 0,.int .i64 1])=.returned (.tuple #[slV r0,slV r1,.int .i64 (zYZ d n k)])/\zQf w w2 r0 (zWc d n k).1/\zQf w w2 r1 (zWc d n k).2/\Pu w w2:=λhx=>
  zJb h hI λw2 ar _=>⟨⟨none,0,0⟩,⟨none,0,0⟩,by unfold zYZ;rw[if_pos hx],by unfold zWc;rw[if_pos hx];exact zQf.nil _ _,by unfold zWc;rw[if_pos hx];exact zQf.nil _ _,ar⟩
 refine Br.of (λc=>bad (.inl (zQk c))) (λc=>⟨L.wr,h1.cellA 9,Br.of (λc1=>bad (.inr (.inl (by have:=zQk c1;omega)))) (λc1=>Br.of (λc2=>bad (.inr (.inr (zQk c2)))) (λc2=>?_))⟩)
 have c:=zQe c
 have c1:=zQe c1
 have c2:=zQe c2
 have hgood:¬(n<0∨(d.wr.length:Int)<n∨k<0):=by omega
 obtain⟨m,rfl⟩:∃m:Nat,n=(m:Int):=⟨n.toNat,by omega⟩
 have hcap:=h.wr.le_cap.1
 refine⟨L.first,h1.cellA 7,L.wr,h1.cellA 9,by omega,by omega,by omega,?_⟩
 have hwn:=hs.wn
 have eG:zWc d (m:Int) k=zVc d.first d.wr m k:=by unfold zWc;rw[if_neg hgood,zXf]
 have eC:zYZ d (m:Int) k=0:=by unfold zYZ;rw[if_neg hgood]
 rw[eG,eC,zXf,Nat.sub_zero]
 have hB:∀{wz:World},w.heap.size<=wz.heap.size->∀b,(L.own b∨X b)->b<wz.heap.size:=λhz b hb=>hb.elim (λhb=>by have:=h.own_lt hb;omega) (λhb=>by have:=h.xl b hb;omega)
 have yC:zXL (λb=>L.own b∨X b) w1 L.first L.f0 L.f1 d.first:=λw2 h2=>(h.kp w2 ((hf.mono λb hb _=>.inl (.inl hb)).trans h2 λb hb _=>hb)).fi
 refine zQx m (λj u w'=>u.2=(j:Int)/\Pu w1 w'/\∃r0 r1,zXL (λb=>L.own b∨X b) w' u.1 r0 r1 (zQV d.first d.wr j)) ⟨rfl,Pu.refl _,L.f0,L.f1,yC⟩ ?_
 rintro j J ⟨u1,u2⟩ wa hj ⟨tu,hpa,x0,x1,hK⟩ hJ
 obtain rfl:u2=(j:Int):=tu
 dsimp only at hK ⊢
 have hIa:=hI.pu hpa
 have ha:=hIa.at_ h
 have hza:=hpa.size
 -- a write of the store
 have wrAt:∀{i:Nat} {y:Wr} {wz:World},zQJ X wz L d 1->d.wr[i]?=some y->∃a x,L.wr.a=some a/\i<L.wr.len/\wz.cell? ((a.add (i * 3)).add 0)=some (.int .i64 y.file)/\wz.cell? ((a.add (i * 3)).add 1)=some (.int .i64 y.at_)/\wz.cell? ((a.add (i * 3)).add 2)=some (slV x)/\ByV wz x y.b:=λ{i y wz} hz hy=>by
  obtain⟨x,hx⟩:=zQL (l:=L.wh) (k:=i) (by rw[hwl];exact(List.getElem?_eq_some_iff.1 hy).1)
  obtain⟨e1,e2,e3⟩:=hz.kp0.wb i x y hx hy
  obtain⟨a,ha,hk,c0⟩:=hz.wr.elem zXH hx (o:=0) rfl
  obtain⟨a',ha',_,c1⟩:=hz.wr.elem zXH hx (o:=1) rfl
  obtain⟨a'',ha'',_,c2⟩:=hz.wr.elem zXH hx (o:=2) rfl
  rw[ha]at ha' ha'';cases ha';cases ha''
  exact⟨a,x.2.2,ha,hk,by rw[c0,e1],by rw[c1,e2],c2,e3⟩
 have hsj:=hs.files j
 refine Br.of (λd1=>?_) (λd1=>?_)
 ·have ki:j<m:=by have:=zQk d1;omega
  obtain⟨y,hy⟩:=zQL (l:=d.wr) (k:=j) (by omega)
  obtain⟨xS,xT,ok3⟩:=hs.wb y (List.mem_of_getElem? hy)
  obtain⟨a,x,hwa,hka,g0,g1,g2,hBy⟩:=wrAt ha hy
  have hadd:∀o,((a.add (0 * 3)).add (j * 3)).add o=(a.add (j * 3)).add o:=λo=>by rw[Nat.zero_mul,yKR]
  refine⟨a.add (0 * 3),by show(if L.wr.cap=0 then L.wr.a else L.wr.a.map (λx=>x.add (0 * 3)))=_;rw[if_neg (by omega),hwa];rfl,by omega,by show(j:Int)<((m:Nat):Int);omega,_,by rw[zXf,hadd];exact g0,_,by rw[zXf,hadd];exact g1,x,by rw[zXf,hadd];exact g2,alB λwb hpb hbb=>zQi hbb vk90.symm rfl rfl λwc hbc hfc _=>?_⟩
  have hpac:Pu wa wc:=hpb.andNew hfc λi hi=>by rw[show i=_ from hi];exact Nat.le_refl _
  refine⟨_,cl hbc 0,_,cl hbc 1,x,cl hbc 2,?_⟩
  refine(yKT (x:=y) (hB (by have:=hpac.size;omega)) (hK.pu hpac) (hBy.pu hpac) xS xT ⟨by omega,by omega⟩ (by omega)).mono ?_
  rintro e wd ⟨o',y0,y1,rfl,hK',hpd⟩
  refine⟨o',rfl,?_⟩
  rw[zQa (by omega) (by omega)]
  refine hJ _ _ ki ⟨rfl,(hpa.trans hpac).trans hpd,y0,y1,?_⟩
  have:zQV d.first d.wr (j+1)=zQw (zQV d.first d.wr j) y:=by unfold zQV;exact zKs hy
  dsimp only
  rw[this];exact hK'
 ·have ki:j=m:=by have:=zQe d1;omega
  subst ki
  refine⟨L.wr,ha.cellA 9,Br.of (λd2=>?_) (λd2=>?_)⟩
  ·have d2:=zQk d2
   obtain⟨y,hy⟩:=zQL (l:=d.wr) (k:=j) (by omega)
   obtain⟨xS,xT,ok3⟩:=hs.wb y (List.mem_of_getElem? hy)
   obtain⟨a,x,hwa,hka,g0,g1,g2,hBy⟩:=wrAt ha hy
   have ef:zVc d.first d.wr j k=zZp (zQV d.first d.wr j) y k:=by unfold zVc;rw[hy]
   rw[ef]
   refine⟨L.wr,ha.cellA 9,a,hwa,by omega,by omega,_,by rw[zXf];exact g0,_,by rw[zXf];exact g1,x,by rw[zXf];exact g2,(xJS (x:=y) (hB (by omega)) hK hBy xS xT ⟨by omega,by omega⟩ (by omega) k).mono ?_⟩
   rintro e wb ⟨o',y0,y1,rfl,hK',hpb⟩
   have hdl:=yKC (k:=k) hsj ok3
   refine⟨o',rfl,(yKM hK'.at_ ⟨by omega,by omega⟩).mono ?_⟩
   rintro e wc ⟨r0,r1,rfl,n0,n1,hpc⟩
   refine⟨r0,r1,rfl,yKy (R:=λe w'=>∃r0 r1:SV,e=.returned (.tuple #[slV r0,slV r1,.int .i64 0])/\zQf w w' r0 (zZp (zQV d.first d.wr j) y k).1/\zQf w w' r1 (zZp (zQV d.first d.wr j) y k).2/\Pu w w') h (hIa.pu (hpb.trans hpc)) (by have:=hpb.size;omega) n0 n1 λwz hpz m0 m1=>⟨r0,r1,rfl,m0,m1,hpz⟩⟩
  ·have d2:=zQe d2
   have ef:zVc d.first d.wr j k=zQV d.first d.wr j:=by unfold zVc;rw[List.getElem?_eq_none (by omega)]
   rw[ef]
   refine(yKM hK.at_ ⟨by omega,by omega⟩).mono ?_
   rintro e wc ⟨r0,r1,rfl,n0,n1,hpc⟩
   refine⟨r0,r1,rfl,yKy (R:=λe w'=>∃r0 r1:SV,e=.returned (.tuple #[slV r0,slV r1,.int .i64 0])/\zQf w w' r0 (zQV d.first d.wr j).1/\zQf w w' r1 (zQV d.first d.wr j).2/\Pu w w') h (hIa.pu hpc) (by omega) n0 n1 λwz hpz m0 m1=>⟨r0,r1,rfl,m0,m1,hpz⟩⟩
end Go.Proofs.YtaeecpjhfmcliaaGreatDoor
/- The log: writes to the files of a store; a commit. No condition but those stated. -/
namespace Go.Proofs.YtaeecpjhfmcliaaGreatDoor
open Go.Sh Go.RowKit Tryz
variable {w0 w w' : World} {X : Nat -> Prop} {L L' : SL} {d d' : Dat} {mu : Int} {p : Int} {f : List Fld}
theorem xQn{B:Nat->Prop}{Q:World->Prop}(h:∀w2,Fr B w w2->Q w2)(hp:Pu w w'):∀w2,Fr B w' w2->Q w2:=λw2 h2=>h w2 ((Fr.pu hp:Fr B w w').trans h2 λb hb _=>hb)
theorem zQJ.xw(h:zQJ X w L d mu):∀b,(L.own b∨X b)->b<w.heap.size:=λb hb=>hb.elim (λhb=>h.own_lt hb) (h.xl b)
theorem zQf.keepBy{w0:World}{q:SV}{l:List UInt8}(h:zQf w0 w q l)(hl:l.length<=1000000000){B:Nat->Prop}(hB:∀b,B b->b<w0.heap.size):∀w2,Fr B w w2->ByV w2 q l:=λw2 h2=>
 (h.fr h2 λb hb e=>by have:=h.2 b hb;have:=hB b e;omega).by (by omega)
theorem yX0 (h:zQJ X w L d 1) {y:Wr} (hy:okW y) {q:SV} (hq:∀w2,Fr (λb=>L.own b∨X b) w w2->ByV w2 q y.b) (hl:d.last.1.length<=900000000/\d.last.2.length<=900000000) (hn:d.wr.length<=1000000) :
  Calls prog 84 #[L.ptr,.agg #[.int .i64 y.file,.int .i64 y.at_,slV q]] w λe w'=>e=.returned (.tuple #[])/\∃L',zQJ X w' L' (d.write y) 1/\zZi w w' L L':=by
 refine xXb _ _ _ _ w _ (alB λw1 aq aB=>zQb λw2 ar _=>?_)
 have aG:=aq.trans ar
 have cN:=ar.blk aB
 have h2:=h.pu aG
 have nG:w.heap.size<w1.heap.size:=zQy aB
 refine⟨λu=>Pu w2 u,Pu.refl _,L.wr,λu hu=>(h2.pu hu).cellA 9,y.file,λu hu=>cl (hu.blk cN) 0,y.at_,λu hu=>cl (hu.blk cN) 1,q,λu hu=>cl (hu.blk cN) 2,alB λw4 aK du=>⟨aK,?_⟩⟩
 have cq:=aG.trans aK
 have h4:=h.pu cq
 have yx:=xQn hq cq
 obtain⟨s,w5,hr,hst⟩:=h4.pushWr (y:=y) yx du hn (K:=λw7=>dwE w7 λw8=>∃dr:SV,w8.cell? ((⟨L.S,0,none⟩:Addr).add 8)=some (.slice dr.a dr.len dr.cap)/\
   ∃dE:Int,w8.cell? ((⟨w.heap.size,0,none⟩:Addr).add 0)=some (.int .i64 dE)/\∃bT:Int,w8.cell? ((⟨w.heap.size,0,none⟩:Addr).add 1)=some (.int .i64 bT)/\∃cQ:SV,w8.cell? ((⟨w.heap.size,0,none⟩:Addr).add 2)=some (.slice cQ.a cQ.len cQ.cap)/\
   Calls prog 49 #[.slice dr.a dr.len dr.cap,.agg #[.int .i64 dE,.int .i64 bT,.slice cQ.a cQ.len cQ.cap]] w8 λe aN=>∃dS:SV,e=.returned (.slice dS.a dS.len dS.cap)/\
   st1 ((⟨L.S,0,none⟩:Addr).add 8) (.slice dS.a dS.len dS.cap) aN λaO=>(Ending.returned (.tuple #[])=.returned (.tuple #[]))/\∃L',zQJ X aO L' (d.write y) 1/\zZi w aO L L') λw7 L1 h7 ql hlast=>by
  have sW:=ql.fr.blk (aK.blk cN) (λho=>by have:=h.own_lt ho;omega)
  refine zQb λw8 bU _=>?_
  have h8:=h7.pu bU
  have pi:=bU.blk sW
  have hk8:=xQn (ql.keep (X:=X) yx h4.xl) bU
  refine⟨L1.last,by rw[←ql.ptr];exact h8.cellA 8,y.file,cl pi 0,y.at_,cl pi 1,q,cl pi 2,?_⟩
  refine(yKT (B:=λb=>L1.own b∨X b) (x:=y) h8.xw (λw9 h9=>(h8.kp w9 h9).la) (hk8 _ (Fr.refl _ _)) hy.1 hy.2.1 hl (by have:=hy.2.2;omega)).mono ?_
  rintro e aN ⟨o,r0,r1,rfl,hK,dM⟩
  refine⟨o,rfl,?_⟩
  rw[←ql.ptr]
  refine(h8.pu dM).setLast hK λaO L2 nA yD=>⟨rfl,L2,nA,?_⟩
  exact((zZi.pu cq L).trans ql).trans ((zZi.pu (bU.trans dM) L1).trans yD)
 exact⟨s,w5,hr,hst⟩
theorem zYX (h:d.σ.lev ≠ []∨d.σ.t=d.σ.last):d.commit=d:=by
 unfold Dat.commit
 rw[if_neg]
 rintro⟨h1,h2⟩
 rcases h with h|h
 ·exact h h1
 ·exact h2 h
structure Fit(d:Dat):Prop where
 l1:d.last.1.length<=800000000
 l2:d.last.2.length<=800000000
 wn:d.wr.length<=100000
 dn:d.σ.done.length<=100000
theorem yKa(h:zQJ X w L d 1)(hi:InvW p f d)(hs:Fit d):Calls prog 79 #[L.ptr] w λe w'=>e=.returned (.tuple #[])/\∃L',zQJ X w' L' d.commit 1/\zZi w w' L L':=by
 have hS:=h.S_lt
 have hlv:=h.lv.len zQv (by decide)
 have hll:=h.ll
 have hdn:=hs.dn
 refine xXo _ w _ (zQb λw1 aq _=>?_)
 have h1:=h.pu aq
 obtain⟨x,a,ha,e1,hk,c0,c1,c2,hR⟩:=h1.lastD hi.ne (by omega)
 refine⟨λu=>Pu w1 u,Pu.refl _,L.dn,λu hu=>(h1.pu hu).cellA 6,L.dn,λu hu=>(h1.pu hu).cellA 6,a,ha,by rw[e1];omega,by rw[e1];omega,d.σ.last.page,λu hu=>hu.cell (by rw[e1,zXf];exact c0),x.f,λu hu=>hu.cell (by rw[e1,zXf];exact c1),x.r,λu hu=>hu.cell (by rw[e1,zXf];exact c2),?_⟩
 refine alB λw5 aT bq=>⟨aT,zQi bq zKZ.symm rfl rfl λw6 fT iL _=>zQb λw7 ck _=>?_⟩
 have kL:Pu w1 w7:=(aT.andNew iL λi hi=>by rw[show i=_ from hi];exact Nat.le_refl _).trans ck
 have fU:=aq.trans kL
 have h7:=h.pu fU
 have b7:=ck.blk fT
 refine⟨_,cl b7 0,x.f,cl b7 1,x.r,cl b7 2,_,h7.cellB 2 0,L.now.f,h7.cellB 2 1,L.now.r,h7.cellB 2 2,?_⟩
 rw[h7.now.page]
 refine(xJe (hR.pu kL) (h7.rdNow hi.t.ok) (zZC hi.lastL.ok) (zZC hi.t.ok)).mono ?_
 rintro e w9 ⟨q,rfl,hq,cG⟩
 rw[yZ6 hi]at hq
 replace hq:zV3 w7 w9 q (zJw d.σ):=hq
 have he2:=congrArg Prod.snd (yZ6 hi)
 have nB:=fU.trans cG
 have h9:=h.pu nB
 have hql:q.len=(zJw d.σ).length:=hq.len
 refine⟨q,_,rfl,L.lv,h9.cellA 5,Br.of (λc=>?_) (λc=>Br.of (λpj=>?_) (λpj=>?_))⟩
 ·have c:=zQk c
  have hlne:d.σ.lev ≠ []:=λe=>by
   have:d.σ.lev.length=0:=by rw[e];rfl
   omega
  rw[zYX (.inl hlne)]
  exact⟨rfl,L,h9,zZi.pu nB L⟩
 ·have pj:q.len=0:=by simpa using pj
  have hnil:zJw d.σ=[]:=List.eq_nil_of_length_eq_zero (by show(zJw d.σ).length=0;rw[hql]at pj;exact pj)
  have hrec:=xYz (a:=d.σ.last.recs) (b:=d.σ.t.recs) hnil
  have hL:=hi.lastL
  have:d.σ.t=d.σ.last:=by
   have p1:=hi.t.page
   have p2:=hi.t.fields
   have p3:=hL.page
   have p4:=hL.fields
   cases ht:d.σ.t with
   | mk a b c=>cases hlt:d.σ.last with
    | mk a' b' c'=>
     rw[ht]at p1 p2 hrec
     rw[hlt]at p3 p4 hrec
     dsimp only at p1 p2 p3 p4 hrec
     rw[p1,p2,p3,p4,hrec]
  rw[zYX (.inr this)]
  exact⟨rfl,L,h9,zZi.pu nB L⟩
 ·have c:=zQe c
  have hlev:d.σ.lev=[]:=List.eq_nil_of_length_eq_zero (by omega)
  have pj:¬q.len=0:=by simpa using pj
  have hne:d.σ.t ≠ d.σ.last:=λe=>pj (by
   have:zJw d.σ=[]:=by unfold zJw;rw[e];exact xJ5 _
   rw[hql];show(zJw d.σ).length=0;rw[this];rfl)
  have hcm:d.commit={ d.write d.rec_ with σ:={ d.σ with done:=d.σ.done ++ [d.σ.t] },pts:=d.pts ++ [(d.wr.length:Int)+1] }:=by unfold Dat.commit;rw[if_pos ⟨hlev,hne⟩]
  refine zQb λaI bl _=>?_
  have sD:=nB.trans bl
  have m7:=h.pu sD
  obtain⟨al,hal,cl0',tG⟩:=m7.kp0.la.ex
  have hll2:=m7.kp0.la.len
  have hb1l:=m7.kp0.la.b1.len
  refine⟨λu=>Pu aI u,Pu.refl _,L.last,λu hu=>(m7.pu hu).cellA 8,al,hal,by omega,by omega,L.l1,λu hu=>hu.cell tG,_,λu hu=>(m7.pu hu).cellB 2 0,L.now.f,λu hu=>(m7.pu hu).cellB 2 1,L.now.r,λu hu=>(m7.pu hu).cellB 2 2,?_⟩
  rw[m7.now.page]
  have cJ:=(zQN.of hi.t.ok).n300
  have hl300:=(zQN.of hi.lastL.ok).n300
  refine(xJm (m7.rdNow hi.t.ok) hi.t.ok (hq.pu bl) (λk hk=>?_) ?_).mono ?_
  ·obtain⟨i,hi2,rfl⟩:=List.mem_map.1 hk
   have:=List.mem_range.1 (List.mem_filter.1 hi2).1
   omega
  ·show(zJw d.σ).length<=1000
   unfold zJw zV7
   rw[List.length_map]
   refine Nat.le_trans (List.length_filter_le _ _) ?_
   rw[List.length_range];omega
  rintro e bJ ⟨q17,rfl,iM,sE⟩
  have hcl:(zXt d.σ.t (zJw d.σ)).length<=650000:=yQD (t:=d.σ.last) hi.t.ok hi.ge
  have hcne:zXt d.σ.t (zJw d.σ) ≠ []:=λe=>by
   have:=congrArg List.length e
   rw[yQB,List.length_append,zQ7]at this
   simp at this
  refine⟨q17,rfl,sE,(yKS 99 (iM.by (by omega)) hcne (by omega)).mono ?_⟩
  rintro e bR ⟨q18,rfl,iI,nw⟩
  have sF:=sE.trans nw
  have wW:=sD.trans sF
  have yE:=h.pu wW
  refine⟨q18,rfl,sF,?_⟩
  have hy:okW d.rec_:=⟨.inr rfl,by show 0<=(d.last.2.length:Int);omega,by show(zZY 99 (zXt d.σ.t (zJw d.σ))).length<=_;rw[zJp];omega⟩
  have hx17:∀b,(L.own b∨X b)->b<bJ.heap.size:=(h.pu (sD.trans sE)).xw
  have hrl:(zZY 99 (zXt d.σ.t (zJw d.σ))).length<=1000000000:=by rw[zJp];omega
  have hw:=yX0 (y:=d.rec_) (q:=q18) yE hy (iI.keepBy hrl hx17) ⟨by have:=hs.l1;omega,by have:=hs.l2;omega⟩ (by have:=hs.wn;omega)
  rw[show((L.l1.len:Nat):Int)=((d.last.2.length:Nat):Int)by omega]
  refine Calls.mono hw ?_
  rintro e cK ⟨rfl,L1,h19,ql⟩
  refine⟨rfl,zQb λcj iZ _=>?_⟩
  have qN:=h19.pu iZ
  rw[←ql.ptr]
  refine⟨λu=>Pu cj u,Pu.refl _,L1.dn,λu hu=>(qN.pu hu).cellA 6,_,λu hu=>(qN.pu hu).cellB 2 0,L1.now.f,λu hu=>(qN.pu hu).cellB 2 1,L1.now.r,λu hu=>(qN.pu hu).cellB 2 2,?_⟩
  rw[qN.now.page]
  refine(zJV (qN.rdNow hi.t.ok) hi.t.ok).mono ?_
  rintro e dQ ⟨x23,rfl,i5,iY⟩
  refine⟨x23.page,x23.f,x23.r,rfl,iY,alB λdx fV hb24=>⟨iY.trans fV,?_⟩⟩
  have h24:=(qN.pu iY).pu fV
  have hkd:=(i5.pu fV).keep (L:=L1) (X:=X) hi.t.ok (λb hb=>qN.own_lt hb) qN.xl
  obtain⟨s,gj,hr,hst⟩:=h24.pushDone (q:=x23) (t:=d.σ.t) i5.tab.page hkd hb24 (λb hb e=>by have:=(qN.pu iY).own_lt hb;omega) (by show d.σ.done.length<=_;omega)
   (K:=λgS=>dwE gS λcy=>∃S5:World->Prop,S5 cy/\∃nj:SV,(∀w',S5 w'->w'.cell? ((⟨L1.S,0,none⟩:Addr).add 10)=some (.slice nj.a nj.len nj.cap))/\∃oX:SV,(∀w',S5 w'->w'.cell? ((⟨L1.S,0,none⟩:Addr).add 9)=some (.slice oX.a oX.len oX.cap))/\
    alE (.cells #[.int .i64 ((oX.len:Nat):Int)] 3) cy λr78 fX=>S5 fX/\∃i7:SV,∃gz:World,(Builtin.append_ #[52,52] 52 #[.slice nj.a nj.len nj.cap,.slice (some ⟨r78,0,none⟩) 1 1]).run prog fX=.ok (.slice i7.a i7.len i7.cap) gz/\
    st1 ((⟨L1.S,0,none⟩:Addr).add 10) (.slice i7.a i7.len i7.cap) gz λfo=>(Ending.returned (.tuple #[])=.returned (.tuple #[]))/\∃L',zQJ X fo L' d.commit 1/\zZi w fo L L') λgS L2 h27 yD _ _=>by
   refine zQb λcy iv _=>?_
   have h28:=h27.pu iv
   rw[←yD.ptr]
   refine⟨λu=>Pu cy u,Pu.refl _,L2.pt,λu hu=>(h28.pu hu).cellA 10,L2.wr,λu hu=>(h28.pu hu).cellA 9,alB λfX oN hb31=>⟨oN,?_⟩⟩
   have h31:=h28.pu oN
   have hwrl:=h31.wr.len zXH (by decide)
   have hwl2:=h31.wl
   have hpl:d.pts.length+1=d.σ.done.length:=hi.hist.len
   have hwl3:L2.wr.len=d.wr.length+1:=by
    rw[hwrl,hwl2];show(d.wr ++ [d.rec_]).length=_;simp
   obtain⟨s2,gz,jx,hst2⟩:=h31.pushPt hb31 (by show d.pts.length<=_;omega) (K:=λfo=>(Ending.returned (.tuple #[])=.returned (.tuple #[]))/\∃L',zQJ X fo L' d.commit 1/\zZi w fo L L') λfo L3 h34 hL3=>⟨rfl,L3,by rw[hcm];rw[hwl3]at h34;exact h34,((zZi.pu wW L).trans ql).trans (((zZi.pu ((iZ.trans iY).trans fV) L1).trans yD).trans ((zZi.pu (iv.trans oN) L2).trans hL3))⟩
   exact⟨s2,gz,jx,hst2⟩
  exact⟨s,gj,hr,hst⟩
end Go.Proofs.YtaeecpjhfmcliaaGreatDoor
/- The log: a table's own rows are written. No condition but those stated. -/
namespace Go.Proofs.YtaeecpjhfmcliaaGreatDoor
open Go.Sh Go.RowKit Tryz
variable {w w' : World} {t : Tbl} {h : HT}
theorem zJM.rlen(ht:zJM w t h):h.r.len=t.recs.length:=by rw[ht.rw_.len zQS (by decide),ht.len]
theorem zJM.push (ht:zJM w t h) {q:SV} {x:Rec} (hq:zQl w 73 3 q (x.v.flatMap zV6)) (hn:∀b ∈ zQd q,b ∉ vBl h.hs) {r:Nat} (hr:w.heap[r]?=some (.cells #[.bool x.gone,slV q] 67)) (hb:t.recs.length<=100000) :
  ∃(s:SV) (w1:World),(Builtin.append_ #[33,33] 33 #[slV h.r,.slice (some ⟨r,0,none⟩) 1 1]).run prog w=.ok (slV s) w1/\zJM w1 { t with recs:=t.recs ++ [x] } { h with r:=s,hs:=h.hs ++ [(x.gone,q)] }/\Fr (· ∈ zQd h.r) w w1/\∀k ∈ zQd s,k ∈ zQd h.r∨w.heap.size<=k:=by
 have hl:=ht.rlen
 obtain⟨s,w1,hra,hrow,dU,hblk,hsl⟩:=zQz (P:=prog) (ty:=33) vu33 vi67 rfl (by decide) ht.rw_ (A:=some ⟨r,0,none⟩) (m:=1) (c:=1) (news:=yK8 (x.gone,q)) rfl (λj u hu=>⟨_,rfl,by rw[cl hr];simpa[yK8] using hu⟩) (λu hu=>by simp[yK8]at hu;rcases hu with rfl|rfl <;> rfl) (by show(h.r.len+1) * (32+1)<=_;omega)
 refine⟨s,w1,hra,⟨ht.page,?_,by simp[ht.len],?_,?_⟩,dU,hblk⟩
 ·show zQl w1 67 2 s ((h.hs ++ [(x.gone,q)]).flatMap yK8)
  rw[List.flatMap_append,List.flatMap_singleton];exact hrow
 ·intro i y z hy hz
  have hy:(h.hs ++ [(x.gone,q)])[i]?=some y:=hy
  have hz:(t.recs ++ [x])[i]?=some z:=hz
  rw[List.getElem?_append]at hy hz
  split at hy
  ·rename_i hi
   rw[if_pos (by rw[←ht.len];exact hi)]at hz
   obtain⟨e1,e2⟩:=ht.rec_ i y z hy hz
   exact⟨e1,e2.fr dU (zQn e2 ht.rw_ (by decide))⟩
  ·rename_i hi
   rw[if_neg (by rw[←ht.len];exact hi)]at hz
   have e1:y=(x.gone,q):=List.mem_singleton.1 (List.mem_of_getElem? hy)
   have e2:z=x:=List.mem_singleton.1 (List.mem_of_getElem? hz)
   rw[e1,e2]
   exact⟨rfl,hq.fr dU (zQn hq ht.rw_ (by decide))⟩
 ·show(vBl (h.hs ++ [(x.gone,q)])).Nodup
  rw[zXz]
  refine List.nodup_append.2 ⟨ht.nd,by simp[vBl,zYC],λa ha b hb e=>?_⟩
  subst e
  exact hn a (by simpa[vBl] using hb) ha
theorem xYO {hs:List (Bool × SV)} {k:Nat} {x:Bool × SV} (hk:k<hs.length):∀b ∈ vBl (hs.set k x),b ∈ vBl hs∨b ∈ zQd x.2:=λb hb=>by
 obtain⟨y,hy,hyb⟩:=List.mem_flatMap.1 hb
 rcases List.mem_or_eq_of_mem_set hy with hy|rfl
 ·exact .inl (zV5 hy hyb)
 ·exact .inr hyb
theorem yXx {hs:List (Bool × SV)} {k:Nat} {x:Bool × SV} (hk:k<hs.length) (hn:(vBl hs).Nodup) (hx:∀b ∈ zQd x.2,b ∉ vBl hs):(vBl (hs.set k x)).Nodup:=by
 obtain⟨y,hy⟩:=zQL hk
 have e:hs=hs.take k ++ y :: hs.drop (k+1):=by rw[←zXU hy,List.take_append_drop]
 have e2:vBl hs=vBl (hs.take k) ++ (zQd y.2 ++ vBl (hs.drop (k+1))):=by conv=>lhs;rw[e,zXz,zVY]
 rw[e2]at hn hx
 rw[yYO hk,zXz,zVY]
 obtain⟨n1,n2,n3⟩:=List.nodup_append.1 hn
 obtain⟨m1,m2,m3⟩:=List.nodup_append.1 n2
 refine List.nodup_append.2 ⟨n1,List.nodup_append.2 ⟨zYC _,m2,λa ha b hb e=>?_⟩,λa ha b hb e=>?_⟩
 ·subst e
  exact hx a ha (List.mem_append_right _ (List.mem_append_right _ hb))
 ·subst e
  rcases List.mem_append.1 hb with hb|hb
  ·exact hx a hb (List.mem_append_left _ ha)
  ·exact n3 a ha a (List.mem_append_right _ hb) rfl
theorem zJM.set (ht:zJM w t h) {k:Nat} (hk:k<t.recs.length) {q:SV} {x:Rec} (hq:zQl w 73 3 q (x.v.flatMap zV6)) (hn:∀b ∈ zQd q,b ∉ vBl h.hs) {K:World->Prop}
  (hK:∀w1,zJM w1 { t with recs:=t.recs.set k x } { h with hs:=h.hs.set k (x.gone,q) }->Fr (· ∈ zQd h.r) w w1->K w1):∃a,h.r.a=some a/\stA prog 67 (a.add (k * 2)) #[.bool x.gone,slV q] w K:=by
 have hl:=ht.len
 refine ht.rw_.stElem zQS (by decide) (i:=k) (by omega) (x.gone,q) yWG.symm rfl λw1 h1 dU sK=>hK w1 ⟨ht.page,h1,by simp[hl],λi y z hy hz=>?_,yXx (by omega) ht.nd hn⟩ dU
 have hy:(h.hs.set k (x.gone,q))[i]?=some y:=hy
 have hz:(t.recs.set k x)[i]?=some z:=hz
 rw[List.getElem?_set]at hy hz
 by_cases e:k=i
 ·subst e
  rw[if_pos rfl,if_pos (by omega)]at hy hz
  cases hy;cases hz
  exact⟨rfl,hq.fr dU (zQn hq ht.rw_ (by decide))⟩
 ·rw[if_neg e]at hy hz
  obtain⟨e1,e2⟩:=ht.rec_ i y z hy hz
  exact⟨e1,e2.fr dU (zQn e2 ht.rw_ (by decide))⟩
theorem zJM.mark(ht:zJM w t h){k:Nat}(hk:k<t.recs.length)(g:Bool){K:World->Prop}
  (hK:∀w1 hs,zJM w1 { t with recs:=t.recs.modify k λr=>{ r with gone:=g } } { h with hs:=hs }->vBl hs=vBl h.hs->Fr (· ∈ zQd h.r) w w1->K w1):∃a,h.r.a=some a/\Sh.st1 (a.add (k * 2)) (.bool g) w K:=by
 have hl:=ht.len
 obtain⟨y,hy⟩:=zQL (l:=h.hs) (k:=k) (by omega)
 have e2:vBl (h.hs.set k (g,y.2))=vBl h.hs:=by
  have e:h.hs=h.hs.take k ++ y :: h.hs.drop (k+1):=by rw[←zXU hy,List.take_append_drop]
  rw[yYO (by omega)]
  conv=>rhs;rw[e]
  rw[zXz,zXz,zVY,zVY]
 have hnd:(vBl (h.hs.set k (g,y.2))).Nodup:=by rw[e2];exact ht.nd
 obtain⟨a,ha,hst⟩:=zQl.stField (K:=K) ht.rw_ zQS (i:=k) (o:=0) (by omega) (by decide) (g,y.2) (.bool g) (λz hz=>by rw[hy]at hz;cases hz;rfl) λw1 h1 dU sK=>hK w1 (h.hs.set k (g,y.2)) ⟨ht.page,h1,by simp[hl],λi z u hz hu=>by
   have hz:(h.hs.set k (g,y.2))[i]?=some z:=hz
   have hu:(t.recs.modify k λr=>{ r with gone:=g })[i]?=some u:=hu
   rw[List.getElem?_set]at hz
   rw[List.getElem?_modify]at hu
   by_cases e:k=i
   ·subst e
    rw[if_pos rfl,if_pos (by omega)]at hz
    cases hz
    obtain⟨r,hr⟩:=zQL hk
    simp only[if_pos,hr]at hu
    have hu:u={ r with gone:=g }:=by simpa using hu.symm
    subst hu
    obtain⟨e1,e2⟩:=ht.rec_ k y r hy hr
    exact⟨rfl,e2.fr dU (zQn e2 ht.rw_ (by decide))⟩
   ·rw[if_neg e]at hz
    simp only[if_neg e]at hu
    obtain⟨e1,e2⟩:=ht.rec_ i z u hz (by simpa using hu)
    exact⟨e1,e2.fr dU (zQn e2 ht.rw_ (by decide))⟩,hnd⟩ e2 dU
 rw[yKR]at hst
 exact⟨a,ha,hst⟩
theorem vBl_at {hs:List (Bool × SV)} (hn:(vBl hs).Nodup) {i j:Nat} {x y:Bool × SV} (hx:hs[i]?=some x) (hy:hs[j]?=some y) (hij:i ≠ j):∀b ∈ zQd x.2,b ∉ zQd y.2:=by
 have key:∀{i j:Nat} {x y:Bool × SV},i<j->hs[i]?=some x->hs[j]?=some y->∀b ∈ zQd x.2,b ∉ zQd y.2:=λ{i j x y} h hx hy b hb hc=>by
  have e:vBl hs=vBl (hs.take (i+1)) ++ vBl (hs.drop (i+1)):=by rw[←zXz,List.take_append_drop]
  rw[e]at hn
  refine(List.nodup_append.1 hn).2.2 b ?_ b ?_ rfl
  ·rw[zQE hx,zXz]
   exact List.mem_append_right _ (by simpa[vBl] using hb)
  ·refine zV5 (x:=y) (List.mem_of_getElem? (i:=j - (i+1)) ?_) hc
   rw[List.getElem?_drop,show i+1+(j - (i+1))=j by omega];exact hy
 rcases Nat.lt_or_gt_of_ne hij with h|h
 ·exact key h hx hy
 ·exact λb hb hc=>key h hy hx b hc hb
theorem zJM.setV (ht:zJM w t h) {k i:Nat} {r:Rec} (hr:t.recs[k]?=some r) (hi:i<r.v.length) (v:Val) {K:World->Prop} {y:Bool × SV} (hy:h.hs[k]?=some y)
  (hK:∀w1,zJM w1 { t with recs:=t.recs.modify k λr=>{ r with v:=r.v.set i v } } h->Fr (· ∈ zQd y.2) w w1->K w1):∃a,y.2.a=some a/\stA prog 73 (a.add (i * 3)) #[.int .i64 v.kind,.int .i64 v.n,.string v.s] w K:=by
 obtain⟨e1,e2⟩:=ht.rec_ k y r hy hr
 refine e2.stElem zXB (by decide) (i:=i) hi v xYj.symm rfl λw1 h1 dU sK=>hK w1 ⟨ht.page,ht.rw_.fr dU λb hb hc=>zQn e2 ht.rw_ (by decide) b hc hb,by simp[ht.len],λj z u hz hu=>?_,ht.nd⟩ dU
 have hu:(t.recs.modify k λr=>{ r with v:=r.v.set i v })[j]?=some u:=hu
 rw[List.getElem?_modify]at hu
 by_cases e:k=j
 ·subst e
  simp only[if_pos,hr]at hu
  have hu:u={ r with v:=r.v.set i v }:=by simpa using hu.symm
  subst hu
  rw[hy]at hz;cases hz
  exact⟨e1,h1⟩
 ·simp only[if_neg e]at hu
  obtain⟨d1,d2⟩:=ht.rec_ j z u hz (by simpa using hu)
  exact⟨d1,d2.fr dU λb hb hc=>vBl_at ht.nd hy hz e b hc hb⟩
end Go.Proofs.YtaeecpjhfmcliaaGreatDoor
/- The log: transactions are begun, ended and taken back. No condition but those stated. -/
namespace Go.Proofs.YtaeecpjhfmcliaaGreatDoor
open Go.Sh Go.RowKit Tryz
variable {w0 w w' : World} {X : Nat -> Prop} {L L' : SL} {d d' : Dat} {mu : Int} {p : Int} {f : List Fld}
theorem zQJ.st1S (h:zQJ X w L d mu) {o:Nat} {v:Value} {K:World->Prop} (ho:o<11) (hK:∀w2,w2.heap[L.S]?=some (.cells ((zKd mu L).setIfInBounds o v) 108)->Fr (·=L.S) w w2->K w2):st1 ((⟨L.S,0,none⟩:Addr).add o) v w K:=by
 rw[zQr,Nat.zero_add]
 exact zQt h.st ho λw2 nu aM=>hK w2 aM (by rw[nu];exact Fr.cell w _ _ _)
def yXr(X:Nat->Prop)(w:World)(L:SL)(v:Value)(d':Dat):Rt:=λe w'=>e=.returned v/\∃L',zQJ X w' L' d' 0/\zZi w w' L L'
theorem zXQ{v:Value}(h:zQJ X w L d 1)(hl:zZi w0 w L' L):zQc prog [zZf L] w λw2=>yXr X w0 L' v d (.returned v) w2:=yYa h hl λw3 h3 h4 _=>⟨rfl,L,h3,h4⟩
theorem zZe{v:Value}{L0:SL}(h:zQJ X w L d 1)(hl:zZi w0 w L0 L)(hp:L0.S=L.S):zQc prog [zZf L0] w λw2=>yXr X w0 L0 v d (.returned v) w2:=by
 have:zZf L0=zZf L:=by unfold zZf SL.ptr;rw[hp]
 rw[this];exact zXQ h hl
theorem yJI(h:zQJ X w L d 0)(hi:InvW p f d):Calls prog 35 #[L.ptr] w (yXr X w L (.int .i64 (zKf d.σ)) d.begin):=by
 have hlv:=h.lv.len zQv (by decide)
 have hll:=h.ll
 have h8:=hi.l8
 refine xQV _ w _ ((zX0 h (Pu.refl w)).mono ?_)
 rintro e w1 ⟨rfl,hI,hf,hs⟩
 have h1:=hI.at_ h
 refine⟨_,_,rfl,zJB (Br.of (λc=>by cases c) λ_=>⟨L.lv,h1.cellA 5,Br.of (λc=>?_) (λc=>?_)⟩)⟩
 ·have c:8<=d.σ.lev.length:=by have:=zQk c;omega
  have e1:zKf d.σ=3:=by unfold zKf;rw[if_pos c]
  have e2:d.begin=d:=by unfold Dat.begin Dat.to zJc;rw[if_pos c]
  rw[e1,e2]
  exact zXQ h1 hI.left
 ·have c:¬8<=d.σ.lev.length:=by have:=zQe c;omega
  have e1:zKf d.σ=0:=by unfold zKf;rw[if_neg c]
  have e2:d.begin={ d with σ:={ d.σ with lev:=d.σ.lev ++ [d.σ.t] } }:=by unfold Dat.begin Dat.to zJc;rw[if_neg c]
  rw[e1,e2]
  refine zQb λw5 aT _=>?_
  have h5:=h1.pu aT
  refine⟨λu=>Pu w5 u,Pu.refl _,L.lv,λu hu=>(h5.pu hu).cellA 5,_,λu hu=>(h5.pu hu).cellB 2 0,L.now.f,λu hu=>(h5.pu hu).cellB 2 1,L.now.r,λu hu=>(h5.pu hu).cellB 2 2,?_⟩
  rw[h5.now.page]
  refine(zJV (h5.rdNow hi.t.ok) hi.t.ok).mono ?_
  rintro e w8 ⟨q,rfl,hq,bU⟩
  refine⟨q.page,q.f,q.r,rfl,bU,alB λw9 cG oM=>⟨bU.trans cG,?_⟩⟩
  obtain⟨s,aN,hr,hst⟩:=h5.pushLev (bU.trans cG) (hq.pu cG) hi.t.ok oM (by omega) (K:=λaO=>zQc prog [zZf L] aO λaI=>yXr X w L (.int .i64 0) { d with σ:={ d.σ with lev:=d.σ.lev ++ [d.σ.t] } } (.returned (.int .i64 0)) aI) λaO L1 nA ql=>
   zZe nA ((hI.left.trans (zZi.pu aT L)).trans ql) ql.ptr.symm
  exact⟨s,aN,hr,hst⟩
theorem yZz{e:TypeId}{sz:Nat}{s:SV}{vs:List Value}{n:Nat}(h:zQl w e sz s vs)(hn:n<=s.len)(ha:s.a ≠ none):zQl w e sz ⟨s.a,n,s.cap⟩ (vs.take (n * sz)):=by
 obtain⟨h1,hd|⟨g,cur,h3,h4,h5,h6,h7,h8⟩⟩:=h
 ·rw[hd]at ha;exact absurd rfl ha
 ·have hm:n * sz<=s.len * sz:=Nat.mul_le_mul_right _ hn
  refine⟨by rw[List.length_take,h1];exact Nat.min_eq_left hm,.inr ⟨g,cur,h3,h4,Nat.le_trans hn h5,h6,h7,?_⟩⟩
  rw[←h8,List.take_take,Nat.min_eq_left hm]
theorem yX3 {α:Type} {l:List α} (h:l ≠ []):∃l0 x,l=l0 ++ [x]:=⟨l.dropLast,l.getLast h,(List.dropLast_concat_getLast h).symm⟩
structure yKj(L:SL)(d:Dat)(l0:List HT)(x:HT)(v0:List Tbl)(t:Tbl):Prop where
 lh:L.lh=l0 ++ [x]
 lev:d.σ.lev=v0 ++ [t]
def SL.pop(L:SL)(l0:List HT):SL:={ L with lv:=⟨L.lv.a,L.lv.len - 1,L.lv.cap⟩,lh:=l0 }
theorem yYE {l0:List HT} {x:HT} (h:L.lh=l0 ++ [x]) {b:Nat} (hb:(L.pop l0).own b):L.own b:=by
 rcases hb with hb|hb|hb|hb|hb|⟨z,hz,hb⟩
 ·exact .inl hb
 ·exact .inr (.inl hb)
 ·exact .inr (.inr (.inl hb))
 ·exact .inr (.inr (.inr (.inl hb)))
 ·exact .inr (.inr (.inr (.inr (.inl hb))))
 ·refine .inr (.inr (.inr (.inr (.inr ⟨z,?_,hb⟩))))
  have hz:z ∈ L.now :: l0:=hz
  rcases List.mem_cons.1 hz with rfl|hz
  ·exact List.mem_cons_self
  ·rw[h];exact List.mem_cons_of_mem _ (List.mem_append_left _ hz)
theorem pop_row(h:zQJ X w L d mu){l0:List HT}{x:HT}{v0:List Tbl}{t:Tbl}(hP:yKj L d l0 x v0 t):zQl w 35 3 ⟨L.lv.a,L.lv.len - 1,L.lv.cap⟩ (l0.flatMap zVD):=by
 have hl:=h.lv.len zQv (by decide)
 have hll:L.lh.length=l0.length+1:=by rw[hP.lh];simp
 have ha:L.lv.a ≠ none:=by
  obtain⟨_,hd|⟨g,cur,h3,_⟩⟩:=h.lv
  ·rw[hd]at hl
   have hl:0=L.lh.length:=hl
   omega
  ·rw[h3];simp
 have h1:=yZz h.lv (n:=L.lv.len - 1) (by omega) ha
 rw[hP.lh,List.flatMap_append,show L.lv.len - 1=l0.length by omega]at h1
 have e:(l0.flatMap zVD).length=l0.length * 3:=zQ2 zQv l0
 rw[←e,List.take_left]at h1
 rw[show L.lv.len - 1=l0.length by omega]
 exact h1
theorem zQJ.pop (h:zQJ X w L d mu) {l0:List HT} {x:HT} {v0:List Tbl} {t:Tbl} (hP:yKj L d l0 x v0 t) (hf:Fr (·=L.S) w w') {mu':Int} (hst:w'.heap[L.S]?=some (.cells (zKd mu' (L.pop l0)) 108)):zQJ X w' (L.pop l0) { d with σ:={ d.σ with lev:=v0 } } mu':=by
 have hr:=pop_row h hP
 have hll:l0.length=v0.length:=by
  have:=h.ll
  rw[hP.lh,hP.lev]at this;simpa using this
 have at0:∀{i:Nat} {y:HT},l0[i]?=some y->L.lh[i]?=some y:=λ{i y} hy=>by rw[hP.lh,List.getElem?_append_left (List.getElem?_eq_some_iff.1 hy).1];exact hy
 have xV:∀{i:Nat} {y:Tbl},v0[i]?=some y->d.σ.lev[i]?=some y:=λ{i y} hy=>by rw[hP.lev,List.getElem?_append_left (List.getElem?_eq_some_iff.1 hy).1];exact hy
 refine⟨hst,hr.fr hf λb hb e=>hr.other h.st (by decide) (by rw[←show b=L.S from e];exact hb),h.dn.fr hf λb hb e=>h.dn.other h.st (by decide) (by rw[←show b=L.S from e];exact hb),h.wr.fr hf λb hb e=>h.wr.other h.st (by decide) (by rw[←show b=L.S from e];exact hb),h.pt.fr hf λb hb e=>h.pt.other h.st (by decide) (by rw[←show b=L.S from e];exact hb),
  h.now.fr hf λb hb e=>h.now.other h.st (by decide) (by decide) (by rw[←show b=L.S from e];exact hb),hll,h.dl,h.wl,λi y u hy hu=>(h.lvs i y u (at0 hy) (xV hu)).fr hf λb hb e=>(h.lvs i y u (at0 hy) (xV hu)).other h.st (by decide) (by decide) (by rw[←show b=L.S from e];exact hb),h.ld,λy hy=>h.dj y (by rw[hP.lh];exact List.mem_append_left _ hy),λi j y z hij hy hz=>h.djl i j y z hij (at0 hy) (at0 hz),λb hb=>Nat.lt_of_lt_of_le (h.xl b hb) hf.size,λw2 h2=>?_⟩
 have k:=h.kp w2 ((hf.mono λb hb _=>.inl (.inl hb)).trans h2 λb hb _=>hb.imp (yYE hP.lh) id)
 exact⟨k.nf,λi y u hy hu=>k.lf i y u (at0 hy) (xV hu),k.dt,k.fi,k.la,k.wb⟩
def SL.undo(L:SL)(l0:List HT)(x:HT):SL:={ L with lv:=⟨L.lv.a,L.lv.len - 1,L.lv.cap⟩,lh:=l0,now:=x }
theorem yKw {l0:List HT} {x:HT} (h:L.lh=l0 ++ [x]) {b:Nat} (hb:(L.undo l0 x).own b):L.own b:=by
 rcases hb with hb|hb|hb|hb|hb|⟨z,hz,hb⟩
 ·exact .inl hb
 ·exact .inr (.inl hb)
 ·exact .inr (.inr (.inl hb))
 ·exact .inr (.inr (.inr (.inl hb)))
 ·exact .inr (.inr (.inr (.inr (.inl hb))))
 ·refine .inr (.inr (.inr (.inr (.inr ⟨z,?_,hb⟩))))
  have hz:z ∈ x :: l0:=hz
  rw[h]
  rcases List.mem_cons.1 hz with rfl|hz
  ·exact List.mem_cons_of_mem _ (List.mem_append_right _ (List.mem_singleton.2 rfl))
  ·exact List.mem_cons_of_mem _ (List.mem_append_left _ hz)
theorem zQJ.undo (h:zQJ X w L d mu) {l0:List HT} {x:HT} {v0:List Tbl} {t:Tbl} (hP:yKj L d l0 x v0 t) (hf:Fr (·=L.S) w w') {mu':Int} (hst:w'.heap[L.S]?=some (.cells (zKd mu' (L.undo l0 x)) 108)):zQJ X w' (L.undo l0 x) { d with σ:={ d.σ with t:=t,lev:=v0 } } mu':=by
 have hr:=pop_row h hP
 have hll:l0.length=v0.length:=by
  have:=h.ll
  rw[hP.lh,hP.lev]at this;simpa using this
 have at0:∀{i:Nat} {y:HT},l0[i]?=some y->L.lh[i]?=some y:=λ{i y} hy=>by rw[hP.lh,List.getElem?_append_left (List.getElem?_eq_some_iff.1 hy).1];exact hy
 have xV:∀{i:Nat} {y:Tbl},v0[i]?=some y->d.σ.lev[i]?=some y:=λ{i y} hy=>by rw[hP.lev,List.getElem?_append_left (List.getElem?_eq_some_iff.1 hy).1];exact hy
 have lx:L.lh[l0.length]?=some x:=by rw[hP.lh,List.getElem?_append_right (Nat.le_refl _),Nat.sub_self];rfl
 have lt:d.σ.lev[l0.length]?=some t:=by rw[hP.lev,hll,List.getElem?_append_right (Nat.le_refl _),Nat.sub_self];rfl
 have hx:=h.lvs _ x t lx lt
 refine⟨hst,hr.fr hf λb hb e=>hr.other h.st (by decide) (by rw[←show b=L.S from e];exact hb),h.dn.fr hf λb hb e=>h.dn.other h.st (by decide) (by rw[←show b=L.S from e];exact hb),h.wr.fr hf λb hb e=>h.wr.other h.st (by decide) (by rw[←show b=L.S from e];exact hb),h.pt.fr hf λb hb e=>h.pt.other h.st (by decide) (by rw[←show b=L.S from e];exact hb),
  hx.fr hf λb hb e=>hx.other h.st (by decide) (by decide) (by rw[←show b=L.S from e];exact hb),hll,h.dl,h.wl,λi y u hy hu=>(h.lvs i y u (at0 hy) (xV hu)).fr hf λb hb e=>(h.lvs i y u (at0 hy) (xV hu)).other h.st (by decide) (by decide) (by rw[←show b=L.S from e];exact hb),h.ld,λy hy b hb hyb=>?_,λi j y z hij hy hz=>h.djl i j y z hij (at0 hy) (at0 hz),λb hb=>Nat.lt_of_lt_of_le (h.xl b hb) hf.size,λw2 h2=>?_⟩
 ·obtain⟨i,hi⟩:=List.getElem?_of_mem (show y ∈ l0 from hy)
  have:=(List.getElem?_eq_some_iff.1 hi).1
  exact h.djl l0.length i x y (by omega) lx (at0 hi) b hb hyb
 ·have k:=h.kp w2 ((hf.mono λb hb _=>.inl (.inl hb)).trans h2 λb hb _=>hb.imp (yKw hP.lh) id)
  exact⟨k.lf _ x t lx lt,λi y u hy hu=>k.lf i y u (at0 hy) (xV hu),k.dt,k.fi,k.la,k.wb⟩
theorem yKH(h:zQJ X w L d 1)(hn:d.σ.lev.length<=1000000):Calls prog 80 #[L.ptr] w λe w'=>(d.σ.lev=[]/\e=.returned (.tuple #[.agg #[.int .i64 0,.slice none 0 0,.slice none 0 0],.int .i64 9])/\Pu w w') ∨
  ∃l0 x v0 t,yKj L d l0 x v0 t/\e=.returned (.tuple #[.agg #[.int .i64 x.page,slV x.f,slV x.r],.int .i64 0])/\Fr (·=L.S) w w'/\w'.heap[L.S]?=some (.cells (zKd 1 (L.pop l0)) 108):=by
 have hlv:=h.lv.len zQv (by decide)
 have hll:=h.ll
 have hS:=h.S_lt
 refine xXV _ w _ (alB λw1 aq aB=>?_)
 have h1:=h.pu aq
 refine⟨L.lv,h1.cellA 5,Br.of (λc=>?_) (λc=>?_)⟩
 ·have c:L.lv.len=0:=by simpa using c
  refine zQi aB zKZ.symm rfl rfl λw3 bp gd _=>⟨_,cl bp 0,⟨none,0,0⟩,cl bp 1,⟨none,0,0⟩,cl bp 2,.inl ⟨List.eq_nil_of_length_eq_zero (by omega),rfl,aq.andNew gd λi hi=>by rw[show i=_ from hi];exact Nat.le_refl _⟩⟩
 ·have c:¬L.lv.len=0:=by simpa using c
  obtain⟨l0,x,hlh⟩:=yX3 (l:=L.lh) (λe=>by rw[e]at hlv;simp at hlv;omega)
  obtain⟨v0,t,nr⟩:=yX3 (l:=d.σ.lev) (λe=>by rw[e]at hll;simp at hll;rw[hll]at hlv;simp at hlv;omega)
  have hlen:L.lh.length=l0.length+1:=by rw[hlh];simp
  have hx:L.lh[L.lv.len - 1]?=some x:=by rw[hlh,List.getElem?_append_right (by omega),show L.lv.len - 1 - l0.length=0 by omega];rfl
  obtain⟨a,ha,hk,c0⟩:=h1.lv.elem zQv hx (o:=0) rfl
  obtain⟨a',ha',_,c1⟩:=h1.lv.elem zQv hx (o:=1) rfl
  obtain⟨a'',ha'',_,c2⟩:=h1.lv.elem zQv hx (o:=2) rfl
  rw[ha]at ha' ha'';cases ha';cases ha''
  rw[zQa (n:=((L.lv.len:Nat):Int) - 1) (by omega) (by omega),show((L.lv.len:Nat):Int) - 1=((L.lv.len - 1:Nat):Int)by omega,zXf]
  have hcap:=h1.lv.le_cap.1
  refine⟨L.lv,h1.cellA 5,a,ha,by omega,by omega,_,c0,x.f,c1,x.r,c2,alB λw7 ck jw=>zQi jw zKZ.symm rfl rfl λw8 j8 oQ _=>?_⟩
  have nw:Pu w1 w8:=ck.andNew oQ λi hi=>by rw[show i=_ from hi];exact Nat.le_refl _
  have dw:=aq.trans nw
  have h8:=h.pu dw
  have nG:w.heap.size<w1.heap.size:=zQy aB
  refine⟨L.lv,h8.cellA 5,by omega,by omega,by omega,?_⟩
  have esl:(if L.lv.cap=0 then L.lv.a else L.lv.a.map (λx=>x.add (0 * 3)))=L.lv.a:=by rw[if_neg (by omega),ha];show some (a.add (0 * 3))=_;rw[Nat.zero_mul,yKR]
  rw[esl,Nat.sub_zero,Nat.sub_zero]
  rw[zZq]
  refine h8.st1S (by decide) λaV iu nx=>?_
  have xW:=nx.blk j8 (show ¬w1.heap.size=L.S by omega)
  have b111:=nx.blk (nw.blk aB) (show ¬w.heap.size=L.S by omega)
  refine⟨_,cl xW 0,x.f,cl xW 1,x.r,cl xW 2,zQi b111 zKZ.symm rfl rfl λaO lk eH _=>⟨_,cl lk 0,x.f,cl lk 1,x.r,cl lk 2,.inr ⟨l0,x,v0,t,⟨hlh,nr⟩,rfl,?_,?_⟩⟩⟩
  ·exact((Fr.pu dw:Fr (·=L.S) w w8).trans nx λ_ h _=>h).trans eH λb hb hlt=>by have hb:b=w.heap.size:=hb;omega
  ·exact eH.blk iu (show ¬L.S=w.heap.size by omega)
theorem end_c(h:zQJ X w L d 0)(hi:Inv p f d)(hs:Fit d):Calls prog 36 #[L.ptr] w (yXr X w L (.int .i64 (zJl d.σ)) d.end_):=by
 have hS:=h.S_lt
 have tH:=hi.l8
 refine xX9 _ w _ ((zX0 h (Pu.refl w)).mono ?_)
 rintro e w1 ⟨rfl,hI,hf,hsz⟩
 have h1:=hI.at_ h
 refine⟨_,_,rfl,zJB (Br.of (λc=>by cases c) λ_=>(yKH h1 (by omega)).mono ?_)⟩
 rintro e w3 (⟨hnil,rfl,ax⟩|⟨l0,x,v0,t,hP,rfl,gd,xX⟩)
 ·refine⟨0,⟨none,0,0⟩,⟨none,0,0⟩,9,rfl,alB λw4 aK du=>zQi du zKZ.symm rfl rfl λw5 bq cI _=>Br.of (λ_=>?_) (λc=>by cases c)⟩
  have fh:Pu w1 w5:=(ax.trans aK).andNew cI λi hi=>by rw[show i=_ from hi];exact ax.size
  have e1:zJl d.σ=9:=by unfold zJl;rw[if_pos hnil]
  have e2:d.end_=d:=by unfold Dat.end_;rw[if_pos hnil]
  rw[e1,e2]
  exact zXQ (h1.pu fh) (hI.left.trans (zZi.pu fh L))
 ·have h3:=h1.pop hP gd xX
  have hlne:d.σ.lev ≠ []:=by rw[hP.lev];simp
  have e1:zJl d.σ=0:=by unfold zJl;rw[if_neg hlne]
  have e2:d.end_=({ d with σ:={ d.σ with lev:=v0 } }:Dat).commit:=by unfold Dat.end_ Dat.to;rw[if_neg hlne,hP.lev,List.dropLast_concat]
  have hW:InvW p f { d with σ:={ d.σ with lev:=v0 } }:=by
   have:=yX9 hi
   unfold Dat.to at this
   rw[hP.lev,List.dropLast_concat]at this;exact this
  have hL3:zZi w1 w3 L (L.pop l0):=⟨gd.mono λb hb _=>.inl hb,λb hb=>.inl (yYE hP.lh hb),rfl⟩
  refine⟨x.page,x.f,x.r,0,rfl,alB λw4 aK du=>zQi du zKZ.symm rfl rfl λw5 bq cI _=>Br.of (λc=>by cases c) (λ_=>?_)⟩
  have bQ:Pu w3 w5:=aK.andNew cI λi hi=>by rw[show i=_ from hi];exact Nat.le_refl _
  refine Calls.mono (yKa (L:=L.pop l0) (h3.pu bQ) hW ⟨hs.l1,hs.l2,hs.wn,hs.dn⟩) ?_
  rintro e w7 ⟨rfl,L2,h7,hL7⟩
  refine⟨rfl,?_⟩
  rw[e1,e2]
  have hL:=(hI.left.trans hL3).trans ((zZi.pu bQ (L.pop l0)).trans hL7)
  exact zZe h7 hL hL.ptr.symm
end Go.Proofs.YtaeecpjhfmcliaaGreatDoor
/- The log: records are put behind, replaced, marked; values are set. No condition but those stated. -/
namespace Go.Proofs.YtaeecpjhfmcliaaGreatDoor
open Go.Sh Go.RowKit Tryz
variable {w0 w w' : World} {X : Nat -> Prop} {L L' : SL} {d d' : Dat} {mu : Int} {p : Int} {f : List Fld}
theorem yXI{L1:SL}{w1:World}{d1:Dat}(h1:zQJ X w1 L1 d1 1)(hl:zZi w w1 L L1)(hW:InvW p f d1)(hs:Fit d1):Calls prog 79 #[L.ptr] w1 λe w2=>e=.returned (.tuple #[])/\∃L2,zQJ X w2 L2 d1.commit 1/\zZi w w2 L L2:=by
 have e:L.ptr=L1.ptr:=by unfold SL.ptr;rw[hl.ptr]
 rw[e]
 refine(yKa h1 hW hs).mono ?_
 rintro e w2 ⟨rfl,L2,h2,yD⟩
 exact⟨rfl,L2,h2,hl.trans yD⟩
theorem stA3 {c:Array Value} {S:Nat} {v0 v1 v2:Value} {K:World->Prop} (hb:w.heap[S]?=some (.cells c 108)) (hc:c.size=11) (h0:yXq v0=true) (h1:yXq v1=true) (h2:yXq v2=true)
  (hK:∀w2,w2.heap[S]?=some (.cells (((c.setIfInBounds 2 v0).setIfInBounds 3 v1).setIfInBounds 4 v2) 108)->Fr (·=S) w w2->K w2):stA prog 35 ((⟨S,0,none⟩:Addr).add 2) #[v0,v1,v2] w K:=by
 refine⟨zKZ.symm,by simp[h0,h1,h2],?_⟩
 show Sh.st1 (((⟨S,0,none⟩:Addr).add 2).add 0) v0 w _
 rw[zQr,zQr]
 refine zQt hb (by omega) λwa hwa hba=>?_
 show Sh.st1 (((⟨S,0+2,none⟩:Addr)).add 1) v1 wa _
 rw[zQr]
 refine zQt hba (by simp;omega) λwb hwb hbb=>?_
 show Sh.st1 (((⟨S,0+2,none⟩:Addr)).add 2) v2 wb _
 rw[zQr]
 refine zQt hbb (by simp;omega) λwc hwc hbc=>hK wc hbc ?_
 rw[hwc,hwb,hwa]
 exact((Fr.cell w _ _ _).trans (Fr.cell _ _ _ _) λ_ h _=>h).trans (Fr.cell _ _ _ _) λ_ h _=>h
theorem xVb(h:zQJ X w L d 0)(tH:d.σ.lev.length<=8):Calls prog 37 #[L.ptr] w (yXr X w L (.int .i64 (zJl d.σ)) d.back):=by
 have hS:=h.S_lt
 refine xQq _ w _ ((zX0 h (Pu.refl w)).mono ?_)
 rintro e w1 ⟨rfl,hI,hf,hsz⟩
 have h1:=hI.at_ h
 refine⟨_,_,rfl,zJB (Br.of (λc=>by cases c) λ_=>(yKH h1 (by omega)).mono ?_)⟩
 rintro e w3 (⟨hnil,rfl,ax⟩|⟨l0,x,v0,t,hP,rfl,gd,xX⟩)
 ·refine⟨0,⟨none,0,0⟩,⟨none,0,0⟩,9,rfl,alB λw4 aK du=>zQi du zKZ.symm rfl rfl λw5 bq cI _=>Br.of (λ_=>?_) (λc=>by cases c)⟩
  have fh:Pu w1 w5:=(ax.trans aK).andNew cI λi hi=>by rw[show i=_ from hi];exact ax.size
  have e1:zJl d.σ=9:=by unfold zJl;rw[if_pos hnil]
  have e2:d.back=d:=by unfold Dat.back Dat.to zVl;rw[if_pos hnil]
  rw[e1,e2]
  exact zXQ (h1.pu fh) (hI.left.trans (zZi.pu fh L))
 ·have hlne:d.σ.lev ≠ []:=by rw[hP.lev];simp
  have e1:zJl d.σ=0:=by unfold zJl;rw[if_neg hlne]
  have e2:d.back={ d with σ:={ d.σ with t:=t,lev:=v0 } }:=by
   unfold Dat.back Dat.to zVl;rw[if_neg hlne,hP.lev,List.dropLast_concat,List.getLast?_concat];rfl
  refine⟨x.page,x.f,x.r,0,rfl,alB λw4 aK du=>zQi du zKZ.symm rfl rfl λw5 bq cI _=>Br.of (λc=>by cases c) (λ_=>⟨_,cl bq 0,x.f,cl bq 1,x.r,cl bq 2,?_⟩)⟩
  have bQ:Pu w3 w5:=aK.andNew cI λi hi=>by rw[show i=_ from hi];exact Nat.le_refl _
  rw[zZq]
  refine stA3 (bQ.blk xX) rfl rfl rfl rfl λw8 j8 oQ=>?_
  have hf18:Fr (·=L.S) w1 w8:=(gd.trans (Fr.pu bQ:Fr (·=L.S) w3 w5) λ_ h _=>h).trans oQ λ_ h _=>h
  have h8:=h1.undo hP hf18 (mu':=1) j8
  have hL8:zZi w1 w8 L (L.undo l0 x):=⟨hf18.mono λb hb _=>.inl hb,λb hb=>.inl (yKw hP.lh hb),rfl⟩
  rw[e1,e2]
  exact zZe h8 (hI.left.trans hL8) rfl
theorem zYK(h:zQJ X w L d mu)(hn:d.σ.t.recs.length<=1000000)(k:Int):Calls prog 81 #[L.ptr,.int .i64 k] w λe w'=>e=.returned (.bool (zXh d.σ k))/\w'=w:=by
 have hrl:=h.now.rlen
 refine xXf _ _ w _ (Br.of (λc=>⟨L.now.r,h.cellB 2 2,?_,rfl⟩) (λc=>⟨?_,rfl⟩))
 ·have c:=zQk c
  unfold zXh
  rw[hrl,decide_eq_true (show 1<=k by omega),Bool.true_and]
 ·have c:=zQe c
  unfold zXh
  rw[decide_eq_false (show ¬1<=k by omega),Bool.false_and]
theorem xJZ(h:zQJ X w L d mu)(hv:zQg d.σ.t=0){s:SV}{r:Rec}(hr:zX7 w s r.v):Calls prog 77 #[L.ptr,.agg #[.bool r.gone,slV s]] w λe w'=>e=.returned (.int .i64 (zQ1 d.σ.t.fields d.σ.t.page r))/\Pu w w':=by
 have hR:=zQN.of hv
 refine xQe _ _ _ w _ (alB λw1 aq aB=>zQb λw2 ar _=>?_)
 have aG:=aq.trans ar
 have h2:=h.pu aG
 have cN:=ar.blk aB
 refine⟨λu=>Pu w2 u,Pu.refl _,d.σ.t.page,λu hu=>by rw[(h2.pu hu).cellA 2,←h.now.page];rfl,L.now.f,λu hu=>(h2.pu hu).cellB 2 1,r.gone,λu hu=>cl (hu.blk cN) 0,s,λu hu=>cl (hu.blk cN) 1,alB λw5 aT bq=>⟨aT,?_⟩⟩
 have cM:=aG.trans aT
 have hrow:zX7 w5 ⟨some ⟨w2.heap.size,0,none⟩,1,1⟩ [r]:=by
  refine⟨rfl,Nat.le_refl _,by show 1<=140737488355328;omega,λi x hx=>?_⟩
  have x8:i=0:=by have:=(List.getElem?_eq_some_iff.1 hx).1;simp at this;exact this
  subst x8
  simp at hx;subst hx
  refine⟨⟨w2.heap.size,0,none⟩,rfl,[.bool r.gone,slV s],⟨s,rfl,hr.pu cM⟩,λj v hv=>?_⟩
  rcases j with _|_|j <;> simp at hv
  ·subst hv;exact cl bq 0
  ·subst hv;exact cl bq 1
 refine(zZ0 (t:=⟨d.σ.t.page,d.σ.t.fields,[r]⟩) ⟨(zX8 hv).page,((h.pu cM).kp0).nf,hrow⟩ (show Lim.ok d.σ.t.fields from zZC hv)).mono ?_
 rintro e w6 ⟨rfl,bn⟩
 refine⟨_,rfl,?_,cM.trans bn⟩
 congr 2
 unfold zQg
 rw[if_pos hR.page,if_neg (by rw[hR.vf];simp),if_neg (by show ¬300<1;omega)]
 show zXw d.σ.t.fields d.σ.t.page [r]=_
 unfold zXw
 split
 ·rfl
 ·rename_i hx
  have:zQ1 d.σ.t.fields d.σ.t.page r=0:=by simpa using hx
  rw[this];rfl
def RecK(w:World)(L:SL)(s:SV)(r:Rec):Prop:=∀w2,Fr L.own w w2->zX7 w2 s r.v
theorem xX5{b:Nat}(h:b ∈ zQd L.now.r∨b ∈ vBl L.now.hs):L.own b:=.inr (.inr (.inr (.inr (.inr ⟨L.now,List.mem_cons_self,h⟩))))
theorem app_c(h:zQJ X w L d 0)(hi:Inv p f d)(hs:Fit d){s:SV}{r:Rec}(hr:RecK w L s r):Calls prog 34 #[L.ptr,.agg #[.bool r.gone,slV s]] w (yXr X w L (.tuple #[.int .i64 (yYe d.σ r),.int .i64 (yJa d.σ r)]) (d.app r)):=by
 have hS:=h.S_lt
 have cJ:=(zQN.of hi.t.ok).n300
 have hrl:=h.now.rlen
 refine xQW _ _ _ w _ (alB λw1 aq aB=>(zX0 h aq).mono ?_)
 rintro e w2 ⟨rfl,hI,hf,hsz⟩
 have h2:=hI.at_ h
 have nG:w.heap.size<w1.heap.size:=zQy aB
 have b2:=hf.blk aB (show ¬w.heap.size=L.S by omega)
 have stay:∀{w3:World} (c:Int),yJa d.σ r=c->c ≠ 0->Pu w2 w3->zQc prog [zZf L] w3 λw4=>yXr X w L (.tuple #[.int .i64 (yYe d.σ r),.int .i64 (yJa d.σ r)]) (d.app r) (.returned (.tuple #[.int .i64 0,.int .i64 c])) w4:=λ{w3} c hc h0 hp=>by
  have e1:yYe d.σ r=0:=by unfold yYe;rw[if_neg (by rw[hc];exact h0)]
  have e2:d.app r=d:=by unfold Dat.app;rw[if_neg (by rw[hc];exact h0)]
  rw[e1,e2,hc]
  exact zXQ (h2.pu hp) (hI.left.trans (zZi.pu hp L))
 refine⟨_,_,rfl,zJB (Br.of (λc=>by cases c) λ_=>⟨L.now.r,h2.cellB 2 2,Br.of (λc=>?_) (λc=>?_)⟩)⟩
 ·exact stay 3 (by unfold yJa;rw[if_pos (by have:=zQk c;omega)]) (by decide) (Pu.refl _)
 have c:¬300<=d.σ.t.recs.length:=by have:=zQe c;omega
 have eC:yJa d.σ r=zQ1 d.σ.t.fields d.σ.t.page r:=by unfold yJa;rw[if_neg c]
 have jx:zX7 w2 s r.v:=hr w2 (hI.left.fr)
 refine⟨r.gone,cl b2 0,s,cl b2 1,(xJZ h2 hi.t.ok jx).mono ?_⟩
 rintro e w6 ⟨rfl,bn⟩
 refine⟨_,rfl,Br.of (λc1=>stay _ eC (zQ3 c1) bn) (λc1=>?_)⟩
 have c1:zQ1 d.σ.t.fields d.σ.t.page r=0:=zQs c1
 have pw:r.v.length<=1000000:=by have:=zX3 c1;have:=(zJj.of hi.t.ok).n16;omega
 refine zQb λw8 bU _=>?_
 have iv:=bn.trans bU
 have h8:=h2.pu iv
 have b8:=iv.blk b2
 refine⟨λu=>Pu w8 u,Pu.refl _,L.now.r,λu hu=>(h8.pu hu).cellB 2 2,r.gone,λu hu=>cl0 (hu.blk b8),s,λu hu=>cl (hu.blk b8) 1,(yXD (RdV.of (jx.pu iv)) pw).mono ?_⟩
 rintro e aN ⟨q,rfl,hq,hqn,dM⟩
 refine⟨q,rfl,dM,alB λaV fg iu=>⟨dM.trans fg,?_⟩⟩
 have sG:=dM.trans fg
 have rh:=h8.pu sG
 have hnl:∀b,(b ∈ zQd L.now.r∨b ∈ vBl L.now.hs)->b<w8.heap.size:=λb hb=>h8.own_lt (xX5 hb)
 obtain⟨s',aO,hra,py,eH,hbk⟩:=rh.now.push (x:=r) (hq.pu fg) (λb hb hc=>by have:=hqn b hb;have:=hnl b (.inr hc);omega) iu (by omega)
 refine⟨s',aO,hra,?_⟩
 have kM:=eH.blk rh.st (rh.now.rw_.other rh.st (by decide))
 rw[zZq,zQr,zQr]
 refine zQt kM (by show 0+2+2<11;omega) λbt hw14 iH=>?_
 have oR:Fr (·=L.S) aO bt:=by rw[hw14];exact Fr.cell aO _ _ _
 have hf811:Fr (λb=>b=L.S∨b ∈ zQd L.now.r) aV bt:=(eH.mono λb hb _=>.inr hb).trans oR λb hb _=>.inl hb
 have hT14:=py.fr oR λb hb e=>by
  have e:b=L.S:=e
  subst e
  rcases hb with hb|hb
  ·rcases hbk _ hb with hb|hb
   ·exact rh.now.rw_.other rh.st (by decide) hb
   ·have:=rh.S_lt;omega
  ·have hb:L.S ∈ vBl (L.now.hs ++ [(r.gone,q)]):=hb
   rw[zXz,List.mem_append]at hb
   rcases hb with hb|hb
   ·exact rh.now.other rh.st (by decide) (by decide) (.inr hb)
   ·have:=hqn L.S (by simpa[vBl] using hb);have:=h8.S_lt;omega
 obtain⟨h14,hL14⟩:=h8.reNow sG hf811 (λb hb=>hb.imp id .inl) (q:={ L.now with r:=s',hs:=L.now.hs ++ [(r.gone,q)] }) (t:={ d.σ.t with recs:=d.σ.t.recs ++ [r] }) iH hT14 (λb hb=>by
  rcases hb with hb|hb
  ·rcases hbk _ hb with hb|hb
   ·exact .inl (.inl hb)
   ·exact .inr (by have:=sG.size;omega)
  ·have hb:b ∈ vBl (L.now.hs ++ [(r.gone,q)]):=hb
   rw[zXz,List.mem_append]at hb
   rcases hb with hb|hb
   ·exact .inl (.inr hb)
   ·exact .inr (hqn b (by simpa[vBl] using hb))) rfl rfl
 have hLall:zZi w bt L { L with now:={ L.now with r:=s',hs:=L.now.hs ++ [(r.gone,q)] } }:=(hI.left.trans (zZi.pu iv L)).trans hL14
 have hW:=zJ4 (l:=d.σ.t.recs ++ [r]) hi (by rw[List.length_append,List.length_singleton];omega) (by rw[List.length_append];omega) λx hx=>by
  rcases List.mem_append.1 hx with hx|hx
  ·exact hi.recR x hx
  ·rw[List.mem_singleton.1 hx,←hi.t.fields,←hi.t.page];exact c1
 refine(yXI h14 hLall hW ⟨hs.l1,hs.l2,hs.wn,hs.dn⟩).mono ?_
 rintro e br ⟨rfl,L2,sH,j9⟩
 have eA:d.app r=d.recs (d.σ.t.recs ++ [r]):=by unfold Dat.app;rw[if_pos (by rw[eC];exact c1)]
 have eN:yYe d.σ r=(d.σ.t.recs.length:Int)+1:=by unfold yYe;rw[if_pos (by rw[eC];exact c1)]
 have hlen:L2.now.r.len=d.σ.t.recs.length+1:=by
  rw[sH.now.rlen,Dat.commit_σ]
  unfold zZy
  split <;> simp[Dat.to]
 rw[←j9.ptr]
 refine⟨rfl,L2.now.r,sH.cellB 2 2,?_⟩
 rw[eA,eN,eC,c1,show((L2.now.r.len:Nat):Int)=(d.σ.t.recs.length:Int)+1 by omega]
 exact zZe (v:=.tuple #[.int .i64 ((d.σ.t.recs.length:Int)+1),.int .i64 0]) sH j9 j9.ptr.symm
end Go.Proofs.YtaeecpjhfmcliaaGreatDoor
/- The log: how the reference's store lies in memory. No condition but those stated. -/
namespace Go.Proofs.YtaeecpjhfmcliaaGreatDoor
open Go.Sh Go.RowKit Tryz
variable {w0 w w' : World} {X : Nat -> Prop}
structure RL where
 S:Nat
 t:HT
 cm:SV
 ch:List HT
 op:SV
 oh:List HT
def refC(R:RL):Array Value:=#[.int .i64 R.t.page,slV R.t.f,slV R.t.r,slV R.cm,slV R.op]
def RL.own(R:RL)(b:Nat):Prop:=b=R.S∨b ∈ zQd R.cm∨b ∈ zQd R.op
abbrev RL.ptr(R:RL):Value:=.pointer (some ⟨R.S,0,none⟩)
def xYF(w:World)(h:HT)(t:Tbl):Prop:=h.page=t.page/\zX2 w t h.f h.r
structure RKp(w:World)(R:RL)(σ:Sto):Prop where
 t:xYF w R.t σ.t
 ch:∀(i:Nat) h t,R.ch[i]?=some h->σ.done[i]?=some t->xYF w h t
 oh:∀(i:Nat) h t,R.oh[i]?=some h->σ.lev[i]?=some t->xYF w h t
structure zQT(X:Nat->Prop)(w:World)(R:RL)(σ:Sto):Prop where
 st:w.heap[R.S]?=some (.cells (refC R) 115)
 cm:zQl w 35 3 R.cm (R.ch.flatMap zVD)
 op:zQl w 35 3 R.op (R.oh.flatMap zVD)
 cln:R.ch.length=σ.done.length
 oln:R.oh.length=σ.lev.length
 dj:∀b ∈ zQd R.cm,b ∉ zQd R.op
 xl:∀b,X b->b<w.heap.size
 kp:∀w2,Fr (λb=>R.own b∨X b) w w2->RKp w2 R σ
variable {R R' : RL} {σ σ' : Sto}
theorem zQT.kp0(h:zQT X w R σ):RKp w R σ:=h.kp w (Fr.refl _ _)
theorem zQT.own_lt(h:zQT X w R σ){b:Nat}(hb:R.own b):b<w.heap.size:=by
 rcases hb with rfl|hb|hb
 ·exact zQy h.st
 ·exact h.cm.lt b hb
 ·exact h.op.lt b hb
theorem zQT.S_lt(h:zQT X w R σ):R.S<w.heap.size:=h.own_lt (.inl rfl)
theorem zQT.fr{B:Nat->Prop}(h:zQT X w R σ)(hf:Fr B w w')(hn:∀b,R.own b->¬B b)(hx:∀b,B b->b<w.heap.size->X b):zQT X w' R σ where
 st:=hf.blk h.st (hn _ (.inl rfl))
 cm:=h.cm.fr hf λb hb=>hn b (.inr (.inl hb))
 op:=h.op.fr hf λb hb=>hn b (.inr (.inr hb))
 cln:=h.cln
 oln:=h.oln
 dj:=h.dj
 xl:=λb hb=>Nat.lt_of_lt_of_le (h.xl b hb) hf.size
 kp:=λw2 h2=>h.kp w2 ((hf.mono λb hb hlt=>.inr (hx b hb hlt)).trans h2 λb hb _=>hb)
theorem zQT.pu(h:zQT X w R σ)(hp:Pu w w'):zQT X w' R σ:=h.fr (Fr.pu hp:Fr (λ_=>False) w w') (λ_ _ h=>h) (λ_ h=>h.elim)
theorem zQT.cell(h:zQT X w R σ)(o:Nat):w.cell? ((⟨R.S,0,none⟩:Addr).add o)=(refC R)[o]?:=by rw[zQr,Nat.zero_add];exact zQI h.st o
theorem zQT.cell0(h:zQT X w R σ):w.cell? (⟨R.S,0,none⟩:Addr)=some (.int .i64 R.t.page):=zQI h.st 0
structure zXu(w w':World)(R R':RL):Prop where
 fr:Fr R.own w w'
 own:∀b,R'.own b->R.own b∨w.heap.size<=b
 ptr:R'.S=R.S
theorem zXu.refl(w:World)(R:RL):zXu w w R R:=⟨Fr.refl _ _,λ_ h=>.inl h,rfl⟩
theorem zXu.pu(hp:Pu w w')(R:RL):zXu w w' R R:=⟨Fr.pu hp,λ_ h=>.inl h,rfl⟩
theorem zXu.trans{w'':World}{R'':RL}(h:zXu w w' R R')(k:zXu w' w'' R' R''):zXu w w'' R R'':=by
 refine⟨h.fr.trans k.fr λb hb hlt=>(h.own b hb).resolve_right (by omega),λb hb=>?_,k.ptr.trans h.ptr⟩
 rcases k.own b hb with h1|h1
 ·exact h.own b h1
 ·exact .inr (Nat.le_trans h.fr.size h1)
theorem zXu.keep {Q:World->Prop} (h:zXu w w' R R') (hq:∀w2,Fr (λb=>R.own b∨X b) w w2->Q w2) (hxl:∀b,X b->b<w.heap.size):∀w2,Fr (λb=>R'.own b∨X b) w' w2->Q w2:=λw2 h2=>
 hq w2 ((h.fr.mono λb hb _=>.inl hb).trans h2 λb hb hlt=>by
  rcases hb with hb|hb
  ·exact .inl ((h.own b hb).resolve_right (by omega))
  ·exact .inr hb)
def zJI(X:Nat->Prop)(w:World)(R:RL)(v:Value)(σ':Sto):Rt:=λe w'=>e=.returned v/\∃R',zQT X w' R' σ'/\zXu w w' R R'
theorem zJq.keepR{t:Tbl}{f r:SV}(ho:zJq w0 w t f r)(hv:zQg t=0)(hro:∀b,R.own b->b<w0.heap.size)(hx:∀b,X b->b<w0.heap.size):∀w2,Fr (λb=>R.own b∨X b) w w2->zX2 w2 t f r:=λw2 h2=>by
 have nb:∀k,w0.heap.size<=k->¬(R.own k∨X k):=λk hk e=>e.elim (λe=>by have:=hro k e;omega) (λe=>by have:=hx k e;omega)
 refine zJq.rd (w0:=w0) ⟨ho.fs.fr h2 λk hk=>nb k (ho.fs.2 k hk),?_⟩ (zX8 hv)
 obtain⟨qs,k1,k2,k3,k4⟩:=ho.rs
 exact⟨qs,k1.fr h2 λk hk=>nb k (k2 k hk),k2,k3,λi r x hr hx=>⟨(k4 i r x hr hx).1,(k4 i r x hr hx).2.fr h2 λk hk=>nb k ((k4 i r x hr hx).2.2 k hk)⟩⟩
theorem zQT.pushC (h:zQT X w R σ) {q:HT} {t:Tbl} (hp:q.page=t.page) (hq:∀w2,Fr (λb=>R.own b∨X b) w w2->zX2 w2 t q.f q.r) {r:Nat} (hr:w.heap[r]?=some (.cells (zVD q).toArray 35)) (hn:σ.done.length<=1000000)
  {K:World->Prop} (hK:∀w' R',zQT X w' R' { σ with done:=σ.done ++ [t] }->zXu w w' R R'->K w') :
  ∃s:SV,∃w1:World,(Builtin.append_ #[106,106] 106 #[slV R.cm,.slice (some ⟨r,0,none⟩) 1 1]).run prog w=.ok (slV s) w1/\st1 ((⟨R.S,0,none⟩:Addr).add 3) (slV s) w1 K:=by
 have hl:=h.cm.len zQv (by decide)
 have hcl:=h.cln
 obtain⟨s,w1,hra,hrow,dU,hblk,hsl⟩:=zQz (P:=prog) (ty:=106) xZB vi35 rfl (by decide) h.cm (A:=some ⟨r,0,none⟩) (m:=1) (c:=1) (news:=zVD q) rfl (λj u hu=>⟨_,rfl,by rw[cl hr];simpa using hu⟩) (λu hu=>by simp[zVD]at hu;rcases hu with rfl|rfl|rfl <;> rfl) (by show(R.cm.len+1) * (56+1)<=_;omega)
 refine⟨s,w1,hra,?_⟩
 have hnS:R.S ∉ zQd R.cm:=h.cm.other h.st (by decide)
 have sC:=dU.blk h.st hnS
 rw[zQr,Nat.zero_add]
 refine zQt sC (by show 3<5;omega) λw2 nu aM=>?_
 have fY:Fr (·=R.S) w1 w2:=by rw[nu];exact Fr.cell w1 _ _ _
 have hf:Fr (λb=>b=R.S∨b ∈ zQd R.cm) w w2:=(dU.mono λb hb _=>.inr hb).trans fY λb hb _=>.inl hb
 have hsn:∀b ∈ zQd s,b ≠ R.S:=λb hb e=>by
  rcases hblk b hb with h1|h1
  ·exact hnS (by rw[←e];exact h1)
  ·have:=zQy h.st;omega
 have oS:zQl w2 35 3 s ((R.ch ++ [q]).flatMap zVD):=by
  rw[List.flatMap_append,List.flatMap_singleton]
  exact hrow.fr fY λb hb e=>hsn b hb e
 have hleft:zXu w w2 R { R with cm:=s,ch:=R.ch ++ [q] }:=by
  refine⟨hf.mono λb hb _=>hb.elim .inl λhb=>.inr (.inl hb),λb hb=>?_,rfl⟩
  rcases hb with hb|hb|hb
  ·exact .inl (.inl hb)
  ·rcases hblk b hb with h1|h1
   ·exact .inl (.inr (.inl h1))
   ·exact .inr h1
  ·exact .inl (.inr (.inr hb))
 refine hK w2 { R with cm:=s,ch:=R.ch ++ [q] } ⟨aM,oS,h.op.fr hf λb hb hx=>?_,by simp[hcl],h.oln,λb hb hx=>?_,λb hb=>Nat.lt_of_lt_of_le (h.xl b hb) hf.size,λw3 h3=>?_⟩ hleft
 ·rcases hx with rfl|hx
  ·exact h.op.other h.st (by decide) hb
  ·exact h.dj b hx hb
 ·rcases hblk b hb with h1|h1
  ·exact h.dj b h1 hx
  ·have hx:b ∈ zQd R.op:=hx
   have:=h.op.lt b hx;omega
 ·obtain⟨a1,a2,a3⟩:=hleft.keep (X:=X) h.kp h.xl w3 h3
  refine⟨a1,λi x u hx hu=>?_,a3⟩
  have hx:(R.ch ++ [q])[i]?=some x:=hx
  have hu:(σ.done ++ [t])[i]?=some u:=hu
  rcases Nat.lt_trichotomy i σ.done.length with hi|hi|hi
  ·rw[List.getElem?_append_left (by omega)]at hx hu
   exact a2 i x u hx hu
  ·rw[List.getElem?_append_right (by omega),hcl,hi,Nat.sub_self]at hx
   rw[List.getElem?_append_right (by omega),hi,Nat.sub_self]at hu
   simp at hx hu;subst hx hu
   exact⟨hp,hleft.keep (X:=X) hq h.xl w3 h3⟩
  ·rw[List.getElem?_eq_none (by rw[List.length_append,List.length_singleton];omega)]at hu;cases hu
theorem zQT.pushO (h:zQT X w R σ) {q:HT} {t:Tbl} (hp:q.page=t.page) (hq:∀w2,Fr (λb=>R.own b∨X b) w w2->zX2 w2 t q.f q.r) {r:Nat} (hr:w.heap[r]?=some (.cells (zVD q).toArray 35)) (hn:σ.lev.length<=1000000)
  {K:World->Prop} (hK:∀w' R',zQT X w' R' { σ with lev:=σ.lev ++ [t] }->zXu w w' R R'->K w') :
  ∃s:SV,∃w1:World,(Builtin.append_ #[106,106] 106 #[slV R.op,.slice (some ⟨r,0,none⟩) 1 1]).run prog w=.ok (slV s) w1/\st1 ((⟨R.S,0,none⟩:Addr).add 4) (slV s) w1 K:=by
 have hl:=h.op.len zQv (by decide)
 have hcl:=h.oln
 obtain⟨s,w1,hra,hrow,dU,hblk,hsl⟩:=zQz (P:=prog) (ty:=106) xZB vi35 rfl (by decide) h.op (A:=some ⟨r,0,none⟩) (m:=1) (c:=1) (news:=zVD q) rfl (λj u hu=>⟨_,rfl,by rw[cl hr];simpa using hu⟩) (λu hu=>by simp[zVD]at hu;rcases hu with rfl|rfl|rfl <;> rfl) (by show(R.op.len+1) * (56+1)<=_;omega)
 refine⟨s,w1,hra,?_⟩
 have hnS:R.S ∉ zQd R.op:=h.op.other h.st (by decide)
 have sC:=dU.blk h.st hnS
 rw[zQr,Nat.zero_add]
 refine zQt sC (by show 4<5;omega) λw2 nu aM=>?_
 have fY:Fr (·=R.S) w1 w2:=by rw[nu];exact Fr.cell w1 _ _ _
 have hf:Fr (λb=>b=R.S∨b ∈ zQd R.op) w w2:=(dU.mono λb hb _=>.inr hb).trans fY λb hb _=>.inl hb
 have hsn:∀b ∈ zQd s,b ≠ R.S:=λb hb e=>by
  rcases hblk b hb with h1|h1
  ·exact hnS (by rw[←e];exact h1)
  ·have:=zQy h.st;omega
 have oS:zQl w2 35 3 s ((R.oh ++ [q]).flatMap zVD):=by
  rw[List.flatMap_append,List.flatMap_singleton]
  exact hrow.fr fY λb hb e=>hsn b hb e
 have hleft:zXu w w2 R { R with op:=s,oh:=R.oh ++ [q] }:=by
  refine⟨hf.mono λb hb _=>hb.elim .inl λhb=>.inr (.inr hb),λb hb=>?_,rfl⟩
  rcases hb with hb|hb|hb
  ·exact .inl (.inl hb)
  ·exact .inl (.inr (.inl hb))
  ·rcases hblk b hb with h1|h1
   ·exact .inl (.inr (.inr h1))
   ·exact .inr h1
 refine hK w2 { R with op:=s,oh:=R.oh ++ [q] } ⟨aM,h.cm.fr hf λb hb hx=>?_,oS,h.cln,by simp[hcl],λb hb hx=>?_,λb hb=>Nat.lt_of_lt_of_le (h.xl b hb) hf.size,λw3 h3=>?_⟩ hleft
 ·rcases hx with rfl|hx
  ·exact h.cm.other h.st (by decide) hb
  ·exact h.dj b hb hx
 ·rcases hblk b hx with h1|h1
  ·exact h.dj b hb h1
  ·have hb:b ∈ zQd R.cm:=hb
   have:=h.cm.lt b hb;omega
 ·obtain⟨a1,a2,a3⟩:=hleft.keep (X:=X) h.kp h.xl w3 h3
  refine⟨a1,a2,λi x u hx hu=>?_⟩
  have hx:(R.oh ++ [q])[i]?=some x:=hx
  have hu:(σ.lev ++ [t])[i]?=some u:=hu
  rcases Nat.lt_trichotomy i σ.lev.length with hi|hi|hi
  ·rw[List.getElem?_append_left (by omega)]at hx hu
   exact a3 i x u hx hu
  ·rw[List.getElem?_append_right (by omega),hcl,hi,Nat.sub_self]at hx
   rw[List.getElem?_append_right (by omega),hi,Nat.sub_self]at hu
   simp at hx hu;subst hx hu
   exact⟨hp,hleft.keep (X:=X) hq h.xl w3 h3⟩
  ·rw[List.getElem?_eq_none (by rw[List.length_append,List.length_singleton];omega)]at hu;cases hu
theorem zQT.reT (h:zQT X w R σ) (hf:Fr (·=R.S) w w') {q:HT} {t:Tbl} (hst:w'.heap[R.S]?=some (.cells (refC { R with t:=q }) 115)) (hq:∀w2,Fr (λb=>R.own b∨X b) w w2->xYF w2 q t):zQT X w' { R with t:=q } { σ with t:=t }:=by
 refine⟨hst,h.cm.fr hf λb hb e=>h.cm.other h.st (by decide) (by rw[←show b=R.S from e];exact hb),h.op.fr hf λb hb e=>h.op.other h.st (by decide) (by rw[←show b=R.S from e];exact hb),h.cln,h.oln,h.dj,λb hb=>Nat.lt_of_lt_of_le (h.xl b hb) hf.size,λw2 h2=>?_⟩
 have h3:Fr (λb=>R.own b∨X b) w w2:=(hf.mono λb hb _=>.inl (.inl hb)).trans h2 λb hb _=>hb
 exact⟨hq w2 h3,(h.kp w2 h3).ch,(h.kp w2 h3).oh⟩
theorem zQT.setT (h:zQT X w R σ) {q:HT} {t:Tbl} (hq:∀w2,Fr (λb=>R.own b∨X b) w w2->xYF w2 q t) {K:World->Prop} (hK:∀w',zQT X w' { R with t:=q } { σ with t:=t }->zXu w w' R { R with t:=q }->K w') :
  stA prog 35 (⟨R.S,0,none⟩:Addr) #[.int .i64 q.page,slV q.f,slV q.r] w K:=by
 refine⟨zKZ.symm,rfl,?_⟩
 show Sh.st1 ((⟨R.S,0,none⟩:Addr).add 0) _ w _
 rw[zQr]
 refine zQt h.st (by show 0+0<5;omega) λwa hwa hba=>?_
 show Sh.st1 ((⟨R.S,0,none⟩:Addr).add 1) _ wa _
 rw[zQr]
 refine zQt hba (by show 0+1<5;omega) λwb hwb hbb=>?_
 show Sh.st1 ((⟨R.S,0,none⟩:Addr).add 2) _ wb _
 rw[zQr]
 refine zQt hbb (by show 0+2<5;omega) λwc hwc hbc=>?_
 have hf:Fr (·=R.S) w wc:=by
  rw[hwc,hwb,hwa]
  exact((Fr.cell w _ _ _).trans (Fr.cell _ _ _ _) λ_ h _=>h).trans (Fr.cell _ _ _ _) λ_ h _=>h
 exact hK wc (h.reT hf hbc hq) ⟨hf.mono λb hb _=>.inl hb,λ_ h=>.inl h,rfl⟩
theorem zQT.popO (h:zQT X w R σ) {l0:List HT} {x:HT} {v0:List Tbl} {t:Tbl} (hoh:R.oh=l0 ++ [x]) (hlev:σ.lev=v0 ++ [t]) {K:World->Prop} (hK:∀w' R',zQT X w' R' { σ with lev:=v0 }->zXu w w' R R'->R'.t=R.t->K w') :
  st1 ((⟨R.S,0,none⟩:Addr).add 4) (.slice R.op.a (R.op.len - 1) R.op.cap) w K:=by
 have hl:=h.op.len zQv (by decide)
 have hll:R.oh.length=l0.length+1:=by rw[hoh];simp
 have hol:=h.oln
 have hlv:σ.lev.length=v0.length+1:=by rw[hlev];simp
 have ha:R.op.a ≠ none:=by
  obtain⟨_,hd|⟨g,cur,h3,_⟩⟩:=h.op
  ·rw[hd]at hl
   have hl:0=R.oh.length:=hl
   omega
  ·rw[h3];simp
 have hrow:zQl w 35 3 ⟨R.op.a,R.op.len - 1,R.op.cap⟩ (l0.flatMap zVD):=by
  have h1:=yZz h.op (n:=R.op.len - 1) (by omega) ha
  rw[hoh,List.flatMap_append,show R.op.len - 1=l0.length by omega]at h1
  have e:(l0.flatMap zVD).length=l0.length * 3:=zQ2 zQv l0
  rw[←e,List.take_left]at h1
  rw[show R.op.len - 1=l0.length by omega]
  exact h1
 rw[zQr,Nat.zero_add]
 refine zQt h.st (by show 4<5;omega) λw2 nu aM=>?_
 have hf:Fr (·=R.S) w w2:=by rw[nu];exact Fr.cell w _ _ _
 have hleft:zXu w w2 R { R with op:=⟨R.op.a,R.op.len - 1,R.op.cap⟩,oh:=l0 }:=⟨hf.mono λb hb _=>.inl hb,λb hb=>.inl hb,rfl⟩
 refine hK w2 { R with op:=⟨R.op.a,R.op.len - 1,R.op.cap⟩,oh:=l0 } ⟨aM,h.cm.fr hf λb hb e=>h.cm.other h.st (by decide) (by rw[←show b=R.S from e];exact hb),hrow.fr hf λb hb e=>hrow.other h.st (by decide) (by rw[←show b=R.S from e];exact hb),h.cln,by show l0.length=v0.length;omega,h.dj,λb hb=>Nat.lt_of_lt_of_le (h.xl b hb) hf.size,λw3 h3=>?_⟩ hleft rfl
 obtain⟨a1,a2,a3⟩:=hleft.keep (X:=X) h.kp h.xl w3 h3
 refine⟨a1,a2,λi y u hy hu=>a3 i y u ?_ ?_⟩
 ·have hy:l0[i]?=some y:=hy
  rw[hoh,List.getElem?_append_left (List.getElem?_eq_some_iff.1 hy).1];exact hy
 ·have hu:v0[i]?=some u:=hu
  rw[hlev,List.getElem?_append_left (List.getElem?_eq_some_iff.1 hu).1];exact hu
theorem zQT.lastC (h:zQT X w R σ) (hne:σ.done ≠ []) (hn:σ.done.length<=1000000):∃x a,R.cm.a=some a/\R.cm.len=σ.done.length/\0<R.cm.len/\IntKind.i64.wrap (((R.cm.len:Nat):Int) - 1)=((R.cm.len - 1:Nat):Int)/\
  w.cell? ((a.add ((R.cm.len - 1) * 3)).add 0)=some (.int .i64 x.page)/\w.cell? ((a.add ((R.cm.len - 1) * 3)).add 1)=some (slV x.f)/\w.cell? ((a.add ((R.cm.len - 1) * 3)).add 2)=some (slV x.r)/\xYF w x σ.last:=by
 have hl:=h.cm.len zQv (by decide)
 have hcl:=h.cln
 have hpos:0<σ.done.length:=List.length_pos_iff.2 hne
 obtain⟨x,hx⟩:=zQL (l:=R.ch) (k:=R.cm.len - 1) (by omega)
 obtain⟨a,ha,hk,c0⟩:=h.cm.elem zQv hx (o:=0) rfl
 obtain⟨a',ha',_,c1⟩:=h.cm.elem zQv hx (o:=1) rfl
 obtain⟨a'',ha'',_,c2⟩:=h.cm.elem zQv hx (o:=2) rfl
 rw[ha]at ha' ha'';cases ha';cases ha''
 refine⟨x,a,ha,by omega,by omega,by rw[zQa (by omega) (by omega)];omega,c0,c1,c2,h.kp0.ch _ x _ hx ?_⟩
 have h1:=zZ7 hne
 rw[List.getLast?_eq_getElem?]at h1
 rw[show R.cm.len - 1=σ.done.length - 1 by omega];exact h1
end Go.Proofs.YtaeecpjhfmcliaaGreatDoor
