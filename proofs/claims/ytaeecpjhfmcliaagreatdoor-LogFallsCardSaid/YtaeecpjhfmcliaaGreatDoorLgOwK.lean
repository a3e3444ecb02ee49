import Derived.Test.YtaeecpjhfmcliaaGreatDoorLgOwJ
import Derived.Test.YtaeecpjhfmcliaaGreatDoorLgPrC
import Derived.Test.YtaeecpjhfmcliaaGreatDoorShThirteen
/- The log: what a fall leaves. No condition but those stated. -/
set_option maxRecDepth 100000
set_option linter.unusedVariables false
set_option linter.unusedSimpArgs false
namespace Go.Proofs.YtaeecpjhfmcliaaGreatDoor
open Go.Sh Go.RowKit Tryz
variable {w0 w w' : World} {X : Nat -> Prop} {S n m : Nat} {p : Int} {f : List Fld} {F : Fls} {d d' : Dat} {L L' : SL}
theorem tw_len {l:List Int} {j:Nat} {n:Int} (hj:j<=l.length) (h:∀(i:Nat) v,i<j->l[i]?=some v->v<=n) (he:∀v,l[j]?=some v->¬v<=n):(l.takeWhile λp=>decide (p<=n)).length=j:=by
 induction l generalizing j with
 | nil=>simp at hj;subst hj;rfl
 | cons a l ih=>
  rcases j with _|j
  ·have:=he a rfl
   rw[List.takeWhile_cons,if_neg (by simpa using this)];rfl
  ·have h0:=h 0 a (by omega) rfl
   rw[List.takeWhile_cons,if_pos (by simpa using h0),List.length_cons,ih (by simpa using hj) (λi v hi hv=>h (i+1) v (by omega) (by simpa using hv)) λv hv=>he v (by simpa using hv)]
theorem zKm.at_ {q:SV} {l:List Int} (hq:zKm w0 w q l) {k:Nat} {v:Int} (hv:l[k]?=some v):∃a,q.a=some a/\w.cell? (a.add (k * 1))=some (.int .i64 v):=by
 have h1:=hq.1
 rw[show l.map yWS=l.flatMap (λv=>[yWS v])by clear hv h1 hq;induction l with|nil=>rfl|cons a l ih=>rw[List.map_cons,List.flatMap_cons,ih];rfl]at h1
 obtain⟨a,ha,_,c0⟩:=h1.elem (cells:=λv=>[yWS v]) (l:=l) (λ_=>rfl) hv (o:=0) rfl
 exact⟨a,ha,by rw[yYd]at c0;exact c0⟩
theorem yYC{q:SV}{l:List Int}(hq:zKm w0 w q l)(hl:l.length<=1000000)(n:Nat):Calls prog 75 #[slV q,.int .i64 (n:Int)] w λe w'=>e=.returned (.int .i64 (lst l n:Nat))/\w'=w:=by
 have hql:=hq.len
 refine yYD _ _ w _ ?_
 refine zQw l.length (λk u w'=>u=(k:Int)/\w'=w/\∀(i:Nat) v,i<k->l[i]?=some v->v<=(n:Int)) ⟨rfl,rfl,λi v hi=>by omega⟩ ?_
 rintro k J u wa hk ⟨hu,rfl,hI⟩ hJ
 obtain rfl:u=(k:Int):=hu
 have stop:(∀v,l[k]?=some v->¬v<=(n:Int))->Ending.returned (.int .i64 (k:Int))=.returned (.int .i64 (lst l n:Nat))/\wa=wa:=λhe=>⟨by unfold lst;rw[tw_len hk hI he],rfl⟩
 refine Br.of (λc=>?_) (λc=>?_)
 ·have hkn:k<l.length:=by have:=zQk c;omega
  obtain⟨v,hv⟩:=zQM hkn
  obtain⟨a,ha,c0⟩:=hq.at_ hv
  refine⟨a,ha,by omega,by omega,v,by rw[zXh];exact c0,Br.of (λc1=>?_) (λc1=>stop λv' hv'=>?_)⟩
  ·rw[zQa (by omega) (by omega)]
   refine hJ _ _ hkn ⟨rfl,rfl,λi v' hi hv'=>?_⟩
   rcases Nat.lt_or_ge i k with xP|xP
   ·exact hI i v' xP hv'
   ·have:i=k:=by omega
    subst this
    rw[hv]at hv';cases hv'
    exact zQk c1
  ·rw[hv]at hv';cases hv'
   exact zQd c1
 ·have hkn:k=l.length:=by have:=zQd c;omega
  exact stop λv' hv'=>by rw[hkn,List.getElem?_eq_none (Nat.le_refl _)]at hv';cases hv'
def xY1(d:Dat)(n:Nat)(k:Int)(j:Nat):Prop:=∃t,(zQJ (zKN d.first d.wr n k)).1=some t/\d.σ.done[j]?=some t/\j<=d.pts.length/\(j=lst d.pts n∨j=lst d.pts n+1/\j=lst d.pts (n+1)/\n<d.wr.length/\d.σ.done[lst d.pts n]? ≠ some t)
theorem yXs(h:zQG X w L d 0)(hi:Inv p f d)(hs:Small d){q:SV}(hq:zKm w0 w q d.pts)(hn:n<=d.wr.length){k:Int}(hk:0<=k) :
  Calls prog 32 #[L.ptr,slV q,.int .i64 (n:Int),.int .i64 k] w λe w'=>∃j:Nat,e=.returned (.int .i64 (j:Int))/\xY1 d n k j/\Pu w w':=by
 obtain⟨t,j,hT,hj,hjp,hor⟩:=hi.hist.fall hn k
 have hFJ:xY1 d n k j:=⟨t,hT,hj,hjp,hor⟩
 have hwn:=hs.wn
 have hpl:d.pts.length+1=d.σ.done.length:=hi.hist.len
 have hpw:d.pts.length<=d.wr.length:=by
  have h1:=hi.hist.lstW
  have:lst d.pts d.wr.length<=d.wr.length:=by
   have key:∀(l:List Int) (N:Nat),l.Pairwise (· < ·)->(∀p ∈ l,1<=p/\p<=(N:Int))->l.length<=N:=by
    intro l
    have rM:∀(l:List Int) (a b:Int),l.Pairwise (· < ·)->(∀p ∈ l,a<=p/\p<=b)->a<=b+1->(l.length:Int)<=b - a+1:=by
     intro l
     induction l with
     | nil=>intro a b _ _ hab;simp;omega
     | cons y l ih=>
      intro a b hp hb hab
      obtain⟨aq,ar⟩:=List.pairwise_cons.1 hp
      have hy:=hb y List.mem_cons_self
      have:=ih (y+1) b ar (λp hp=>⟨by have:=aq p hp;omega,(hb p (List.mem_cons_of_mem _ hp)).2⟩) (by omega)
      rw[List.length_cons];omega
    intro N hp hb
    have:=rM l 1 N hp hb (by omega)
    omega
   rw[h1]
   exact key _ _ hi.hist.asc hi.hist.le
  omega
 have hql:=hq.len
 have hfl:=hs.fall n k
 have eC:zWv d (n:Int) k=0:=by unfold zWv;rw[if_neg (by omega)]
 have eG:zJS d (n:Int) k=zKN d.first d.wr n k:=by unfold zJS;rw[if_neg (by omega),zXh]
 refine xQV _ _ _ _ w _ ((yY9 h hs n k).mono ?_)
 rintro e w1 ⟨r0,r1,rfl,n0,n1,aq⟩
 rw[eG]at n0 n1
 rw[eC]
 refine⟨r0,r1,_,rfl,Br.of (λc=>by cases c) λ_=>(open_c (X:=λ_=>False) (n0.by (by omega)) (n1.by (by omega)) (by omega) (by omega) λb hb=>hb.elim).mono ?_⟩
 rintro e w2 ⟨ar,⟨hN,_⟩|⟨t',_,hT',rfl,Lo,rfl,ho,_⟩⟩
 ·exact absurd hN (by rw[hT];simp)
 obtain rfl:t=t':=by
  have hT':(zQJ (zKN d.first d.wr n k)).1=some t':=hT'
  rw[hT]at hT';exact Option.some.inj hT'
 have hv:zQh t=0:=zKW hT
 have aF:=aq.trans ar
 refine⟨_,_,rfl,Br.of (λc=>by cases c) λ_=>(yYC (hq.pu aF) (by omega) n).mono ?_⟩
 rintro e wo ⟨rfl,rfl⟩
 refine⟨_,rfl,?_⟩
 have hll:=zYp d.pts n
 refine zQw (j - lst d.pts n) (λi u w'=>u=((lst d.pts n+i:Nat):Int)/\Pu w w'/\Pu wo w') ⟨rfl,aF,Pu.refl _⟩ ?_
 rintro i J u wa hik ⟨hu,hpa,hpa'⟩ hJ
 obtain rfl:u=((lst d.pts n+i:Nat):Int):=hu
 have hj1:j<=lst d.pts n+1:=by rcases hor with h|⟨h,_⟩ <;> omega
 have hj0:lst d.pts n<=j:=by rcases hor with h|⟨h,_⟩ <;> omega
 refine(yYC (hq.pu hpa) (by omega) n).mono ?_
 rintro e wb ⟨rfl,rfl⟩
 refine⟨_,rfl,?_⟩
 rw[zQa (by omega) (by omega)]
 refine Br.of (λ_=>Br.of (λ_=>?_) λc=>absurd (zQd c) (by omega)) (λc=>absurd (zQd c) (by omega))
 have ha:=h.pu hpa
 refine(zYV ha (λt ht=>(hi.done t ht).ok) _).mono ?_
 rintro e wc ⟨z,rfl,hz,hpc⟩
 obtain⟨tc,htc⟩:=zQM (l:=d.σ.done) (k:=lst d.pts n+i) (by omega)
 have ec:yQh d.σ ((lst d.pts n+i:Nat):Int)=tc:=by unfold yQh;rw[if_pos (by omega),zXh,List.getD_eq_getElem?_getD,htc];rfl
 rw[ec]at hz
 have hvc:zQh tc=0:=(hi.done tc (List.mem_of_getElem? htc)).ok
 refine⟨_,z.f,z.r,_,rfl,alB λwd hpd hbd=>zQi hbd zKS.symm rfl rfl λwe hbe hfe _=>zQc λwf hpf _=>?_⟩
 have hpce:Pu wc we:=hpd.andNew hfe λi hi=>by rw[show i=_ from hi];exact Nat.le_refl _
 have hpcf:=hpce.trans hpf
 have bf:=hpf.blk hbe
 have hpwf:=(hpa.trans hpc).trans hpcf
 refine⟨λu=>Pu wf u,Pu.refl _,z.page,λu hu=>cl (hu.blk bf) 0,z.f,λu hu=>cl (hu.blk bf) 1,z.r,λu hu=>cl (hu.blk bf) 2,?_⟩
 have sk:=(ho.pu hpa').pu (hpc.trans hpcf)
 refine(zV5 sk (show zQh t=0 from hv)).mono ?_
 rintro e wg ⟨y,rfl,hy,hpg⟩
 refine⟨_,y.f,y.r,rfl,hpg,?_⟩
 have hy:zWt wf wg t y:=hy
 rw[hy.tab.page,hz.tab.page]
 refine(yXd (hy.rd hv) (((hz.pu hpcf).pu hpg).rd hvc)).mono ?_
 rintro e wh ⟨rfl,hph⟩
 have hpwh:=(hpwf.trans hpg).trans hph
 refine⟨_,rfl,Br.of (λc=>?_) (λc=>?_)⟩
 ·have c:t=tc:=by simpa using c
  have ej:lst d.pts n+i=j:=by
   rcases hor with h|⟨h1,_,_,h4⟩
   ·omega
   ·rcases Nat.lt_or_ge (lst d.pts n+i) j with hlt|hge
    ·have e0:i=0:=by omega
     subst e0
     exact absurd (by rw[Nat.add_zero]at htc;rw[htc,c]) h4
    ·omega
  rw[ej]
  exact⟨j,rfl,hFJ,hpwh⟩
 ·have c:¬t=tc:=by simpa using c
  have hij:i<j - lst d.pts n:=by
   rcases Nat.lt_or_ge i (j - lst d.pts n)with hlt|hge
   ·exact hlt
   ·have ej:lst d.pts n+i=j:=by omega
    rw[ej,hj]at htc
    exact absurd (Option.some.inj htc) c
  rw[zQa (by omega) (by omega)]
  exact hJ _ _ hij ⟨by omega,hpwh,hpa'.trans ((hpc.trans hpcf).trans (hpg.trans hph))⟩
end Go.Proofs.YtaeecpjhfmcliaaGreatDoor
/- The law of what is opened, walked. No condition. -/
namespace Go.Proofs.YtaeecpjhfmcliaaGreatDoor
open Go.Sh Go.RowKit Tryz
variable {w w' : World}
end Go.Proofs.YtaeecpjhfmcliaaGreatDoor
/- The law of one fall, walked. No condition. -/
namespace Go.Proofs.YtaeecpjhfmcliaaGreatDoor
open Go.Sh Go.RowKit Tryz
variable {w0 w w' : World} {S n m : Nat} {p : Int} {f : List Fld} {F : Fls} {d d' : Dat} {L L' : SL} {x : zXQ} {s : ScV}
def yJr(w:World):Rt:=λe w'=>e=.returned (.bool true)/\Pu w w'
theorem zYU(hp:Pu w0 w):Calls prog 10 #[] w λe w1=>∃b:Bool,e=.returned (.bool b)/\zQb prog [] w1 λw2=>yJr w0 (.returned (.bool b)) w2:=by
 refine(xYo w).mono ?_
 rintro e w1 ⟨rfl,aq⟩
 exact⟨_,rfl,rfl,hp.trans aq⟩
theorem KnS.small (h:KnS (λ_=>False) w0 w S x.t.page x.t.fields (zQj x.t,[]) n d L) (hv:zQh x.t=0) (hn:n<=100):Small d:=h.sz.small h.inv (yZf hv) hn
theorem KnS.pts (h:KnS (λ_=>False) w0 w S p f F n d L) (hn:n<=100):d.pts.length<=1000000:=by
 have:=h.inv.hist.len
 have:=h.sz.dn
 omega
theorem xQ9 (h:KnS (λ_=>False) w0 w S x.t.page x.t.fields (zQj x.t,[]) x.acts.length d L) (hv:zQh x.t=0) (sm:x.acts.length<=80) (n k:Int) {b:Bool} (hb:b=true ↔ (n<0∨(d.wr.length:Int)<n∨k<0)) :
  F6_1 (yJr w0) n k (some ⟨S,0,none⟩) b [] w:=by
 have hs:=h.small hv (by omega)
 refine Br.of (λc=>?_) (λc=>?_)
 ·have hbad:=hb.1 c
  have eC:zWv d n k=1:=by unfold zWv;rw[if_pos hbad]
  have eG:zJS d n k=([],[]):=by unfold zJS;rw[if_pos hbad]
  rw[h.ptr]
  refine(yY9 h.at_ hs n k).mono ?_
  rintro e w1 ⟨r0,r1,rfl,n0,n1,aq⟩
  rw[eG]at n0 n1
  rw[eC]
  have l0:r0.len=0:=n0.len
  have l1:r1.len=0:=n1.len
  refine⟨r0,r1,_,rfl,Br.of (λ_=>?_) λc=>by cases c⟩
  rw[l0,l1]
  exact Br.of (λ_=>zYU (h.pu.trans aq)) λc=>by cases c
 ·have hgood:¬(n<0∨(d.wr.length:Int)<n∨k<0):=λe=>by rw[hb.2 e]at c;cases c
  obtain⟨m,rfl⟩:∃m:Nat,n=(m:Int):=⟨n.toNat,by omega⟩
  rw[h.ptr]
  refine(yKb h.at_ (h.pts (by omega))).mono ?_
  rintro e w1 ⟨q,rfl,hq,aq⟩
  refine⟨q,rfl,(yXs (h.at_.pu aq) h.inv hs hq (by omega) (by omega)).mono ?_⟩
  rintro e w2 ⟨j,rfl,_,ar⟩
  exact⟨_,rfl,Br.of (λ_=>zYU ((h.pu.trans aq).trans ar)) λc=>absurd (zQd c) (by omega)⟩
theorem xZj(w:World)(x:zXQ)(s:ScV)(h:yYb w x s)(hl:Lim.ok x)(n:Int)(_:zZL n)(k:Int)(_:zZL k):Calls prog 6 #[scA x s,.int .i64 n,.int .i64 k] w λe w'=>e=.returned (.bool true)/\Pu w w':=by
 refine xJl _ _ _ _ _ _ n k w (yJr w) (alB λw1 aq ay=>⟨_,cl ay 0,s.f,cl ay 1,s.r,cl ay 2,s.rs,cl ay 3,s.vs,cl ay 4,s.ac,cl ay 5,(xWn (h.pu aq)).mono ?_⟩)
 rintro e w2 ⟨b,rfl,ar,hov⟩
 have aF:=aq.trans ar
 have b2:=ar.blk ay
 refine⟨b,rfl,Br.of (λ_=>zYU aF) λc=>⟨_,cl b2 0,s.f,cl b2 1,s.r,cl b2 2,s.rs,cl b2 3,s.vs,cl b2 4,s.ac,cl b2 5,(yZ1 (h.pu aF) hl.1.1 (hov c).1).mono ?_⟩⟩
 have sm:=(hov c).1
 rintro e w3 ⟨ax,⟨hv,rfl⟩|⟨hv,S,L,d,rfl,hK⟩⟩
 ·exact⟨_,_,rfl,true,w3,zX2 xZF _ _ none w3,Br.of (λ_=>Br.of (λ_=>zYU (aF.trans ax)) λc=>by cases c) λc=>by cases c⟩
 ·have qp:KnS (λ_=>False) w w3 S x.t.page x.t.fields (zQj x.t,[]) x.acts.length d L:=⟨hK.S,hK.at_,hK.inv,hK.sz,aF.trans hK.pu,λb hb=>by have:=hK.own b hb;have:=aF.size;omega⟩
  refine⟨_,_,rfl,false,w3,zX2 xZF _ _ (some _) w3,Br.of (λc=>by cases c) λ_=>Br.of (λc1=>xQ9 qp hv sm n k ⟨λ_=>.inl (zQk c1),λ_=>rfl⟩) λc1=>?_⟩
  have c1:=zQd c1
  rw[qp.ptr]
  refine(yJP qp.at_).mono ?_
  rintro e w4 ⟨rfl,aK⟩
  have hK4:=qp.on aK
  refine⟨_,rfl,Br.of (λc2=>xQ9 hK4 hv sm n k ⟨λ_=>.inr (.inl (by have:=zQk c2;omega)),λ_=>rfl⟩) λc2=>xQ9 hK4 hv sm n k ⟨λc3=>.inr (.inr (zQk c3)),λc3=>?_⟩⟩
  have c2:=zQd c2
  exact decide_eq_true (by omega)
end Go.Proofs.YtaeecpjhfmcliaaGreatDoor
/- The law of all falls, walked. No condition. -/
namespace Go.Proofs.YtaeecpjhfmcliaaGreatDoor
open Go.Sh Go.RowKit Tryz
variable {w0 w w' : World} {S n m : Nat} {p : Int} {f : List Fld} {F : Fls} {d d' : Dat} {L L' : SL} {x : zXQ} {s : ScV} {q : SV}
theorem yZ7(hi:Inv p f d){j:Nat}(h:xY1 d n 0 j)(hn:n<=d.wr.length):j=lst d.pts n:=by
 obtain⟨t,hT,hj,hjp,hor⟩:=h
 rcases hor with h|⟨_,_,_,h4⟩
 ·exact h
 ·obtain⟨t',h1,h2⟩:=hi.hist.at_ n hn
  rw[yW2 hi.hist]at hT
  rw[hT]at h2
  cases h2
  exact absurd h1 h4
theorem xQw (h:KnS (λ_=>False) w0 w S x.t.page x.t.fields (zQj x.t,[]) x.acts.length d L) (hv:zQh x.t=0) (sm:x.acts.length<=80) (hq:zKm w0 w q d.pts):F5_1 (yJr w0) (some ⟨S,0,none⟩) q (d.wr.length:Nat) [] w:=by
 have hs:=h.small hv (by omega)
 have hql:=hq.len
 unfold F5_1
 rw[h.ptr]
 refine(yXs h.at_ h.inv hs hq (Nat.le_refl _) (Int.le_refl 0)).mono ?_
 rintro e w1 ⟨j,rfl,hJ,aq⟩
 have hj:j=d.pts.length:=by rw[yZ7 h.inv hJ (Nat.le_refl _)];exact h.inv.hist.lstW
 refine⟨_,rfl,Br.of (λ_=>zYU (h.pu.trans aq)) λc=>?_⟩
 rw[hj,hql]at c
 simp at c
theorem xZE (h:KnS (λ_=>False) w0 w S x.t.page x.t.fields (zQj x.t,[]) x.acts.length d L) (hv:zQh x.t=0) (sm:x.acts.length<=80) (hq:zKm w0 w q d.pts) {n1:Int} {c step last:Nat} (hc:c<=d.wr.length) (hst:1<=step) (rY:step<=1000) (hlast:last<=lst d.pts c) {J:Int × Int->World->Prop}
  (hJ:∀(l':Nat) w',l'<=lst d.pts (c+step)->KnS (λ_=>False) w0 w' S x.t.page x.t.fields (zQj x.t,[]) x.acts.length d L->zKm w0 w' q d.pts->J ((l':Int),((c+step:Nat):Int)) w'):F5_6 (yJr w0) J n1 (some ⟨S,0,none⟩) q (d.wr.length:Nat) (last:Int) (step:Int) (c:Int) [] w:=by
 have hs:=h.small hv (by omega)
 have hwn:=hs.wn
 have inner:∀{wz:World} {some_:Int},0<=some_->Pu w wz->alE (.cells #[.int .i64 0,.int .i64 some_] 3) wz λzL aO=>F5_4 (yJr w0) J n1 (some ⟨S,0,none⟩) q (d.wr.length:Nat) (last:Int) (step:Int) (c:Int) ⟨(some ⟨zL,0,none⟩),2,2⟩ ((2:Nat):Int) 0 [] aO:=λ{wz some_} h0 hpz=>alB λw1 aq ay=>by
  refine zQw 2 (λk t w'=>t.2=(k:Int)/\Pu w1 w'/\∃l':Nat,t.1=(l':Int)/\(k=0->l'<=lst d.pts c)/\(k=1->l'<=lst d.pts c)/\(k=2->l'<=lst d.pts (c+1))) ⟨rfl,Pu.refl _,last,rfl,λ_=>hlast,λe=>by omega,λe=>by omega⟩ ?_
  rintro k J2 ⟨t1,t2⟩ wa hk ⟨rL,hpa,l',o3,i0,i1,i2⟩ wN
  obtain rfl:t2=(k:Int):=rL
  obtain rfl:t1=(l':Int):=o3
  have hpw:=(hpz.trans aq).trans hpa
  have ha:=h.on hpw
  have hqa:=hq.pu hpw
  dsimp only
  refine Br.of (λc1=>?_) (λc1=>?_)
  ·have aI:k<2:=by have:(k:Int)<((2:Nat):Int):=zQk c1;omega
   obtain⟨b,rZ,hb⟩:∃b:Int,0<=b/\(#[Value.int .i64 0,.int .i64 some_])[k]?=some (.int .i64 b)/\(k=0->b=0):=by
    rcases(by omega:k=0∨k=1)with rfl|rfl
    ·exact⟨0,Int.le_refl _,rfl,λ_=>rfl⟩
    ·exact⟨some_,h0,rfl,λe=>by omega⟩
   refine⟨_,rfl,by omega,by show(k:Int)<((2:Nat):Int);omega,b,by rw[zXh,Nat.mul_one,cl (hpa.blk ay) k];exact hb.1,?_⟩
   rw[ha.ptr]
   refine(yXs ha.at_ ha.inv hs hqa hc rZ).mono ?_
   rintro e wb ⟨j,rfl,hF,hpb⟩
   have hjb:lst d.pts c<=j/\j<=lst d.pts (c+1):=by
    obtain⟨t,hT,hj,hjp,hor⟩:=hF
    have hm:=yXh (P:=d.pts) (Nat.le_succ c)
    rcases hor with h|⟨h1,h2,_⟩
    ·exact⟨by omega,by rw[h];exact hm⟩
    ·exact⟨by omega,by omega⟩
   have hl':l'<=lst d.pts c:=by
    rcases(by omega:k=0∨k=1)with e|e
    ·exact i0 e
    ·exact i1 e
   refine⟨_,rfl,Br.of (λc2=>absurd (zQk c2) (by omega)) λ_=>?_⟩
   rw[zQa (by omega) (by omega)]
   refine wN _ _ aI ⟨by dsimp only;omega,hpa.trans hpb,j,rfl,λe=>by omega,λe=>?_,λ_=>hjb.2⟩
   have e0:k=0:=by omega
   obtain rfl:b=0:=hb.2 e0
   rw[yZ7 ha.inv hF hc];exact Nat.le_refl _
  ·have aI:k=2:=by have:¬(k:Int)<((2:Nat):Int):=zQd c1;omega
   have pW:=i2 aI
   have hm:lst d.pts (c+1)<=lst d.pts (c+step):=yXh (by omega)
   show J ((l':Int),IntKind.i64.wrap ((c:Int)+(step:Int))) wa
   rw[zQa (by omega) (by omega),show(c:Int)+(step:Int)=((c+step:Nat):Int)by omega]
   exact hJ l' wa (by omega) ha hqa
 refine⟨_,w,yJF _ _ _ _ _ _,Br.of (λ_=>⟨rfl,by decide,_,w,zYW _ _ _ _ _ _,inner ?_ (Pu.refl _)⟩) λ_=>⟨_,w,zYW _ _ _ _ _ _,inner ?_ (Pu.refl _)⟩⟩
 ·have:0<=(c:Int).tmod 7:=Int.tmod_nonneg _ (by omega)
  omega
 ·omega
theorem yVy(w:World)(x:zXQ)(s:ScV)(h:yYb w x s)(hl:Lim.ok x)(k:Int)(_:zZL k):Calls prog 5 #[scA x s,.int .i64 k] w λe w'=>e=.returned (.bool true)/\Pu w w':=by
 refine xZy _ _ _ _ _ _ k w (yJr w) (alB λw1 aq ay=>⟨_,cl ay 0,s.f,cl ay 1,s.r,cl ay 2,s.rs,cl ay 3,s.vs,cl ay 4,s.ac,cl ay 5,(xWn (h.pu aq)).mono ?_⟩)
 rintro e w2 ⟨b,rfl,ar,hov⟩
 have aF:=aq.trans ar
 have b2:=ar.blk ay
 refine⟨b,rfl,Br.of (λ_=>zYU aF) λc=>⟨_,cl b2 0,s.f,cl b2 1,s.r,cl b2 2,s.rs,cl b2 3,s.vs,cl b2 4,s.ac,cl b2 5,(yZ1 (h.pu aF) hl.1.1 (hov c).1).mono ?_⟩⟩
 have sm:=(hov c).1
 rintro e w3 ⟨ax,⟨hv,rfl⟩|⟨hv,S,L,d,rfl,hK⟩⟩
 ·exact⟨_,_,rfl,true,w3,zX2 xZF _ _ none w3,Br.of (λ_=>Br.of (λ_=>zYU (aF.trans ax)) λc=>by cases c) λc=>by cases c⟩
 ·have qp:KnS (λ_=>False) w w3 S x.t.page x.t.fields (zQj x.t,[]) x.acts.length d L:=⟨hK.S,hK.at_,hK.inv,hK.sz,aF.trans hK.pu,λb hb=>by have:=hK.own b hb;have:=aF.size;omega⟩
  have hs:=qp.small hv (by omega)
  have hwn:=hs.wn
  refine⟨_,_,rfl,false,w3,zX2 xZF _ _ (some _) w3,Br.of (λc=>by cases c) λ_=>?_⟩
  rw[qp.ptr]
  refine(yKb qp.at_ (qp.pts (by omega))).mono ?_
  rintro e w4 ⟨q,rfl,hq,aK⟩
  have hK4:=qp.on aK
  refine⟨q,rfl,(yJP hK4.at_).mono ?_⟩
  rintro e w5 ⟨rfl,aU⟩
  have hK5:=hK4.on aU
  have hq5:zKm w w5 q d.pts:=(hq.pu aU).low (qp.pu.size)
  obtain⟨step,hst⟩:∃step:Nat,step=d.wr.length / 120+1:=⟨_,rfl⟩
  have e1:IntKind.i64.wrap (IntKind.i64.wrap (((d.wr.length:Nat):Int).tdiv 120)+1)=(step:Int):=by
   have e2:((d.wr.length:Nat):Int).tdiv 120=((d.wr.length / 120:Nat):Int):=by rw[Int.tdiv_eq_ediv_of_nonneg (by omega)];omega
   have e3:IntKind.i64.wrap ((d.wr.length / 120:Nat):Int)=((d.wr.length / 120:Nat):Int):=zQa (by omega) (by omega)
   rw[e2,e3,zQa (by omega) (by omega)];omega
  refine⟨_,rfl,rfl,by decide,?_⟩
  rw[e1]
  refine zY1 (λt w'=>∃c last:Nat,t.2=(c:Int)/\t.1=(last:Int)/\last<=lst d.pts c/\KnS (λ_=>False) w w' S x.t.page x.t.fields (zQj x.t,[]) x.acts.length d L/\zKm w w' q d.pts) (λt _=>(1000 - t.2).toNat) ⟨0,0,rfl,rfl,Nat.zero_le _,hK5,hq5⟩ ?_
  rintro J ⟨t1,t2⟩ wa ⟨c,last,rL,o3,hll,hKa,hqa⟩ hJ
  obtain rfl:t2=(c:Int):=rL
  obtain rfl:t1=(last:Int):=o3
  refine Br.of (λc1=>?_) (λc1=>xQw hKa hv sm hqa)
  have c1:=zQk c1
  refine xZE hKa hv sm hqa (by omega) (by omega) (by omega) hll λl' wb hl' hKb hqb=>hJ _ _ ⟨c+step,l',rfl,rfl,hl',hKb,hqb⟩ (by dsimp only;omega)
end Go.Proofs.YtaeecpjhfmcliaaGreatDoor
