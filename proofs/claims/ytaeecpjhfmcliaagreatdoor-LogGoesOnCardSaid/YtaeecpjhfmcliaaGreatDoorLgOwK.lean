import Derived.Test.YtaeecpjhfmcliaaGreatDoorLgOwJ
import Derived.Test.YtaeecpjhfmcliaaGreatDoorLgPrC
import Derived.Test.YtaeecpjhfmcliaaGreatDoorShThirteen
/- The log: what a fall leaves. No condition but those stated. -/
set_option maxRecDepth 100000
set_option linter.unusedVariables false
set_option linter.unusedSimpArgs false
namespace Go.Proofs.YtaeecpjhfmcliaaGreatDoor
open Go.Sh Go.RowKit Tryz
variable {w0 w w' : World} {X : Nat -> Prop} {S n m : Nat} {p : Int} {f : List Fld} {F : Fls} {d d' : Dat} {L L' : SL}
theorem tw_len {l:List Int} {j:Nat} {n:Int} (hj:j<=l.length) (h:∀(i:Nat) v,i<j->l[i]?=some v->v<=n) (he:∀v,l[j]?=some v->¬v<=n):(l.takeWhile λp=>decide (p<=n)).length=j:=by
 induction l generalizing j with
 | nil=>simp at hj;subst hj;rfl
 | cons a l ih=>
  rcases j with _|j
  ·have:=he a rfl
   rw[List.takeWhile_cons,if_neg (by simpa using this)];rfl
  ·have h0:=h 0 a (by omega) rfl
   rw[List.takeWhile_cons,if_pos (by simpa using h0),List.length_cons,ih (by simpa using hj) (λi v hi hv=>h (i+1) v (by omega) (by simpa using hv)) λv hv=>he v (by simpa using hv)]
theorem zW1.at_ {q:SV} {l:List Int} (hq:zW1 w0 w q l) {k:Nat} {v:Int} (hv:l[k]?=some v):∃a,q.a=some a/\w.cell? (a.add (k * 1))=some (.int .i64 v):=by
 have h1:=hq.1
 rw[show l.map yV8=l.flatMap (λv=>[yV8 v])by clear hv h1 hq;induction l with|nil=>rfl|cons a l ih=>rw[List.map_cons,List.flatMap_cons,ih];rfl]at h1
 obtain⟨a,ha,_,c0⟩:=h1.elem (cells:=λv=>[yV8 v]) (l:=l) (λ_=>rfl) hv (o:=0) rfl
 exact⟨a,ha,by rw[yYf]at c0;exact c0⟩
theorem xXp{q:SV}{l:List Int}(hq:zW1 w0 w q l)(hl:l.length<=1000000)(n:Nat):Calls prog 75 #[slV q,.int .i64 (n:Int)] w λe w'=>e=.returned (.int .i64 (lst l n:Nat))/\w'=w:=by
 have hql:=hq.len
 refine xQJ _ _ w _ ?_
 refine zQw l.length (λk u w'=>u=(k:Int)/\w'=w/\∀(i:Nat) v,i<k->l[i]?=some v->v<=(n:Int)) ⟨rfl,rfl,λi v hi=>by omega⟩ ?_
 rintro k J u wa hk ⟨hu,rfl,hI⟩ hJ
 obtain rfl:u=(k:Int):=hu
 have stop:(∀v,l[k]?=some v->¬v<=(n:Int))->Ending.returned (.int .i64 (k:Int))=.returned (.int .i64 (lst l n:Nat))/\wa=wa:=λhe=>⟨by unfold lst;rw[tw_len hk hI he],rfl⟩
 refine Br.of (λc=>?_) (λc=>?_)
 ·have hkn:k<l.length:=by have:=zQk c;omega
  obtain⟨v,hv⟩:=zQM hkn
  obtain⟨a,ha,c0⟩:=hq.at_ hv
  refine⟨a,ha,by omega,by omega,v,by rw[zXj];exact c0,Br.of (λc1=>?_) (λc1=>stop λv' hv'=>?_)⟩
  ·rw[zQa (by omega) (by omega)]
   refine hJ _ _ hkn ⟨rfl,rfl,λi v' hi hv'=>?_⟩
   rcases Nat.lt_or_ge i k with yD|yD
   ·exact hI i v' yD hv'
   ·have:i=k:=by omega
    subst this
    rw[hv]at hv';cases hv'
    exact zQk c1
  ·rw[hv]at hv';cases hv'
   exact zQd c1
 ·have hkn:k=l.length:=by have:=zQd c;omega
  exact stop λv' hv'=>by rw[hkn,List.getElem?_eq_none (Nat.le_refl _)]at hv';cases hv'
def kQq(d:Dat)(n:Nat)(k:Int)(j:Nat):Prop:=∃t,(zQA (zJi d.first d.wr n k)).1=some t/\d.σ.done[j]?=some t/\j<=d.pts.length/\(j=lst d.pts n∨j=lst d.pts n+1/\j=lst d.pts (n+1)/\n<d.wr.length/\d.σ.done[lst d.pts n]? ≠ some t)
theorem xZ7(h:zQH X w L d 0)(hi:Inv p f d)(hs:Small d){q:SV}(hq:zW1 w0 w q d.pts)(hn:n<=d.wr.length){k:Int}(hk:0<=k) :
  Calls prog 32 #[L.ptr,slV q,.int .i64 (n:Int),.int .i64 k] w λe w'=>∃j:Nat,e=.returned (.int .i64 (j:Int))/\kQq d n k j/\Pu w w':=by
 obtain⟨t,j,hT,hj,hjp,hor⟩:=hi.hist.fall hn k
 have hFJ:kQq d n k j:=⟨t,hT,hj,hjp,hor⟩
 have hwn:=hs.wn
 have hpl:d.pts.length+1=d.σ.done.length:=hi.hist.len
 have hpw:d.pts.length<=d.wr.length:=by
  have h1:=hi.hist.lstW
  have:lst d.pts d.wr.length<=d.wr.length:=by
   have key:∀(l:List Int) (N:Nat),l.Pairwise (· < ·)->(∀p ∈ l,1<=p/\p<=(N:Int))->l.length<=N:=by
    intro l
    have sA:∀(l:List Int) (a b:Int),l.Pairwise (· < ·)->(∀p ∈ l,a<=p/\p<=b)->a<=b+1->(l.length:Int)<=b - a+1:=by
     intro l
     induction l with
     | nil=>intro a b _ _ hab;simp;omega
     | cons y l ih=>
      intro a b hp hb hab
      obtain⟨ar,aq⟩:=List.pairwise_cons.1 hp
      have hy:=hb y List.mem_cons_self
      have:=ih (y+1) b aq (λp hp=>⟨by have:=ar p hp;omega,(hb p (List.mem_cons_of_mem _ hp)).2⟩) (by omega)
      rw[List.length_cons];omega
    intro N hp hb
    have:=sA l 1 N hp hb (by omega)
    omega
   rw[h1]
   exact key _ _ hi.hist.asc hi.hist.le
  omega
 have hql:=hq.len
 have hfl:=hs.fall n k
 have eC:zKZ d (n:Int) k=0:=by unfold zKZ;rw[if_neg (by omega)]
 have eG:zJ7 d (n:Int) k=zJi d.first d.wr n k:=by unfold zJ7;rw[if_neg (by omega),zXj]
 refine yYl _ _ _ _ w _ ((yJg h hs n k).mono ?_)
 rintro e w1 ⟨r0,r1,rfl,n0,n1,ar⟩
 rw[eG]at n0 n1
 rw[eC]
 refine⟨r0,r1,_,rfl,Br.of (λc=>by cases c) λ_=>(xXw (X:=λ_=>False) (n0.by (by omega)) (n1.by (by omega)) (by omega) (by omega) λb hb=>hb.elim).mono ?_⟩
 rintro e w2 ⟨aq,⟨hN,_⟩|⟨t',_,hT',rfl,Lo,rfl,ho,_⟩⟩
 ·exact absurd hN (by rw[hT];simp)
 obtain rfl:t=t':=by
  have hT':(zQA (zJi d.first d.wr n k)).1=some t':=hT'
  rw[hT]at hT';exact Option.some.inj hT'
 have hv:zQf t=0:=zJW hT
 have aG:=ar.trans aq
 refine⟨_,_,rfl,Br.of (λc=>by cases c) λ_=>(xXp (hq.pu aG) (by omega) n).mono ?_⟩
 rintro e wo ⟨rfl,rfl⟩
 refine⟨_,rfl,?_⟩
 have hll:=zYy d.pts n
 refine zQw (j - lst d.pts n) (λi u w'=>u=((lst d.pts n+i:Nat):Int)/\Pu w w'/\Pu wo w') ⟨rfl,aG,Pu.refl _⟩ ?_
 rintro i J u wa hik ⟨hu,hpa,hpa'⟩ hJ
 obtain rfl:u=((lst d.pts n+i:Nat):Int):=hu
 have hj1:j<=lst d.pts n+1:=by rcases hor with h|⟨h,_⟩ <;> omega
 have hj0:lst d.pts n<=j:=by rcases hor with h|⟨h,_⟩ <;> omega
 refine(xXp (hq.pu hpa) (by omega) n).mono ?_
 rintro e wb ⟨rfl,rfl⟩
 refine⟨_,rfl,?_⟩
 rw[zQa (by omega) (by omega)]
 refine Br.of (λ_=>Br.of (λ_=>?_) λc=>absurd (zQd c) (by omega)) (λc=>absurd (zQd c) (by omega))
 have ha:=h.pu hpa
 refine(zYw ha (λt ht=>(hi.done t ht).ok) _).mono ?_
 rintro e wc ⟨z,rfl,hz,hpc⟩
 obtain⟨tc,htc⟩:=zQM (l:=d.σ.done) (k:=lst d.pts n+i) (by omega)
 have ec:yQp d.σ ((lst d.pts n+i:Nat):Int)=tc:=by unfold yQp;rw[if_pos (by omega),zXj,List.getD_eq_getElem?_getD,htc];rfl
 rw[ec]at hz
 have hvc:zQf tc=0:=(hi.done tc (List.mem_of_getElem? htc)).ok
 refine⟨_,z.f,z.r,_,rfl,alB λwd hpd hbd=>zQi hbd zKW.symm rfl rfl λwe hbe hfe _=>zQc λwf hpf _=>?_⟩
 have hpce:Pu wc we:=hpd.andNew hfe λi hi=>by rw[show i=_ from hi];exact Nat.le_refl _
 have hpcf:=hpce.trans hpf
 have bf:=hpf.blk hbe
 have hpwf:=(hpa.trans hpc).trans hpcf
 refine⟨λu=>Pu wf u,Pu.refl _,z.page,λu hu=>cl (hu.blk bf) 0,z.f,λu hu=>cl (hu.blk bf) 1,z.r,λu hu=>cl (hu.blk bf) 2,?_⟩
 have sR:=(ho.pu hpa').pu (hpc.trans hpcf)
 refine(zZc sR (show zQf t=0 from hv)).mono ?_
 rintro e wg ⟨y,rfl,hy,hpg⟩
 refine⟨_,y.f,y.r,rfl,hpg,?_⟩
 have hy:zKF wf wg t y:=hy
 rw[hy.tab.page,hz.tab.page]
 refine(zVm (hy.rd hv) (((hz.pu hpcf).pu hpg).rd hvc)).mono ?_
 rintro e wh ⟨rfl,hph⟩
 have hpwh:=(hpwf.trans hpg).trans hph
 refine⟨_,rfl,Br.of (λc=>?_) (λc=>?_)⟩
 ·have c:t=tc:=by simpa using c
  have ej:lst d.pts n+i=j:=by
   rcases hor with h|⟨h1,_,_,h4⟩
   ·omega
   ·rcases Nat.lt_or_ge (lst d.pts n+i) j with hlt|hge
    ·have e0:i=0:=by omega
     subst e0
     exact absurd (by rw[Nat.add_zero]at htc;rw[htc,c]) h4
    ·omega
  rw[ej]
  exact⟨j,rfl,hFJ,hpwh⟩
 ·have c:¬t=tc:=by simpa using c
  have hij:i<j - lst d.pts n:=by
   rcases Nat.lt_or_ge i (j - lst d.pts n)with hlt|hge
   ·exact hlt
   ·have ej:lst d.pts n+i=j:=by omega
    rw[ej,hj]at htc
    exact absurd (Option.some.inj htc) c
  rw[zQa (by omega) (by omega)]
  exact hJ _ _ hij ⟨by omega,hpwh,hpa'.trans ((hpc.trans hpcf).trans (hpg.trans hph))⟩
end Go.Proofs.YtaeecpjhfmcliaaGreatDoor
/- The law of what is opened, walked. No condition. -/
namespace Go.Proofs.YtaeecpjhfmcliaaGreatDoor
open Go.Sh Go.RowKit Tryz
variable {w w' : World}
end Go.Proofs.YtaeecpjhfmcliaaGreatDoor
/- The law of one fall, walked. No condition. -/
namespace Go.Proofs.YtaeecpjhfmcliaaGreatDoor
open Go.Sh Go.RowKit Tryz
variable {w0 w w' : World} {S n m : Nat} {p : Int} {f : List Fld} {F : Fls} {d d' : Dat} {L L' : SL} {x : zXB} {s : ScV}
def yYZ(w:World):Rt:=λe w'=>e=.returned (.bool true)/\Pu w w'
theorem yKO(hp:Pu w0 w):Calls prog 10 #[] w λe w1=>∃b:Bool,e=.returned (.bool b)/\zQb prog [] w1 λw2=>yYZ w0 (.returned (.bool b)) w2:=by
 refine(kQp w).mono ?_
 rintro e w1 ⟨rfl,ar⟩
 exact⟨_,rfl,rfl,hp.trans ar⟩
theorem KnS.small (h:KnS (λ_=>False) w0 w S x.t.page x.t.fields (zQj x.t,[]) n d L) (hv:zQf x.t=0) (hn:n<=100):Small d:=h.sz.small h.inv (yZ5 hv) hn
theorem KnS.pts (h:KnS (λ_=>False) w0 w S p f F n d L) (hn:n<=100):d.pts.length<=1000000:=by
 have:=h.inv.hist.len
 have:=h.sz.dn
 omega
end Go.Proofs.YtaeecpjhfmcliaaGreatDoor
/- The law of what is played, walked. No condition. -/
namespace Go.Proofs.YtaeecpjhfmcliaaGreatDoor
open Go.Sh Go.RowKit Tryz
variable {w0 w w' : World} {S Sr n m : Nat} {p : Int} {f : List Fld} {F : Fls} {d d' : Dat} {L L' : SL} {R R' : RL} {x : zXB} {s : ScV} {q : SV}
theorem zJd.rdV{t:Tbl}{a b:SV}(h:zJd w0 w t a b)(hv:zQf t=0):zX2 w t a b:=h.rd (zX0 hv)
theorem Duo.dn(h:Duo w0 w S Sr p f F n d d.σ L R)(hn:n<=100):d.σ.done.length<=1000000:=by have:=h.sz.dn;omega
end Go.Proofs.YtaeecpjhfmcliaaGreatDoor
/- The law of what is played: each act, and all. No condition. -/
namespace Go.Proofs.YtaeecpjhfmcliaaGreatDoor
open Go.Sh Go.RowKit Tryz
variable {w0 w1 w w' : World} {S Sr n m : Nat} {p : Int} {f : List Fld} {F : Fls} {d d' : Dat} {L L' : SL} {R R' : RL} {x : zXB} {s : ScV} {q : SV}
end Go.Proofs.YtaeecpjhfmcliaaGreatDoor
/- The law of recoveries, walked. No condition. -/
namespace Go.Proofs.YtaeecpjhfmcliaaGreatDoor
open Go.Sh Go.RowKit Tryz
variable {w0 w1 w w' : World} {X Y : Nat -> Prop} {S n m : Nat} {p : Int} {f : List Fld} {F G : Fls} {d d' : Dat} {L L' : SL} {x : zXB} {s : ScV} {q : SV} {ps : List (SV × SV)} {t : Tbl}
theorem xQO(h:G ∈ zZu F):∃k,G=((zQL F).take k).foldl zQ1 F:=by
 have key:∀k,k<=(zQL F).length->∀G ∈ zW3 F k,∃k',G=((zQL F).take k').foldl zQ1 F:=by
  intro k
  induction k with
  | zero=>
   intro _ G hG
   have hG:G ∈ [F]:=hG
   exact⟨0,by rw[List.mem_singleton.1 hG];rfl⟩
  | succ k ih=>
   intro hk G hG
   obtain⟨y,hy⟩:=zQM (l:=zQL F) (k:=k) (by omega)
   rw[yJE hy,List.mem_append]at hG
   rcases hG with hG|hG
   ·exact ih (by omega) G hG
   ·refine⟨k+1,?_⟩
    rw[List.mem_singleton.1 hG,zQD hy,List.foldl_append];rfl
 have e:zZu F=zW3 F (zQL F).length:=by unfold zW3 zZu;rw[List.take_length]
 rw[e]at h
 exact key _ (Nat.le_refl _) G h
theorem yKf(F:Fls):(zQL F).length<=4:=by
 unfold zQL
 rw[List.length_append]
 have h1:(if (zQA F).2.1=[]then([]:List Wr)else [⟨1,F.2.length - (zQA F).2.1.length,[]⟩]).length<=1:=by split <;> simp
 have h2:(if (zQA F).2.2 then [⟨0,0,[]⟩,⟨0,0,zQC ((zQA F).1.getD yJA)⟩,(⟨1,0,[]⟩:Wr)]else []).length<=3:=by split <;> simp
 omega
theorem xJA(hF:F.1.length<=770000000/\F.2.length<=770000000)(h:G ∈ zZu F):G.1.length<=800000000/\G.2.length<=800000000:=by
 obtain⟨k,rfl⟩:=xQO h
 have h1:=zJI (F:=F) (W:=(zQL F).take k) (c:=770000000) hF λy hy=>(zKJ (List.mem_of_mem_take hy)).2.2
 have h2:((zQL F).take k).length<=4:=by rw[List.length_take];have:=yKf F;omega
 omega
theorem zJL.at_ (h:zJL w0 w q ps (zZu F)) (hF:F.1.length<=770000000/\F.2.length<=770000000) {i:Nat} (hi:(zZu F)[i]?=some G):∃(a:Addr) (y:SV × SV),q.a=some a/\q.len=(zZu F).length/\w.cell? ((a.add (i * 2)).add 0)=some (slV y.1)/\w.cell? ((a.add (i * 2)).add 1)=some (slV y.2)/\ByV w y.1 G.1/\ByV w y.2 G.2:=by
 have hl:=h.row.len zWW (by decide)
 have hpl:=h.len
 have hlt:=(List.getElem?_eq_some_iff.1 hi).1
 obtain⟨y,hy⟩:=zQM (l:=ps) (k:=i) (by omega)
 obtain⟨a,ha,_,c0⟩:=h.row.elem zWW hy (o:=0) rfl
 obtain⟨a',ha',_,c1⟩:=h.row.elem zWW hy (o:=1) rfl
 rw[ha]at ha';cases ha'
 obtain⟨n0,n1⟩:=h.each i y G hy hi
 have hle:=xJA hF (List.mem_of_getElem? hi)
 exact⟨a,y,ha,by omega,c0,c1,n0.by (by omega),n1.by (by omega)⟩
structure RecS (w0 w:World) (F:Fls) (t:Tbl) (q:SV) (ps:List (SV × SV)) (Lo:SL):Prop where
 pu:Pu w0 w
 tb:(zQA F).1=some t
 le:F.1.length<=770000000/\F.2.length<=770000000
 st:zQH (λ_=>False) w Lo (Dat.new t (zKV F)) 0
 ps:zJL w0 w q ps (zZu F)
theorem RecS.on{Lo:SL}(h:RecS w0 w F t q ps Lo)(hp:Pu w w'):RecS w0 w' F t q ps Lo:=⟨h.pu.trans hp,h.tb,h.le,h.st.pu hp,h.ps.pu hp⟩
end Go.Proofs.YtaeecpjhfmcliaaGreatDoor
/- The law of all falls, walked. No condition. -/
namespace Go.Proofs.YtaeecpjhfmcliaaGreatDoor
open Go.Sh Go.RowKit Tryz
variable {w0 w w' : World} {S n m : Nat} {p : Int} {f : List Fld} {F : Fls} {d d' : Dat} {L L' : SL} {x : zXB} {s : ScV} {q : SV}
theorem yYr(hi:Inv p f d){j:Nat}(h:kQq d n 0 j)(hn:n<=d.wr.length):j=lst d.pts n:=by
 obtain⟨t,hT,hj,hjp,hor⟩:=h
 rcases hor with h|⟨_,_,_,h4⟩
 ·exact h
 ·obtain⟨t',h1,h2⟩:=hi.hist.at_ n hn
  rw[yVJ hi.hist]at hT
  rw[hT]at h2
  cases h2
  exact absurd h1 h4
end Go.Proofs.YtaeecpjhfmcliaaGreatDoor
/- The law of stores that go on, walked. No condition. -/
namespace Go.Proofs.YtaeecpjhfmcliaaGreatDoor
open Go.Sh Go.RowKit Tryz
variable {w0 w1 w w' : World} {X : Nat -> Prop} {S Sr n m : Nat} {p : Int} {f : List Fld} {F G : Fls} {d d' : Dat} {L L' : SL} {R R' : RL} {x : zXB} {s : ScV} {q : SV} {t : Tbl}
theorem go_le(hs:Small d)(hz:Sz F n d)(hn:n<=80)(hF:F.1.length<=1000000/\F.2.length<=1000000)(m:Nat)(k:Int):(zJi d.first d.wr m k).1.length<=290000000/\(zJi d.first d.wr m k).2.length<=290000000:=by
 have h1:=zJI (F:=d.first) (W:=d.wr.take m) (c:=1000000) (by rw[hz.first];exact hF) λy hy=>(hs.wb y (List.mem_of_mem_take hy)).2.2
 have h2:(d.wr.take m).length<=400:=by rw[List.length_take];have:=hz.wn;omega
 have h3:(zQK d.first d.wr m).1.length<=281000000/\(zQK d.first d.wr m).2.length<=281000000:=by unfold zQK;omega
 unfold zJi
 split
 ·rename_i y hy
  have:=yXx (k:=k) h3 (hs.wb y (List.mem_of_getElem? hy)).2.2
  omega
 ·omega
theorem xYI(hF:F.1.length<=290000000/\F.2.length<=290000000):(zKV F).1.length<=400000000/\(zKV F).2.length<=400000000:=by
 have h1:=zJI (F:=F) (W:=zQL F) (c:=290000000) hF λy hy=>(zKJ hy).2.2
 have h2:=yKf F
 unfold zKV
 omega
theorem xJy {w2:World} (hf:zQA F=(some t,[],false)) (hv:zQf t=0) (h1:zQH (λ_=>False) w1 L (Dat.new t F) 0) (ho:∀b,L.own b->w.heap.size<=b) (hp:Pu w w1) (aq:Pu w1 w2) (h2:zQO L.own w2 R (Sto.new t)) (hR:∀b,R.own b->w1.heap.size<=b) :
  Duo w w2 L.S R.S t.page t.fields F 0 (Dat.new t F) (Dat.new t F).σ L R:=
 ⟨rfl,rfl,h1.reX aq (λb hb=>h2.own_lt hb) (λb hb hlt=>by have:=hR b hb;omega),h2,λb hb hr=>by have:=h1.own_lt hb;have:=hR b hr;omega,zY3 hv hf,Sz.new _ _,hp.trans aq,ho,λb hb=>by have:=hR b hb;have:=hp.size;omega⟩
theorem xJh(h:Duo w0 w S Sr p f F n d d.σ L R)(hF:F.1.length<=400000000/\F.2.length<=400000000)(hn:n<=80):F9_1 (yYZ w0) (some ⟨S,0,none⟩) [] w:=by
 have hs:=h.sz.small h.inv hF (by omega)
 have hdn:=h.dn (by omega)
 have hpl:=h.inv.hist.len
 unfold F9_1
 rw[h.ptr]
 refine(xJr h.st (by omega)).mono ?_
 rintro e w1 ⟨q,rfl,hq,ar⟩
 have h1:=h.on ar
 refine⟨q,rfl,(yXB h1.st).mono ?_⟩
 rintro e w2 ⟨rfl,aq⟩
 have h2:=h1.on aq
 refine⟨_,rfl,(xZ7 h2.st h2.inv hs (hq.pu aq) (Nat.le_refl _) (Int.le_refl 0)).mono ?_⟩
 rintro e w3 ⟨j,rfl,hJ,au⟩
 have h3:=h2.on au
 have hj:j=d.pts.length:=by rw[yYr h.inv hJ (Nat.le_refl _)];exact h.inv.hist.lstW
 refine⟨_,rfl,(zWL h3.st hdn).mono ?_⟩
 rintro e w4 ⟨rfl,aK⟩
 refine⟨_,rfl,Br.of (λ_=>yKO ((h3.pu).trans aK)) λc=>?_⟩
 have e1:(j:Int)=((d.σ.done.length:Nat):Int) - 1:=by omega
 rw[e1]at c
 simp at c
theorem xQd {l:List Act} {sl:SV} (h:Duo w1 w S Sr p f F 0 d d.σ L R) (hx:yVt w1 x s) (ha:zX3 w1 sl l) (yL:l.length<=80) (hF:F.1.length<=400000000/\F.2.length<=400000000) {b:Nat} (hb:w1.heap[b]?=some (.cells #[.int .i64 x.t.page,.slice s.f.a s.f.len s.f.cap,.slice s.r.a s.r.len s.r.cap,.slice s.rs.a s.rs.len s.rs.cap,.slice s.vs.a s.vs.len s.vs.cap,.slice s.ac.a s.ac.len s.ac.cap] 41)) (hw:Pu w0 w1) :
  F9_3 (yYZ w0) sl (some ⟨b,0,none⟩) (some ⟨S,0,none⟩) (some ⟨Sr,0,none⟩) 0 [] w:=by
 have hal:=ha.len
 refine zQw l.length (λk u w'=>u=(k:Int)/\∃L R d,Duo w1 w' S Sr p f F k d d.σ L R) ⟨rfl,L,R,d,h⟩ ?_
 rintro k J u wa hk ⟨hu,La,Ra,da,hDa⟩ hJ
 obtain rfl:u=(k:Int):=hu
 refine Br.of (λc=>zQc λwb hpb _=>?_) (λc=>?_)
 ·have hkn:k<l.length:=by have:=zQk c;omega
  have hDb:=hDa.on hpb
  have bb:=hDb.pu.blk hb
  obtain⟨a,hak⟩:=zQM hkn
  obtain⟨ad,had,hadl,_,c0,c1,c2,c3,c4,c5⟩:=xYw (ha.pu hDb.pu) hak
  refine⟨_,cl bb 0,s.f,cl bb 1,s.r,cl bb 2,s.rs,cl bb 3,s.vs,cl bb 4,s.ac,cl bb 5,ad,had,by omega,by omega,?_⟩
  rw[zXj]
  refine⟨_,c0,_,c1,_,c2,_,c3,_,c4,_,c5,(yK1 hDb hx hF (by omega) a).mono ?_⟩
  rintro e wc ⟨rfl,L',R',hDc⟩
  obtain⟨d',hd'⟩:∃d',d'=zKa x a da:=⟨_,rfl⟩
  rw[←hd']at hDc
  have hv:=hDc.inv.t.ok
  have hdn:=hDc.dn (by omega)
  refine⟨_,rfl,Br.of (λc=>by cases c) λ_=>?_⟩
  rw[hDc.ptr]
  refine(zZc hDc.st hv).mono ?_
  rintro e w2 ⟨y,rfl,hy,aq⟩
  have hy:zKF wc w2 d'.σ.t y:=hy
  have h2:=hDc.on aq
  refine⟨y.page,y.f,y.r,rfl,?_⟩
  rw[h2.ptrR]
  refine(xZV h2.rf hv).mono ?_
  rintro e w3 ⟨f2,r2,rfl,hO,au⟩
  have h3:=h2.on au
  refine⟨_,f2,r2,rfl,?_⟩
  rw[hy.tab.page]
  refine(zVm ((hy.pu au).rd hv) (hO.rdV hv)).mono ?_
  rintro e w4 ⟨rfl,aK⟩
  have h4:=h3.on aK
  rw[decide_eq_true rfl]
  refine⟨_,rfl,Br.of (λc=>by cases c) λ_=>(zWL h4.st hdn).mono ?_⟩
  rintro e w7 ⟨rfl,cv⟩
  have h7:=h4.on cv
  refine⟨_,rfl,(yVZ h7.rf hdn).mono ?_⟩
  rintro e w8 ⟨rfl,bP⟩
  have h8:=h7.on bP
  refine⟨_,rfl,Br.of (λc=>by simp at c) λ_=>?_⟩
  rw[zQa (by omega) (by omega)]
  exact hJ _ _ hkn ⟨rfl,L',R',d',h8⟩
 ·have hD0:Duo w0 wa S Sr p f F k da da.σ La Ra:=⟨hDa.S,hDa.Sr,hDa.st,hDa.rf,hDa.dj,hDa.inv,hDa.sz,hw.trans hDa.pu,λb hb=>by have:=hDa.ol b hb;have:=hw.size;omega,λb hb=>by have:=hDa.or_ b hb;have:=hw.size;omega⟩
  exact xJh hD0 hF (by omega)
end Go.Proofs.YtaeecpjhfmcliaaGreatDoor
/- The law of stores that go on: all of it. No condition. -/
namespace Go.Proofs.YtaeecpjhfmcliaaGreatDoor
open Go.Sh Go.RowKit Tryz
variable {w0 w1 w w' : World} {S Sr n m : Nat} {p : Int} {f : List Fld} {F G : Fls} {d d' : Dat} {L L' : SL} {R R' : RL} {x : zXB} {s : ScV} {q : SV} {t : Tbl}
theorem xJ2 {l:List Act} {sl:SV} (hf:zQA F=(some t,[],false)) (hv:zQf t=0) (h:Duo w1 w S Sr t.page t.fields F 0 (Dat.new t F) (Dat.new t F).σ L R) (hx:yVt w1 x s) (ha:zX3 w1 sl l) (yL:l.length<=80) (hF:F.1.length<=400000000/\F.2.length<=400000000) {b:Nat} (hb:w1.heap[b]?=some (.cells #[.int .i64 x.t.page,.slice s.f.a s.f.len s.f.cap,.slice s.r.a s.r.len s.r.cap,.slice s.rs.a s.rs.len s.rs.cap,.slice s.vs.a s.vs.len s.vs.cap,.slice s.ac.a s.ac.len s.ac.cap] 41)) (hw:Pu w0 w1) :
  F9_6 (yYZ w0) sl (some ⟨b,0,none⟩) (some ⟨S,0,none⟩) (some ⟨Sr,0,none⟩) 0 [] w:=by
 have hs:=h.sz.small h.inv hF (by omega)
 refine Br.of (λc=>by cases c) λ_=>?_
 rw[h.ptr]
 refine(zWL h.st (h.dn (by omega))).mono ?_
 rintro e w2 ⟨rfl,aq⟩
 have h2:=h.on aq
 refine⟨_,rfl,Br.of (λc=>by cases c) λ_=>(yXB h2.st).mono ?_⟩
 rintro e w3 ⟨rfl,au⟩
 have h3:=h2.on au
 refine⟨_,rfl,Br.of (λc=>by cases c) λ_=>(kQm h3.st).mono ?_⟩
 rintro e w4 ⟨rfl,aK⟩
 have h4:=h3.on aK
 refine⟨_,rfl,Br.of (λc=>by cases c) λ_=>?_⟩
 unfold F9_5
 rw[h4.ptr]
 refine(yJg h4.st hs 0 0).mono ?_
 rintro e w5 ⟨r0,r1,rfl,n0,n1,aR⟩
 have eC:zKZ (Dat.new t F) 0 0=0:=rfl
 have eG:zJ7 (Dat.new t F) 0 0=F:=rfl
 rw[eG]at n0 n1
 rw[eC]
 have h5:=h4.on aR
 refine⟨r0,r1,_,rfl,Br.of (λc=>by cases c) λ_=>(xXw (X:=λ_=>False) (n0.by (by omega)) (n1.by (by omega)) (by omega) (by omega) λb hb=>hb.elim).mono ?_⟩
 rintro e w6 ⟨bB,⟨hN,_⟩|⟨t',_,hT',rfl,Lo,rfl,ho,_⟩⟩
 ·have hN:(zQA F).1=none:=hN
  rw[hf]at hN;cases hN
 have hT':(zQA F).1=some t':=hT'
 rw[hf]at hT'
 cases hT'
 have h6:=h5.on bB
 refine⟨_,_,rfl,Br.of (λc=>by cases c) λ_=>(zZc ho (show zQf t=0 from hv)).mono ?_⟩
 rintro e w7 ⟨z,rfl,hz,cv⟩
 have hz:zKF w6 w7 t z:=hz
 have h7:=h6.on cv
 refine⟨z.page,z.f,z.r,rfl,(zZc h7.st (show zQf t=0 from hv)).mono ?_⟩
 rintro e w8 ⟨z2,rfl,tL,bP⟩
 have tL:zKF w7 w8 t z2:=tL
 have h8:=h7.on bP
 refine⟨z2.page,z2.f,z2.r,rfl,?_⟩
 rw[hz.tab.page,tL.tab.page]
 refine(zVm ((hz.pu bP).rd hv) (tL.rd hv)).mono ?_
 rintro e w9 ⟨rfl,cx⟩
 rw[decide_eq_true rfl]
 exact⟨_,rfl,Br.of (λc=>by cases c) λ_=>xQd (h8.on cx) hx ha yL hF hb hw⟩
theorem yJC(w:World)(x:zXB)(s:ScV)(h:yVt w x s)(hl:Lim.ok x)(sl:SV)(l:List Act)(ha:zX3 w sl l)(_:Lim.ok l)(y:Two)(_:zZR y.a/\zZR y.b):Calls prog 9 #[scA x s,.slice sl.a sl.len sl.cap,.agg #[.int .i64 y.a,.int .i64 y.b]] w λe w'=>e=.returned (.bool true)/\Pu w w':=by
 refine xZB _ _ _ _ _ _ sl y.a y.b w (yYZ w) (alB λw1 ar aB=>alB λw2 aq aM=>zQc λw3 au _=>?_)
 have aG:=ar.trans aq
 have aU:=aG.trans au
 have b3:=au.blk (aq.blk aB)
 have c3:=au.blk aM
 refine⟨by decide,by decide,y.a,cl c3 0,by decide,by decide,y.b,cl c3 1,_,cl b3 0,s.f,cl b3 1,s.r,cl b3 2,s.rs,cl b3 3,s.vs,cl b3 4,s.ac,cl b3 5,(xYl (h.pu aU)).mono ?_⟩
 rintro e w4 ⟨b,rfl,aK,hov⟩
 have bQ:=aU.trans aK
 have b4:=aK.blk b3
 refine⟨b,rfl,Br.of (λ_=>yKO bQ) λc=>?_⟩
 have yL:=(hov c).1
 have nilF:∀wz:World,zX3 wz ⟨none,0,0⟩ ([]:List Fld):=λwz=>⟨rfl,Nat.le_refl _,by show 0<=_;omega,λi v hv=>by simp at hv⟩
 have nilR:∀wz:World,zX3 wz ⟨none,0,0⟩ ([]:List Rec):=λwz=>⟨rfl,Nat.le_refl _,by show 0<=_;omega,λi v hv=>by simp at hv⟩
 refine(xYl (x:=⟨⟨0,[],[]⟩,[],[],l⟩) (s:=⟨⟨none,0,0⟩,⟨none,0,0⟩,⟨none,0,0⟩,⟨none,0,0⟩,sl⟩) ⟨⟨(⟨by decide,by decide⟩:zZR 0),nilF w4,nilR w4⟩,nilR w4,xVc w4,ha.pu bQ⟩).mono ?_
 rintro e w5 ⟨b',rfl,aR,hov'⟩
 have cI:=bQ.trans aR
 have b5:=aR.blk b4
 refine⟨b',rfl,Br.of (λ_=>yKO cI) λc'=>⟨_,cl b5 0,s.f,cl b5 1,s.r,cl b5 2,s.rs,cl b5 3,s.vs,cl b5 4,s.ac,cl b5 5,(xZs (h.pu cI) hl.1.1 yL).mono ?_⟩⟩
 have kV:l.length<=80:=(hov' c').1
 rintro e w6 ⟨bB,⟨hv,rfl⟩|⟨hv,S,L,d,rfl,hK⟩⟩
 ·exact⟨_,_,rfl,true,w6,zXW kQ2 _ _ none w6,Br.of (λ_=>Br.of (λ_=>yKO (cI.trans bB)) λc=>by cases c) λc=>by cases c⟩
 ·have hs:=hK.small hv (by omega)
  refine⟨_,_,rfl,false,w6,zXW kQ2 _ _ (some _) w6,Br.of (λc=>by cases c) λ_=>⟨_,w6,yX5 _ _ _ _ _ _,?_⟩⟩
  rw[hK.ptr]
  refine(yXB hK.at_).mono ?_
  rintro e w7 ⟨rfl,cv⟩
  have hK7:=hK.on cv
  obtain⟨m,hm,hmw⟩:∃m:Nat,min (max y.a 0) ((d.wr.length:Nat):Int)=(m:Int)/\m<=d.wr.length:=⟨(min (max y.a 0) ((d.wr.length:Nat):Int)).toNat,by omega,by omega⟩
  obtain⟨k',hk',fm⟩:∃k',k'=max y.b 0/\0<=k':=⟨_,rfl,by omega⟩
  refine⟨_,rfl,_,w7,yX8 _ _ _ _ _ _,_,w7,yX5 _ _ _ _ _ _,?_⟩
  rw[hm,←hk']
  refine(yJg hK7.at_ hs m k').mono ?_
  rintro e w8 ⟨r0,r1,rfl,n0,n1,bP⟩
  have eC:zKZ d (m:Int) k'=0:=by unfold zKZ;rw[if_neg (by omega)]
  have eG:zJ7 d (m:Int) k'=zJi d.first d.wr m k':=by unfold zJ7;rw[if_neg (by omega),zXj]
  rw[eG]at n0 n1
  rw[eC]
  have aB:(zQj x.t,([]:List UInt8)).1.length<=1000000/\(zQj x.t,([]:List UInt8)).2.length<=1000000:=⟨by have:=zZK (zJg.of hv);show(zQj x.t).length<=_;omega,by show 0<=_;omega⟩
  have hfl:=go_le hs hK7.sz yL aB m k'
  obtain⟨t,j,hT,_⟩:=hK7.inv.hist.fall hmw k'
  have hvt:zQf t=0:=zJW hT
  have hM:=mends hT hvt
  refine⟨r0,r1,_,rfl,(xXw (X:=λ_=>False) (n0.by (by omega)) (n1.by (by omega)) (by omega) (by omega) λb hb=>hb.elim).mono ?_⟩
  rintro e w9 ⟨cx,⟨hN,_⟩|⟨t',_,hT',rfl,Lo,rfl,ho,hown⟩⟩
  ·exact absurd hN (by rw[hT];simp)
  obtain rfl:t=t':=by
   have hT':(zQA (zJi d.first d.wr m k')).1=some t':=hT'
   rw[hT]at hT';exact Option.some.inj hT'
  have ho:zQH (λ_=>False) w9 Lo (Dat.new t (zKV (zJi d.first d.wr m k'))) 0:=ho
  refine⟨_,_,rfl,Br.of (λc=>by cases c) λ_=>Br.of (λc=>by cases c) λ_=>(zZc ho (show zQf t=0 from hvt)).mono ?_⟩
  rintro e aN ⟨z,rfl,hz,dk⟩
  have hz:zKF w9 aN t z:=hz
  refine⟨z.page,z.f,z.r,rfl,?_⟩
  rw[hz.tab.page]
  refine(xQa (X:=Lo.own) (hz.rd hvt) λb hb=>by have:=ho.own_lt hb;have:=dk.size;omega).mono ?_
  rintro e aV ⟨eI,⟨hv',_⟩|⟨_,_,rfl,R,rfl,hR,hRo⟩⟩
  ·exact absurd hvt hv'
  have oU:=((hK7.pu).trans bP)
  have qI:=oU.trans cx
  have hD:=xJy (w:=w5) hM.last hvt (ho.pu dk) (λb hb=>by have:=hown b hb;have:=oU.size;omega) (qI.trans dk) eI hR hRo
  exact⟨_,_,rfl,xJ2 hM.last hvt hD (h.pu cI) (ha.pu cI) kV (xYI ⟨by omega,by omega⟩) b5 cI⟩
end Go.Proofs.YtaeecpjhfmcliaaGreatDoor
