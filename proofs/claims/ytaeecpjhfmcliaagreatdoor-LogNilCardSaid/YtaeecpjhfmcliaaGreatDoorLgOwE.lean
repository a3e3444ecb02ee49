import Derived.Test.YtaeecpjhfmcliaaGreatDoorLgOwD
import Derived.Test.YtaeecpjhfmcliaaGreatDoorLgOwC
import Derived.Test.YtaeecpjhfmcliaaGreatDoorLgOwB
import Derived.Test.YtaeecpjhfmcliaaGreatDoorShFourteen
import Derived.Test.YtaeecpjhfmcliaaGreatDoorShTwentyOne
import Derived.Test.YtaeecpjhfmcliaaGreatDoorShTwentyTwo
import Derived.Test.YtaeecpjhfmcliaaGreatDoorShTwentyFive
import Derived.Test.YtaeecpjhfmcliaaGreatDoorShTwentyNine
/- Table: the program's reading of a table's bytes. No condition. -/
set_option maxRecDepth 100000
set_option maxHeartbeats 2000000
set_option linter.unusedVariables false
set_option linter.unusedSimpArgs false
noncomputable section
namespace Go.Proofs.YtaeecpjhfmcliaaGreatDoor
open Go.Sh Go.RowKit Tryz
def retT(R:Rt)(r2 r4:Nat)(ok:Bool)(w:World):Prop:=
 zQf (some (⟨r4,0,none⟩:Addr)) λa1=>
 ∃dv:Int,w.cell? (a1.add 0)=some (.int .i64 dv)/\
 ∃bh:SV,w.cell? (a1.add 1)=some (.slice bh.a bh.len bh.cap)/\
 ∃bi:SV,w.cell? (a1.add 2)=some (.slice bi.a bi.len bi.cap)/\
 zQf (some (⟨r2,0,none⟩:Addr)) λa2=>
 stA prog 35 a2 #[.int .i64 dv,.slice bh.a bh.len bh.cap,.slice bi.a bi.len bi.cap] w λw3=>
 zQf (some (⟨r2,0,none⟩:Addr)) λa5=>
 ∃ag:Int,w3.cell? (a5.add 0)=some (.int .i64 ag)/\
 ∃ab:SV,w3.cell? (a5.add 1)=some (.slice ab.a ab.len ab.cap)/\
 ∃ae:SV,w3.cell? (a5.add 2)=some (.slice ae.a ae.len ae.cap)/\
 R (.returned (.tuple #[.agg #[.int .i64 ag,.slice ab.a ab.len ab.cap,.slice ae.a ae.len ae.cap],.bool ok])) w3
theorem retT_c {R:Rt} {w0 wr w:World} {r2 r4:Nat} {t:Tbl} (h:zJF w0 wr r2 r4 t w) (ok:Bool) (hR:∀f q w',zKH wr w' t f q->Pu w0 w'->R (.returned (.tuple #[zYq t f q,.bool ok])) w'):retT R r2 r4 ok w:=by
 obtain⟨f,q,h4,ho⟩:=h.ex
 have hz:=h.z2
 exact⟨_,cl h4 0,f,cl h4 1,q,cl h4 2,zQl h.b2 s35.symm rfl rfl λw5 bq ci j9=>⟨_,cl bq 0,f,cl bq 1,q,cl bq 2,hR f q w5 (ho.one ci h.l2) (h.pu.andNew ci λi hi=>by omega)⟩⟩
def yQz(d:List UInt8)(t:Tbl)(ok:Bool):Prop:=∀u,zQh u=0->zQz u=d->t=u/\ok=true
theorem yX8{w:World}{s:SV}{d:List UInt8}(hb:ByV w s d)(hd:d.length<=1000000000):Calls prog 124 #[.slice s.a s.len s.cap] w λe w'=>∃(t:Tbl) (f q:SV) (ok:Bool),e=.returned (.tuple #[zYq t f q,.bool ok])/\zKH w w' t f q/\zYI t/\Pu w w'/\yQz d t ok:=by
 have hsl:=hb.len
 have hsc:=hb.cap
 refine yK0 _ w _ (alB λw1 aA aD=>alB λw2 ay aL=>?_)
 have aJ:=aA.trans ay
 have mt:w.heap.size<w1.heap.size:=zQ5 aD
 have yy:w1.heap.size<w2.heap.size:=zQ5 aL
 have cz:=ay.blk aD
 have qn:zJF w w2 w.heap.size w1.heap.size ⟨0,[],[]⟩ w2:=⟨⟨⟨none,0,0⟩,⟨none,0,0⟩,aL,⟨zKC.nil w2 w2,zJD.nil w2 w2⟩⟩,cz,Nat.le_refl _,aJ,by omega,yy,by omega,Nat.le_refl _,by omega⟩
 have ret:∀{t:Tbl} {w':World} (ok:Bool),zJF w w2 w.heap.size w1.heap.size t w'->zYI t->yQz d t ok->retT (λe w'=>∃(t:Tbl) (f q:SV) (ok:Bool),e=.returned (.tuple #[zYq t f q,.bool ok])/\zKH w w' t f q/\zYI t/\Pu w w'/\yQz d t ok) w.heap.size w1.heap.size ok w':=λ{t w'} ok st hn hc=>
  retT_c st ok λf q w'' ho hp=>⟨t,f,q,ok,rfl,ho.low aJ.size,hn,hp,hc⟩
 have no:∀{t:Tbl} {ok:Bool},(∀u,zQh u=0->zQz u=d->False)->yQz d t ok:=λh u hv hu=>(h u hv hu).elim
 have hlong:∀u,zQh u=0->zQz u=d->14<=d.length:=λu hv hu=>by
  have ho:=zJE.of hv
  have h1:=zWH ho hu
  have hf:0<u.fields.length:=List.length_pos_iff.2 ho.ne
  have pC:0<=zXE u.fields:=by have:=zZQ (WOk.of ho.all);unfold zXE;omega
  have h2:0<=(u.recs.length:Int) * zXE u.fields:=Int.mul_nonneg (by omega) pC
  omega
 refine Br.of (λq=>ret false qn zYI.zero (no λu hv hu=>by have:=hlong u hv hu;have:=zQs q;omega)) (λq=>?_)
 have h14:14<=d.length:=by have:=zQj q;omega
 clear q
 obtain⟨b0,e0⟩:=zXf (l:=d) (k:=0) (by omega)
 obtain⟨b1,e1⟩:=zXf (l:=d) (k:=1) (by omega)
 obtain⟨cr,tS⟩:=zXf (l:=d) (k:=10) (by omega)
 have kE:=hb.pu aJ
 obtain⟨a0,wO,wP⟩:=kE.get _ _ e0
 obtain⟨a1,ha1,hc1⟩:=kE.get _ _ e1
 refine⟨a0,wO,by omega,by omega,_,wP,Br.of (λq=>ret false qn zYI.zero (no λu hv hu=>?_)) (λq=>⟨a1,ha1,by omega,by omega,_,hc1,?_⟩)⟩
 ·have h1:=(zY3 hu).1
  rw[e0]at h1
  have h1:=Option.some.inj h1
  rw[h1]at q;exact zQG q rfl
 have n1:=b1.toNat_lt
 have fh:=cr.toNat_lt
 rw[zQa (n:=((b1.toNat:Nat):Int)) (by omega) (by omega)]
 refine zQw aL (by decide) λw3 mn be=>zQe λw4 aK _=>?_
 have yz:Fr (·=w1.heap.size) w2 w3:=by rw[mn];exact Fr.cell w2 _ _ _
 have z3:w3.heap.size=w2.heap.size:=by rw[mn];simp
 have yA:zJF w w2 w.heap.size w1.heap.size ⟨((b1.toNat:Nat):Int),[],[]⟩ w4:=(⟨⟨⟨none,0,0⟩,⟨none,0,0⟩,be,⟨zKC.nil w2 w3,zJD.nil w2 w3⟩⟩,yz.blk cz (by omega),by omega,aJ.andNew yz λi hi=>by omega,by omega,yy,by omega,Nat.le_refl _,by omega⟩:zJF w w2 w.heap.size w1.heap.size ⟨((b1.toNat:Nat):Int),[],[]⟩ w3).on aK
 obtain⟨ej,mr,ms⟩:=(hb.pu yA.pu).get _ _ tS
 refine⟨λu=>Pu w4 u,Pu.refl _,ej,mr,by omega,by omega,_,λu hu=>hu.cell ms,ej,mr,by omega,by omega,_,λu hu=>hu.cell ms,?_⟩
 rw[zQa (n:=((cr.toNat:Nat):Int)) (by omega) (by omega)]
 refine(yQ4 cr.toNat (by omega) w4).mono ?_
 rintro e w5 ⟨rfl,ba⟩
 have pJ:=yA.on ba
 have pg:zZ2 ((b1.toNat:Nat):Int):=⟨by omega,by omega⟩
 have sY:zYI ⟨((b1.toNat:Nat):Int),[],[]⟩:=⟨pg,λf hf=>by simp at hf,λr hr=>by simp at hr,by simp,by simp,λf hf=>by simp at hf⟩
 -- what a right table's bytes tell
 have pgu:∀u,zQh u=0->zQz u=d->u.page=((b1.toNat:Nat):Int)/\u.fields.length=cr.toNat:=λu hv hu=>by
  have ho:=zJE.of hv
  obtain⟨_,h1,_,h2⟩:=zY3 hu
  rw[e1]at h1;rw[tS]at h2
  have h1:=Option.some.inj h1
  have h2:=Option.some.inj h2
  have hpg:=ho.page
  unfold zQY at hpg
  simp only[Bool.and_eq_true,decide_eq_true_eq]at hpg
  have fv:=ho.n16
  have e1:=zVX (n:=u.page) (by omega)
  have e2:=zVX (n:=((u.fields.length:Nat):Int)) (by omega)
  rw[h1,h2];omega
 refine⟨_,rfl,ba,Br.of (λq=>ret false pJ sY (no λu hv hu=>?_)) (λq=>?_)⟩
 ·have h1:=zWH (zJE.of hv) hu
  have h2:=(pgu u hv hu).2
  have pC:0<=zXE u.fields:=by have:=zZQ (WOk.of (zJE.of hv).all);unfold zXE;omega
  have h3:0<=(u.recs.length:Int) * zXE u.fields:=Int.mul_nonneg (by omega) pC
  have:=zQs q
  omega
 have hbeg:13+16 * cr.toNat<=d.length:=by have:=zQj q;omega
 clear q
 refine zQD cr.toNat (λk t w'=>t=(k:Int)/\∃fs:List Fld,fs.length=k/\F64 fs/\(∀f ∈ fs,f.name.size<=10)/\zJF w w2 w.heap.size w1.heap.size ⟨((b1.toNat:Nat):Int),fs,[]⟩ w'/\∀u,zQh u=0->zQz u=d->fs=u.fields.take k) ⟨rfl,[],rfl,λf hf=>by simp at hf,λf hf=>by simp at hf,pJ,λu _ _=>by simp⟩ ?_
 rintro k J t w6 hk ⟨ht,fs,hfl,pK,hfn,st,hcond⟩ hJ
 obtain rfl:t=(k:Int):=ht
 refine Br.of (λq=>zQe λw7 dK _=>?_) (λq=>?_)
 ·have aI:k<cr.toNat:=by have:=zQs q;omega
  have qp:=st.on dK
  obtain⟨f,qr,h4,ho⟩:=qp.ex
  obtain⟨jJ,e58,yB⟩:=(hb.pu qp.pu).part3 (lo:=12+16 * k) (hi:=28+16 * k) (by omega) (by omega)
  rw[show 28+16 * k - (12+16 * k)=16 by omega]at yB
  refine⟨λu=>Pu w7 u,Pu.refl _,f,λu hu=>cl (hu.blk h4) 1,?_⟩
  rw[zQa (n:=16 * (k:Int)) (by omega) (by omega),zQa (n:=12+16 * (k:Int)) (by omega) (by omega),zQa (n:=28+16 * (k:Int)) (by omega) (by omega),show 12+16 * (k:Int)=((12+16 * k:Nat):Int)by omega,show 28+16 * (k:Int)=((28+16 * k:Nat):Int)by omega]
  refine⟨jJ,w7,e58,Pu.refl _,(yXq yB (by rw[List.length_take,List.length_drop];omega)).mono ?_⟩
  rintro e w8 ⟨x,rfl,x1,x2,x3,bM,hx⟩
  refine⟨_,_,_,_,rfl,bM,alB λw9 dY kB=>⟨bM.trans dY,?_⟩⟩
  have st9:=(qp.on bM).on dY
  obtain⟨f',aM,wX,hK⟩:=st9.putF ((bM.trans dY).blk h4) (ho.pu (bM.trans dY)) kB (by show fs.length<=_;omega)
  refine⟨f',aM,wX,hK _ λaQ mv=>?_⟩
  rw[zQa (by omega) (by omega)]
  refine hJ _ _ aI ⟨by omega,fs ++ [x],by simp[hfl],λy hy=>?_,λy hy=>?_,mv,λu hv hu=>?_⟩
  ·rcases List.mem_append.1 hy with hy|hy
   ·exact pK y hy
   ·simp at hy;subst hy;exact⟨x1,x2⟩
  ·rcases List.mem_append.1 hy with hy|hy
   ·exact hfn y hy
   ·simp at hy;subst hy;exact x3
  ·obtain⟨g,hg⟩:=zXf (l:=u.fields) (k:=k) (by have:=(pgu u hv hu).2;omega)
   rw[zQK hg,←hcond u hv hu]
   have o3:=zJE.of hv
   rw[hx g (List.all_eq_true.1 o3.all g (List.mem_of_getElem? hg)) (yX5 o3 hu hg).symm]
 have aI:k=cr.toNat:=by have:=zQj q;omega
 subst aI
 clear hJ J q
 have hfs:∀u,zQh u=0->zQz u=d->fs=u.fields:=λu hv hu=>by
  rw[hcond u hv hu,List.take_of_length_le (by have:=(pgu u hv hu).2;omega)]
 have im:zYI ⟨((b1.toNat:Nat):Int),fs,[]⟩:=⟨pg,pK,λr hr=>by simp at hr,by show fs.length<=_;omega,by simp,hfn⟩
 obtain⟨f,qr,h4,ho⟩:=st.ex
 refine⟨f,cl h4 1,(zKk (ho.rd im).fields im.lim).mono ?_⟩
 rintro e w7 ⟨rfl,dK⟩
 have qp:=st.on dK
 refine⟨_,rfl,Br.of (λq=>ret false qp im (no λu hv hu=>?_)) (λq=>zQe λw8 bM _=>?_)⟩
 ·have:=(zJE.of hv).vf
  rw[←hfs u hv hu]at this
  exact zQG q this
 have hvf:zQZ fs=0:=zQ4 q
 clear q
 obtain⟨_,hall,_,fv,kL⟩:=zXt hvf
 have hwok:=WOk.of hall
 have hwide:1<=zXE fs:=by have:=zZQ hwok;unfold zXE;omega
 have yC:=qp.on bM
 have h48:=(dK.trans bM).blk h4
 have sZ:=ho.pu (dK.trans bM)
 refine⟨f,cl h48 1,by omega,by show 6<=_;omega,by omega,by decide,(zVZ (sZ.rd im).fields hwok).mono ?_⟩
 rintro e w9 ⟨rfl,dY⟩
 have hnum:=(hb.pu (yC.pu.trans dY)).sub (lo:=2) (hi:=6) (by omega) (by omega)
 have ta:((d.drop 2).take (6 - 2)).length=4:=by rw[List.length_take,List.length_drop];omega
 refine⟨_,rfl,(yVM hnum ta).mono ?_⟩
 rintro e aM ⟨rfl,fT⟩
 have pL:=(yC.on dY).on fT
 obtain⟨cnt,hcnt⟩:∃cnt,cnt=yWG ((d.drop 2).take (6 - 2)):=⟨_,rfl⟩
 rw[←hcnt]
 have hrl:∀u,zQh u=0->zQz u=d->u.recs.length=cnt:=λu hv hu=>by
  have h1:=(zY3 hu).2.2.1
  have h2:=(zJE.of hv).m300
  rw[hcnt,show 6 - 2=4 from rfl,h1,yYD (by omega)]
 refine⟨_,rfl,Br.of (λq=>ret false pL im (no λu hv hu=>by have:=hrl u hv hu;have:=(zJE.of hv).m300;have:=zQs q;omega)) (λq=>?_)⟩
 have tc:cnt<=300:=by have:=zQj q;omega
 clear q
 obtain⟨W,hW⟩:∃W:Nat,zXE fs=(W:Int):=⟨(zXE fs).toNat,by omega⟩
 have hWl:W<=2000:=by omega
 have hWc:W * cnt<=600000:=Nat.mul_le_mul hWl tc
 have eWc:(W:Int) * (cnt:Int)=((W * cnt:Nat):Int):=by omega
 rw[hW,eWc,zQa (n:=((W * cnt:Nat):Int)) (by omega) (by omega),zQa (n:=((13+16 * cr.toNat:Nat):Int)+((W * cnt:Nat):Int)) (by omega) (by omega),zQa (n:=((13+16 * cr.toNat:Nat):Int)+((W * cnt:Nat):Int)+1) (by omega) (by omega)]
 refine Br.of (λq=>ret false pL im (no λu hv hu=>?_)) (λq=>?_)
 ·have h1:=zWH (zJE.of hv) hu
  have h2:=(pgu u hv hu).2
  rw[←hfs u hv hu,hW,hrl u hv hu]at h1
  rw[←hfs u hv hu]at h2
  have h3:(cnt:Int) * (W:Int)=((W * cnt:Nat):Int):=by rw[Int.mul_comm];exact eWc
  have:=zQG q
  omega
 have hdl:d.length=13+16 * cr.toNat+W * cnt+1:=by have:=zQ4 q;omega
 clear q
 refine zQD cnt (λk t w'=>t=(k:Int)/\∃rs:List Rec,rs.length=k/\R64 rs/\zJF w w2 w.heap.size w1.heap.size ⟨((b1.toNat:Nat):Int),fs,rs⟩ w'/\∀u,zQh u=0->zQz u=d->rs=u.recs.take k) ⟨rfl,[],rfl,λr hr=>by simp at hr,pL,λu _ _=>by simp⟩ ?_
 rintro k J t aQ hk ⟨ht,rs,hrn,td,mv,hrc⟩ hJ
 obtain rfl:t=(k:Int):=ht
 have kf:zYI ⟨((b1.toNat:Nat):Int),fs,rs⟩:=⟨pg,pK,td,by show fs.length<=_;omega,by show rs.length<=_;omega,hfn⟩
 refine Br.of (λq=>zQe λaR dW _=>?_) (λq=>?_)
 ·have aI:k<cnt:=by have:=zQs q;omega
  have mw:=mv.on dW
  obtain⟨f,qr,h4,ho⟩:=mw.ex
  have hWk:W * k+W<=W * cnt:=by rw[←Nat.mul_succ];exact Nat.mul_le_mul_left W aI
  have eWk:(W:Int) * (k:Int)=((W * k:Nat):Int):=by omega
  have eWk1:(W:Int) * ((k:Int)+1)=((W * k+W:Nat):Int):=by rw[Int.mul_add,eWk];omega
  refine⟨λu=>Pu aR u,Pu.refl _,f,λu hu=>cl (hu.blk h4) 1,?_⟩
  rw[zQa (n:=(k:Int)+1) (by omega) (by omega),eWk,eWk1,zQa (n:=((W * k:Nat):Int)) (by omega) (by omega),zQa (n:=((W * k+W:Nat):Int)) (by omega) (by omega),zQa (n:=((13+16 * cr.toNat:Nat):Int)+((W * k:Nat):Int)) (by omega) (by omega),zQa (n:=((13+16 * cr.toNat:Nat):Int)+((W * k+W:Nat):Int)) (by omega) (by omega)]
  have elo:(((13+16 * cr.toNat:Nat):Int)+((W * k:Nat):Int)).toNat=13+16 * cr.toNat+W * k:=by omega
  have ehi:(((13+16 * cr.toNat:Nat):Int)+((W * k+W:Nat):Int)).toNat=13+16 * cr.toNat+W * k+W:=by omega
  rw[elo,ehi]
  have hpart:∀{wz},Pu aR wz->ByV wz ⟨if s.cap=13+16 * cr.toNat+W * k then s.a else s.a.map (λx=>x.add ((13+16 * cr.toNat+W * k) * 1)),13+16 * cr.toNat+W * k+W - (13+16 * cr.toNat+W * k),s.cap - (13+16 * cr.toNat+W * k)⟩ ((d.drop (13+16 * cr.toNat+W * k)).take W):=λ{wz} hz=>by
   have:=(hb.pu (mw.pu.trans hz)).sub (lo:=13+16 * cr.toNat+W * k) (hi:=13+16 * cr.toNat+W * k+W) (by omega) (by omega)
   rw[show(d.drop (13+16 * cr.toNat+W * k)).take (13+16 * cr.toNat+W * k+W - (13+16 * cr.toNat+W * k))=(d.drop (13+16 * cr.toNat+W * k)).take W by rw[Nat.add_sub_cancel_left]]at this
   exact this
  have hplen:(((d.drop (13+16 * cr.toNat+W * k)).take W).length:Int)=zXE fs:=by rw[List.length_take,List.length_drop,hW];omega
  have hrowu:∀u,zQh u=0->zQz u=d->∀r,u.recs[k]?=some r->zXh fs u.page r.v/\zZI zQm fs r=(d.drop (13+16 * cr.toNat+W * k)).take W:=λu hv hu r hr=>by
   have o3:=zJE.of hv
   have h1:=bytes_row o3 hu hr
   have h2:=(pgu u hv hu).2
   have h3:=hfs u hv hu
   rw[h2,←h3,hW,zZW]at h1
   exact⟨by rw[h3];exact o3.recs r (List.mem_of_getElem? hr),h1.symm⟩
  -- behind the row
  have tail:∀{wz:World} {cg:Nat} {g ok:Bool} {vs:List Val} {qv:SV},Pu aR wz->zJO aR wz qv vs->vs.length=fs.length->V64 vs->(∀(r:Rec) (p:Int),zXh fs p r.v->zZI zQm fs r=(d.drop (13+16 * cr.toNat+W * k)).take W->g=r.gone/\vs=r.v/\ok=true)->wz.heap[cg]?=some (.cells #[.bool g,.slice qv.a qv.len qv.cap] 67)->
    Br (!ok) (retT (λe w'=>∃(t:Tbl) (f q:SV) (ok:Bool),e=.returned (.tuple #[zYq t f q,.bool ok])/\zKH w w' t f q/\zYI t/\Pu w w'/\yQz d t ok) w.heap.size w1.heap.size false wz) (
     zQf (some (⟨w1.heap.size,0,none⟩:Addr)) λgp=>∃cF:SV,wz.cell? (gp.add 2)=some (.slice cF.a cF.len cF.cap)/\
     ∃dx:Bool,wz.cell? ((⟨cg,0,none⟩:Addr).add 0)=some (.bool dx)/\∃bl:SV,wz.cell? ((⟨cg,0,none⟩:Addr).add 1)=some (.slice bl.a bl.len bl.cap)/\
     alE (.cells #[.bool dx,.slice bl.a bl.len bl.cap] 67) wz λk9 bA=>∃cG:SV,∃bY:World,(Builtin.append_ #[33,33] 33 #[.slice cF.a cF.len cF.cap,.slice (some ⟨k9,0,none⟩) 1 1]).run prog bA=.ok (.slice cG.a cG.len cG.cap) bY/\
     zQf (some (⟨w1.heap.size,0,none⟩:Addr)) λlC=>st1 (lC.add 2) (.slice cG.a cG.len cG.cap) bY λcf=>J ((k:Int)+1) cf):=λ{wz cg g ok vs qv} hz hv hvl mq hcv eg=>by
   have stz:=mw.on hz
   refine Br.of (λq1=>ret false stz kf (no λu hv hu=>?_)) (λq1=>?_)
   ·obtain⟨r,hr⟩:=zXf (l:=u.recs) (k:=k) (by have:=hrl u hv hu;omega)
    obtain⟨h1,h2⟩:=hrowu u hv hu r hr
    rw[(hcv r u.page h1 h2).2.2]at q1;cases q1
   ·refine⟨qr,cl (hz.blk h4) 2,g,cl eg 0,qv,cl eg 1,alB λaZ bn kF=>?_⟩
    obtain⟨q',bI,e14,hK⟩:=(stz.on bn).putR ((hz.trans bn).blk h4) (ho.pu (hz.trans bn)) ((hv.pu bn).low mw.sz) kF (by show rs.length<=_;omega)
    refine⟨q',bI,e14,hK _ λbv wY=>hJ _ _ aI ⟨by omega,rs ++ [⟨g,vs⟩],by simp[hrn],λy hy=>?_,wY,λu hv hu=>?_⟩⟩
    ·rcases List.mem_append.1 hy with hy|hy
     ·exact td y hy
     ·simp at hy;subst hy;exact⟨mq,by show vs.length<=_;omega⟩
    ·obtain⟨r,hr⟩:=zXf (l:=u.recs) (k:=k) (by have:=hrl u hv hu;omega)
     obtain⟨h1,h2⟩:=hrowu u hv hu r hr
     obtain⟨c1,c2,_⟩:=hcv r u.page h1 h2
     rw[zQK hr,←hrc u hv hu,c1,c2]
  refine⟨by omega,by omega,by omega,by omega,(zYK (ho.rd kf).fields hall fv (hpart (Pu.refl _)) hplen).mono ?_,alB λaZ bn kF=>⟨bn,(zYK ((ho.pu bn).rd kf).fields hall fv (hpart bn) hplen).mono ?_⟩⟩
  ·rintro e aZ ⟨g,ok,vs,qv,rfl,v1,v2,v3,bn,v4⟩
   exact⟨g,qv,ok,rfl,zYj rfl s46.symm rfl λbI jr hs14 go=>tail (bn.trans jr) (v1.pu jr) v2 v3 v4 go⟩
  ·rintro e bI ⟨g,ok,vs,qv,rfl,v1,v2,v3,jr,v4⟩
   have lt13:aR.heap.size<aZ.heap.size:=zQ5 kF
   refine⟨g,qv,ok,rfl,zQl (jr.blk kF) s46.symm rfl rfl λbv wZ te hs15=>tail ((bn.trans jr).andNew te λi hi=>by omega) ((v1.fr te λi hi e=>by have:=v1.2 i hi;omega).low bn.size) v2 v3 v4 wZ⟩
 ·have aI:k=cnt:=by have:=zQj q;omega
  subst aI
  refine ret true mv kf λu hv hu=>⟨?_,rfl⟩
  have h1:=hrc u hv hu
  rw[List.take_of_length_le (by have:=hrl u hv hu;omega)]at h1
  rw[h1,hfs u hv hu,←(pgu u hv hu).1]
end Go.Proofs.YtaeecpjhfmcliaaGreatDoor
/- Table: both packages' reading of a table's bytes. No condition. -/
set_option maxHeartbeats 2000000
namespace Go.Proofs.YtaeecpjhfmcliaaGreatDoor
open Go.Sh Go.RowKit Tryz
def yV1(d:List UInt8)(t:Tbl)(c:Int):Prop:=(c=0/\zQh t=0/\zQz t=d/\∀u,zQh u=0->zQz u=d->t=u)∨(c=11/\t=⟨0,[],[]⟩/\∀u,zQh u=0->zQz u ≠ d)
def xJc(w:World)(d:List UInt8):Rt:=λe w'=>∃(t:Tbl) (f q:SV) (c:Int),e=.returned (.tuple #[zYq t f q,.int .i64 c])/\zKH w w' t f q/\zYI t/\Pu w w'/\yV1 d t c
def zeroT(R:Rt)(r2:Nat)(w:World):Prop:=
 stA prog 35 (⟨r2,0,none⟩:Addr) #[.int .i64 0,.slice none 0 0,.slice none 0 0] w λw5=>
 ∃ag:Int,w5.cell? ((⟨r2,0,none⟩:Addr).add 0)=some (.int .i64 ag)/\
 ∃ab:SV,w5.cell? ((⟨r2,0,none⟩:Addr).add 1)=some (.slice ab.a ab.len ab.cap)/\
 ∃ae:SV,w5.cell? ((⟨r2,0,none⟩:Addr).add 2)=some (.slice ae.a ae.len ae.cap)/\
 R (.returned (.tuple #[.agg #[.int .i64 ag,.slice ab.a ab.len ab.cap,.slice ae.a ae.len ae.cap],.int .i64 11])) w5
theorem yX2 {w0 w:World} {d:List UInt8} {r2:Nat} (hb:w.heap[r2]?=some (.cells #[.int .i64 0,.slice none 0 0,.slice none 0 0] 35)) (hp:Pu w0 w) (hr:w0.heap.size<=r2) (hno:∀u,zQh u=0->zQz u ≠ d):zeroT (xJc w0 d) r2 w:=
 zQl hb s35.symm rfl rfl λw5 bq ci j9=>⟨_,cl bq 0,⟨none,0,0⟩,cl bq 1,⟨none,0,0⟩,cl bq 2,⟨0,[],[]⟩,⟨none,0,0⟩,⟨none,0,0⟩,11,rfl,⟨zKC.nil w0 w5,zJD.nil w0 w5⟩,zYI.zero,hp.andNew ci λi hi=>by omega,.inr ⟨rfl,rfl,hno⟩⟩
def copyT(R:Rt)(r2 r4:Nat)(w:World):Prop:=
 ∃dv:Int,w.cell? ((⟨r4,0,none⟩:Addr).add 0)=some (.int .i64 dv)/\
 ∃bh:SV,w.cell? ((⟨r4,0,none⟩:Addr).add 1)=some (.slice bh.a bh.len bh.cap)/\
 ∃bi:SV,w.cell? ((⟨r4,0,none⟩:Addr).add 2)=some (.slice bi.a bi.len bi.cap)/\
 stA prog 35 (⟨r2,0,none⟩:Addr) #[.int .i64 dv,.slice bh.a bh.len bh.cap,.slice bi.a bi.len bi.cap] w λw3=>
 ∃ag:Int,w3.cell? ((⟨r2,0,none⟩:Addr).add 0)=some (.int .i64 ag)/\
 ∃ab:SV,w3.cell? ((⟨r2,0,none⟩:Addr).add 1)=some (.slice ab.a ab.len ab.cap)/\
 ∃ae:SV,w3.cell? ((⟨r2,0,none⟩:Addr).add 2)=some (.slice ae.a ae.len ae.cap)/\
 R (.returned (.tuple #[.agg #[.int .i64 ag,.slice ab.a ab.len ab.cap,.slice ae.a ae.len ae.cap],.int .i64 0])) w3
theorem xJg {w0 wr w:World} {d:List UInt8} {r2 r4:Nat} {t:Tbl} {f q:SV} (aL:w.heap[r2]?=some (.cells #[.int .i64 0,.slice none 0 0,.slice none 0 0] 35)) (h4:w.heap[r4]?=some (.cells #[.int .i64 t.page,.slice f.a f.len f.cap,.slice q.a q.len q.cap] 35)) (ho:zKH wr w t f q) (hn:zYI t) (hp:Pu w0 w) (hr:w0.heap.size<=r2) (hl:r2<wr.heap.size) (hz:w0.heap.size<=wr.heap.size)
  (hout:yV1 d t 0):copyT (xJc w0 d) r2 r4 w:=
 ⟨_,cl h4 0,f,cl h4 1,q,cl h4 2,zQl aL s35.symm rfl rfl λw5 bq ci j9=>⟨_,cl bq 0,f,cl bq 1,q,cl bq 2,t,f,q,0,rfl,(ho.one ci hl).low hz,hn,hp.andNew ci λi hi=>by omega,hout⟩⟩
theorem yQD{w w0:World}{s t:SV}{a b:List UInt8}(ha:zQc w0 w s a)(hb:ByV w t b):Calls prog 125 #[.slice s.a s.len s.cap,.slice t.a t.len t.cap] w λe w'=>e=.returned (.bool (decide (a=b)))/\Pu w w':=by
 refine yZK _ _ w _ ⟨_,w,yYh ha,_,w,yXD hb,?_,Pu.refl w⟩
 rw[zXI]
 congr 2
 exact zZj ⟨λh=>by rw[←zQF a,h,zQF],λh=>by rw[h]⟩
theorem read_c{w:World}{s:SV}{d:List UInt8}(hb:ByV w s d)(hd:d.length<=1000000000):Calls prog 87 #[.slice s.a s.len s.cap] w (xJc w d):=by
 refine yWo _ w _ (alB λw1 aA aD=>(yX8 (hb.pu aA) hd).mono ?_)
 rintro e w2 ⟨t,f,q,ok,rfl,ho,hn,ay,hpar⟩
 have mt:w.heap.size<w1.heap.size:=zQ5 aD
 refine⟨_,f,q,ok,rfl,zYj rfl s35.symm rfl λw3 aC oX be=>?_⟩
 have p3:=(aA.trans ay).trans aC
 have yD:=ho.pu aC
 refine Br.of (λd1=>yX2 ((ay.trans aC).blk aD) p3 (Nat.le_refl _) λu hv hu=>?_) (λd1=>⟨_,cl be 0,f,cl be 1,q,cl be 2,(zZ9 (yD.rd hn) hn.lim).mono ?_⟩)
 ·rw[(hpar u hv hu).2]at d1;cases d1
 rintro e w4 ⟨rfl,aK⟩
 have p4:=p3.trans aK
 have b3:=aK.blk be
 have qq:=yD.pu aK
 refine⟨_,rfl,Br.of (λd1=>yX2 (((ay.trans aC).trans aK).blk aD) p4 (Nat.le_refl _) λu hv hu=>?_) (λd1=>⟨_,cl b3 0,f,cl b3 1,q,cl b3 2,?_⟩)⟩
 ·rw[(hpar u hv hu).1]at d1;exact zQG d1 hv
 have ky:zQh t=0:=zQ4 d1
 refine(zV0 (qq.rd hn) (zJE.of ky)).mono ?_
 rintro e w5 ⟨o,rfl,ho5,ba⟩
 refine⟨o,rfl,(yQD ho5 (hb.pu (p4.trans ba))).mono ?_⟩
 rintro e w6 ⟨rfl,cW⟩
 have qt:=ba.trans cW
 refine⟨_,rfl,Br.of (λd1=>yX2 ((((ay.trans aC).trans aK).trans qt).blk aD) (p4.trans qt) (Nat.le_refl _) λu hv hu=>?_) (λd1=>?_)⟩
 ·rw[(hpar u hv hu).1,decide_eq_true hu]at d1;cases d1
 have hbt:zQz t=d:=by simpa using d1
 exact xJg ((((ay.trans aC).trans aK).trans qt).blk aD) (qt.blk b3) (qq.pu qt) hn (p4.trans qt) (Nat.le_refl _) mt aA.size (.inl ⟨rfl,ky,hbt,λu hv hu=>(hpar u hv hu).1⟩)
end Go.Proofs.YtaeecpjhfmcliaaGreatDoor
/- The log: what files tell, and what a recovery writes. In plain words. No condition but those stated. -/
namespace Go.Proofs.YtaeecpjhfmcliaaGreatDoor
open Go.Sh Go.RowKit Tryz
def zJW(d:List UInt8):Option Tbl:=open Classical in if h:∃u,zQh u=0/\zQz u=d then some h.choose else none
theorem yK4{d:List UInt8}{t:Tbl}(h:zJW d=some t):zQh t=0/\zQz t=d:=by
 unfold zJW at h
 split at h
 ·next hx=>rw[←Option.some.inj h];exact hx.choose_spec
 ·cases h
theorem yJe{d:List UInt8}(h:zJW d=none):∀u,zQh u=0->zQz u ≠ d:=λu hu hd=>by
 unfold zJW at h
 split at h
 ·cases h
 ·next hx=>exact hx ⟨u,hu,hd⟩
def rowO(t:Tbl)(b:List UInt8):Option Rec:=(zJW (zKB { t with recs:=[⟨false,xQS t.fields⟩] } ++ b ++ [26])).bind λx=>x.recs.head?
def goC(t:Tbl)(size:Nat)(recs:List Rec)(rest:List UInt8):Option (List Rec):=
 if h:rest=[]then some recs
 else match rowO t ((rest.drop 2).take size)with
  | none=>none
  | some r=>if zXQ (rest.take 2)<1∨recs.length+1<zXQ (rest.take 2)∨300<zXQ (rest.take 2)then none
   else goC t size (if recs.length<zXQ (rest.take 2)then recs ++ [r]else recs.set (zXQ (rest.take 2) - 1) r) (rest.drop (size+2))
 termination_by rest.length
 decreasing_by
 rw[List.length_drop]
 have:rest.length ≠ 0:=λe=>h (List.length_eq_zero_iff.1 e)
 omega
def zZa(t:Tbl)(body:List UInt8):Option Tbl:=
 if body.length<2∨(body.length - 2) % ((zXE t.fields).toNat+2) ≠ 0 then none
 else(goC t (zXE t.fields).toNat t.recs (body.drop 2)).bind λl=>if l.length=zXQ (body.take 2)then some { t with recs:=l }else none
def yVK(t:Tbl)(k:Int):List UInt8:=match t.recs[(k - 1).toNat]? with
 | some r=>zZI zQm t.fields r
 | none=>[]
def zQU(t:Tbl)(l:List Int):List UInt8:=zZp t.recs.length 2 ++ l.flatMap λk=>if (t.recs.length:Int)<k then []else zZp k.toNat 2 ++ yVK t k
abbrev Fls:=List UInt8 × List UInt8
def zWn(cur:Option Tbl)(anew:Bool)(rest:List UInt8):Option Tbl × List UInt8 × Bool:=
 match h:zZL rest with
 | none=>(cur,rest,anew)
 | some (k,body,more)=>
  if k=119 then zWn (zJW body) true more
  else if k ≠ 99 then zWn none anew more
  else zWn (cur.bind λt=>zZa t body) anew more
 termination_by rest.length
 decreasing_by all_goals exact yZ9 h
def zZz(F:Fls):Option Tbl × List UInt8 × Bool:=zWn (zJW F.1) false F.2
structure Wr where
 file:Int
 at_:Int
 b:List UInt8
def Fls.get(F:Fls)(i:Int):List UInt8:=if i=0 then F.1 else F.2
def Fls.put(F:Fls)(i:Int)(b:List UInt8):Fls:=if i=0 then(b,F.2)else(F.1,b)
def zZY(F:Fls)(x:Wr)(k:Int):Fls:=if k<=0 then F else F.put x.file ((F.get x.file).take (min x.at_ (F.get x.file).length).toNat ++ x.b.take k.toNat)
def zXR(F:Fls)(x:Wr):Fls:=zZY F x (x.b.length+1)
end Go.Proofs.YtaeecpjhfmcliaaGreatDoor
/- The log: right tables and their bytes stand for each other; headers too. In plain words. No condition but those stated. -/
namespace Go.Proofs.YtaeecpjhfmcliaaGreatDoor
open Go.Sh Go.RowKit Tryz
def wOf(d:List UInt8):World:={ heap:=#[.cells (d.map u8V).toArray 0 (0,0)],tape:=λ_ _=>0,drawn:=0,os:=default,output:=#[] }
theorem wOf_by(d:List UInt8)(hd:d.length<=140737488355328):ByV (wOf d) ⟨some ⟨0,0,none⟩,d.length,d.length⟩ d:=
 ⟨rfl,Nat.le_refl _,hd,λj b hj=>⟨_,rfl,by rw[zQn,zQ8 (c:=(d.map u8V).toArray) (e:=0) (f:=(0,0)) rfl];simp[hj]⟩⟩
theorem zVe{t:Tbl}(h:zJE t):(zQz t).length<=600300:=by
 have h1:=zWr h
 have h2:=yWn h t.recs.length (Nat.le_refl _)
 rw[List.take_length]at h2
 have h3:=h.n16
 unfold zQz
 simp only[List.length_append,List.length_singleton]
 omega
theorem yKu{u v:Tbl}(hu:zQh u=0)(hv:zQh v=0)(h:zQz u=zQz v):u=v:=by
 have hl:=zVe (zJE.of hu)
 obtain⟨e,w',fr,⟨t,f,q,c,_,_,_,_,hr⟩,_⟩:=read_c (wOf_by (zQz u) (by omega)) (by omega) []
 rcases hr with⟨_,_,_,h3⟩|⟨_,_,h3⟩
 ·rw[←h3 u hu rfl,←h3 v hv h.symm]
 ·exact absurd rfl (h3 u hu)
theorem yWe{f:Fld}(h:zQo f=true):1<=f.kind/\f.kind<=5:=by
 unfold zQo at h
 have h:=(Bool.and_eq_true _ _ ▸ h:zWl f.name=true/\zVw f.kind f.width=true).2
 unfold zVw at h
 split at h
 ·omega
 split at h
 ·omega
 split at h
 ·omega
 split at h
 ·omega
 split at h
 ·omega
 ·cases h
theorem zWE{t:Tbl}(hp:zQY t.page=true)(hf:zQZ t.fields=0)(hn:t.recs.length<=300)(hr:∀r ∈ t.recs,zQA t.fields t.page r=0):zQh t=0:=by
 have key:∀l:List Rec,(∀r ∈ l,zQA t.fields t.page r=0)->zXg t.fields t.page l=0:=by
  intro l
  induction l with
  | nil=>intro _;rfl
  | cons r l ih=>
   intro h
   unfold zXg
   rw[if_neg (by rw[h r (List.mem_cons_self)];simp)]
   exact ih λx hx=>h x (List.mem_cons_of_mem _ hx)
 unfold zQh
 rw[if_pos hp,if_neg (by rw[hf];simp),if_neg (by omega)]
 exact key _ hr
structure zX3(t:Tbl):Prop where
 page:zQY t.page=true
 vf:zQZ t.fields=0
 n300:t.recs.length<=300
 recs:∀r ∈ t.recs,zQA t.fields t.page r=0
theorem zX3.of{t:Tbl}(h:zQh t=0):zX3 t:=by
 obtain⟨h1,h2,h3,h4⟩:=zKf h
 exact⟨h1,h2,h3,λr hr=>zZw h4 r hr⟩
theorem zX3.ok{t:Tbl}(h:zX3 t):zQh t=0:=zWE h.page h.vf h.n300 h.recs
end Go.Proofs.YtaeecpjhfmcliaaGreatDoor
/- The log: what bytes of the log tell, record by record; what is cut off or put behind; recoveries. In plain words. No condition but those stated. -/
namespace Go.Proofs.YtaeecpjhfmcliaaGreatDoor
open Go.Sh Go.RowKit Tryz
def zY0(cur:Option Tbl)(a:Bool)(k:UInt8)(body:List UInt8):Option Tbl × Bool:=
 if k=119 then(zJW body,true)else if k ≠ 99 then(none,a)else(cur.bind λt=>zZa t body,a)
theorem zKv{cur:Option Tbl}{a:Bool}{rest:List UInt8}(h:zZL rest=none):zWn cur a rest=(cur,rest,a):=by
 rw[zWn];split
 ·rfl
 ·next hx=>rw[h]at hx;cases hx
theorem zWG {cur:Option Tbl} {a:Bool} {rest body more:List UInt8} {k:UInt8} (h:zZL rest=some (k,body,more)):zWn cur a rest=zWn (zY0 cur a k body).1 (zY0 cur a k body).2 more:=by
 rw[zWn];split
 ·next hx=>rw[h]at hx;cases hx
 ·next k' body' more' hx=>
  rw[h]at hx
  simp only[Option.some.injEq,Prod.mk.injEq]at hx
  obtain⟨rfl,rfl,rfl⟩:=hx
  unfold zY0
  split
  ·rfl
  ·split <;> rfl
theorem xJa{M:Option Tbl->Bool->List UInt8->Prop}(h0:∀cur a rest,zZL rest=none->M cur a rest)
  (h1:∀cur a rest k body more,zZL rest=some (k,body,more)->M (zY0 cur a k body).1 (zY0 cur a k body).2 more->M cur a rest):∀cur a rest,M cur a rest:=by
 have key:∀n cur a rest,rest.length=n->M cur a rest:=by
  intro n
  induction n using Nat.strongRecOn with
  | _ n ih=>
   intro cur a rest hn
   cases h:zZL rest with
   | none=>exact h0 cur a rest h
   | some x=>
    obtain⟨k,body,more⟩:=x
    exact h1 cur a rest k body more h (ih more.length (by rw[←hn];exact yZ9 h) _ _ more rfl)
 exact λcur a rest=>key _ cur a rest rfl
theorem seg{b x:List UInt8}{m i j:Nat}(h:i+j<=m)(hm:m<=b.length):((b.take m ++ x).drop i).take j=(b.drop i).take j:=by
 have hl:(b.take m).length=m:=by rw[List.length_take];omega
 rw[List.drop_append_of_le_length (by omega),List.take_append_of_le_length (by rw[List.length_drop];omega),List.drop_take,List.take_take,Nat.min_eq_left (by omega)]
theorem yXk {b body more:List UInt8} {k:UInt8} (h:zZL b=some (k,body,more)):∃front,b=front ++ more/\9<=front.length/\∀x,zZL (front ++ x)=some (k,body,x):=by
 unfold zZL at h
 split at h
 ·cases h
 rename_i h9
 split at h
 ·cases h
 rename_i hn
 split at h
 ·cases h
 rename_i hs
 simp only[Option.some.injEq,Prod.mk.injEq]at h
 obtain⟨rfl,rfl,rfl⟩:=h
 obtain⟨n,en⟩:∃n,n=zXQ ((b.drop 1).take 4):=⟨_,rfl⟩
 rw[←en]at hn hs ⊢
 have hm:9+n<=b.length:=by omega
 have hl:(b.take (9+n)).length=9+n:=by rw[List.length_take];omega
 refine⟨b.take (9+n),(List.take_append_drop _ _).symm,by omega,λx=>?_⟩
 have e1:(((b.take (9+n)) ++ x).drop 1).take 4=(b.drop 1).take 4:=seg (by omega) hm
 have e2:(((b.take (9+n)) ++ x).drop (5+n)).take 4=(b.drop (5+n)).take 4:=seg (by omega) hm
 have e3:((b.take (9+n)) ++ x).take (5+n)=b.take (5+n):=seg (i:=0) (by omega) hm
 have e4:(((b.take (9+n)) ++ x).drop 5).take n=(b.drop 5).take n:=seg (by omega) hm
 have e5:((b.take (9+n)) ++ x).drop (9+n)=x:=by
  conv=>lhs;rw[←hl]
  rw[hl]
  have:=List.drop_left (l₁:=b.take (9+n)) (l₂:=x)
  rw[hl]at this;exact this
 have e6:((b.take (9+n)) ++ x).headD 0=b.headD 0:=by
  cases b with
  | nil=>simp at hm
  | cons c b=>rw[show 9+n=(8+n)+1 by omega];rfl
 unfold zZL
 rw[e1,←en,if_neg (by rw[List.length_append];omega),if_neg (by rw[List.length_append];omega),e2,e3,if_neg hs,e4,e5,e6]
theorem yYv:∀(cur:Option Tbl) (a:Bool) (rest:List UInt8),zZL (zWn cur a rest).2.1=none/\∃front,rest=front ++ (zWn cur a rest).2.1/\∀x,zWn cur a (front ++ x)=zWn (zWn cur a rest).1 (zWn cur a rest).2.2 x:=by
 refine xJa (λcur a rest h=>?_) (λcur a rest k body more h ih=>?_)
 ·rw[zKv h]
  exact⟨h,[],rfl,λx=>rfl⟩
 ·rw[zWG h]
  obtain⟨h1,f,h2,h3⟩:=ih
  obtain⟨g,g1,_,g3⟩:=yXk h
  refine⟨h1,g ++ f,?_,λx=>?_⟩
  ·rw[List.append_assoc,←h2];exact g1
  ·rw[List.append_assoc,zWG (g3 (f ++ x)),h3]
theorem yVZ{cur:Option Tbl}{a:Bool}{k:UInt8}{body x:List UInt8}(hb:body.length<4294967296):zWn cur a (zJa k body ++ x)=zWn (zY0 cur a k body).1 (zY0 cur a k body).2 x:=zWG (yVo hb)
theorem zWO {cur t:Option Tbl} {a b:Bool} {l:List UInt8} (h:zWn cur a l=(t,[],b)) (x:List UInt8):zWn cur a (l ++ x)=zWn t b x:=by
 obtain⟨_,f,h2,h3⟩:=yYv cur a l
 rw[h]at h2 h3
 simp only[List.append_nil]at h2
 subst h2
 exact h3 x
theorem yQg:zZL []=none:=rfl
theorem Fls.put1(F:Fls)(b:List UInt8):F.put 1 b=(F.1,b):=rfl
theorem yQm(F:Fls)(x:Wr):zXR F x=F.put x.file ((F.get x.file).take (min x.at_ (F.get x.file).length).toNat ++ x.b):=by
 unfold zXR zZY
 rw[if_neg (by omega),List.take_of_length_le (l:=x.b) (by omega)]
theorem zV3(F:Fls)(x:Wr){k:Int}(h:k<=0):zZY F x k=F:=by unfold zZY;rw[if_pos h]
theorem yXa(F:Fls)(x:Wr){k:Int}(h:0<k):zZY F x k=F.put x.file ((F.get x.file).take (min x.at_ (F.get x.file).length).toNat ++ x.b.take k.toNat):=by unfold zZY;rw[if_neg (by omega)]
end Go.Proofs.YtaeecpjhfmcliaaGreatDoor
/- The log: what a record of changes makes of a table: of the table before, the table behind. In plain words. No condition but those stated. -/
namespace Go.Proofs.YtaeecpjhfmcliaaGreatDoor
open Go.Sh Go.RowKit Tryz
theorem zW1{t:Tbl}(hv:zQh t=0):zJW (zQz t)=some t:=by
 cases q:zJW (zQz t)with
 | none=>exact absurd rfl (yJe q t hv)
 | some u=>obtain⟨q1,q2⟩:=yK4 q;rw[yKu q1 hv q2]
theorem yJ3{t:Tbl}(hp:zQY t.page=true)(hf:zQZ t.fields=0){r:Rec}(hr:zQA t.fields t.page r=0):rowO t (zZI zQm t.fields r)=some r:=by
 have hv:zQh { t with recs:=[r] }=0:=zWE hp hf (by simp) λx hx=>by rw[List.mem_singleton.1 hx];exact hr
 have e:zKB { t with recs:=[⟨false,xQS t.fields⟩] } ++ zZI zQm t.fields r ++ [26]=zQz { t with recs:=[r] }:=by
  unfold zQz
  rw[List.flatMap_cons,List.flatMap_nil,List.append_nil]
  rfl
 unfold rowO
 rw[e,zW1 hv]
 rfl
theorem xZO(t:Tbl)(size:Nat)(recs:List Rec):goC t size recs []=some recs:=by rw[goC,dif_pos rfl]
theorem yVR {t:Tbl} {size:Nat} {recs:List Rec} {rest:List UInt8} (h:rest ≠ []):goC t size recs rest=(match rowO t ((rest.drop 2).take size)with
  | none=>none
  | some r=>if zXQ (rest.take 2)<1∨recs.length+1<zXQ (rest.take 2)∨300<zXQ (rest.take 2)then none
   else goC t size (if recs.length<zXQ (rest.take 2)then recs ++ [r]else recs.set (zXQ (rest.take 2) - 1) r) (rest.drop (size+2))):=by
 conv=>lhs;rw[goC]
 rw[dif_neg h]
 all_goals (cases rowO t ((rest.drop 2).take size) <;> rfl)
theorem yZe{n:Nat}(h:n<65536)(rest:List UInt8):zXQ ((zZp n 2 ++ rest).take 2)=n:=by
 rw[List.take_append_of_le_length (by rw[zQu];omega),List.take_of_length_le (by rw[zQu];omega),zK1,Nat.mod_eq_of_lt h]
theorem zWA(n:Nat)(rest:List UInt8):(zZp n 2 ++ rest).drop 2=rest:=by
 have:=List.drop_left (l₁:=zZp n 2) (l₂:=rest)
 rw[zQu]at this;exact this
def yXQ(u:Tbl)(i:Nat):List UInt8:=zZp (i+1) 2 ++ (match u.recs[i]? with
 | some r=>zZI zQm u.fields r
 | none=>[])
theorem yYF{t u:Tbl}(ht:zQh t=0)(hu:zQh u=0)(hp:u.page=t.page)(hf:u.fields=t.fields)(hn:t.recs.length<=u.recs.length) :
  ∀(d j:Nat),j+d=u.recs.length->goC t (zXE t.fields).toNat (u.recs.take j ++ t.recs.drop j) (((List.range' j d).filter (zW9 t.recs u.recs)).flatMap (yXQ u))=some u.recs:=by
 have hT:=zX3.of ht
 have hU:=zX3.of hu
 intro d
 induction d with
 | zero=>
  intro j hj
  rw[List.range'_zero,List.filter_nil,List.flatMap_nil,xZO,List.take_of_length_le (by omega),List.drop_eq_nil_of_le (by omega),List.append_nil]
 | succ d ih=>
  intro j hj
  have gn:=hU.n300
  obtain⟨r,hr⟩:=zXf (l:=u.recs) (k:=j) (by omega)
  have pA:u.recs.take (j+1)=u.recs.take j ++ [r]:=zQK hr
  have hlen:(u.recs.take j).length=j:=by rw[List.length_take];omega
  rw[List.range'_succ]
  by_cases hd:zW9 t.recs u.recs j=true
  ·rw[List.filter_cons_of_pos hd,List.flatMap_cons]
   obtain⟨X,hX⟩:∃X,X=((List.range' (j+1) d).filter (zW9 t.recs u.recs)).flatMap (yXQ u):=⟨_,rfl⟩
   rw[←hX]
   have hrv:zQA t.fields t.page r=0:=by rw[←hp,←hf];exact hU.recs r (List.mem_of_getElem? hr)
   have eB:yXQ u j=zZp (j+1) 2 ++ zZI zQm t.fields r:=by unfold yXQ;rw[hr,hf]
   have hrl:(zZI zQm t.fields r).length=(zXE t.fields).toNat:=by
    have:=zJ0 (zXt hT.vf).2.1 (zXh.of (zXt hT.vf).2.1 hrv)
    omega
   have e1:zXQ ((yXQ u j ++ X).take 2)=j+1:=by rw[eB,List.append_assoc];exact yZe (by omega) _
   have e2:((yXQ u j ++ X).drop 2).take (zXE t.fields).toNat=zZI zQm t.fields r:=by
    rw[eB,List.append_assoc,zWA,←hrl,List.take_left]
   have e3:(yXQ u j ++ X).drop ((zXE t.fields).toNat+2)=X:=by
    rw[Nat.add_comm,←List.drop_drop,eB,List.append_assoc,zWA,←hrl,List.drop_left]
   have hne:yXQ u j ++ X ≠ []:=λe=>by
    have:=congrArg List.length e
    rw[eB]at this
    simp[zQu]at this
   rw[yVR hne,e2,yJ3 hT.page hT.vf hrv]
   dsimp only
   rw[e1,e3]
   have hll:(u.recs.take j ++ t.recs.drop j).length=j+(t.recs.length - j):=by rw[List.length_append,hlen,List.length_drop]
   rw[if_neg (by omega)]
   have key:(if (u.recs.take j ++ t.recs.drop j).length<j+1 then u.recs.take j ++ t.recs.drop j ++ [r]else(u.recs.take j ++ t.recs.drop j).set (j+1 - 1) r)=u.recs.take (j+1) ++ t.recs.drop (j+1):=by
    by_cases hlt:t.recs.length<=j
    ·rw[if_pos (by omega),List.drop_eq_nil_of_le hlt,List.drop_eq_nil_of_le (show t.recs.length<=j+1 by omega),List.append_nil,List.append_nil,pA]
    ·rw[if_neg (by omega),Nat.add_sub_cancel,pA]
     obtain⟨y,hy⟩:=zXf (l:=t.recs) (k:=j) (by omega)
     rw[zXG hy,List.set_append,if_neg (by omega),hlen,Nat.sub_self,List.set_cons_zero,List.append_assoc]
     rfl
   rw[key,hX]
   exact ih (j+1) (by omega)
  ·rw[List.filter_cons_of_neg hd]
   have he:t.recs[j]?=u.recs[j]?:=by
    unfold zW9 at hd
    simpa using hd
   rw[hr]at he
   have:u.recs.take j ++ t.recs.drop j=u.recs.take (j+1) ++ t.recs.drop (j+1):=by rw[zXG he,pA,List.append_assoc];rfl
   rw[this]
   exact ih (j+1) (by omega)
theorem yZ5{t u:Tbl}(hu:zQh u=0)(hf:u.fields=t.fields){l:List Nat}(h:∀i ∈ l,i<u.recs.length):(l.flatMap (yXQ u)).length=l.length * ((zXE t.fields).toNat+2):=by
 have hU:=zX3.of hu
 induction l with
 | nil=>simp
 | cons i l ih=>
  obtain⟨r,hr⟩:=zXf (h i List.mem_cons_self)
  have hrl:=zJ0 (zXt hU.vf).2.1 (zXh.of (zXt hU.vf).2.1 (hU.recs r (List.mem_of_getElem? hr)))
  rw[hf]at hrl
  rw[List.flatMap_cons,List.length_append,ih λk hk=>h k (List.mem_cons_of_mem _ hk),List.length_cons,Nat.succ_mul]
  have:(yXQ u i).length=2+(zZI zQm t.fields r).length:=by unfold yXQ;rw[hr,hf,List.length_append,zQu]
  omega
theorem zKV{t u:Tbl}(l:List Nat)(h:∀i ∈ l,i<u.recs.length):zQU u (l.map λ(i:Nat)=>(i:Int)+1)=zZp u.recs.length 2 ++ l.flatMap (yXQ u):=by
 unfold zQU
 congr 1
 induction l with
 | nil=>rfl
 | cons i l ih=>
  rw[List.map_cons,List.flatMap_cons,List.flatMap_cons,ih λk hk=>h k (List.mem_cons_of_mem _ hk)]
  congr 1
  have:=h i List.mem_cons_self
  rw[if_neg (by omega)]
  unfold yXQ yVK
  rw[show((i:Int)+1).toNat=i+1 by omega,show((i:Int)+1 - 1).toNat=i by omega]
  all_goals (cases u.recs[i]? <;> rfl)
theorem xQf {a b:List Rec} {i:Nat} (h:i ∈ (List.range (max a.length b.length)).filter (zW9 a b)) (hn:a.length<=b.length):i<b.length:=by
 have:=List.mem_range.1 (List.mem_filter.1 h).1
 omega
theorem zVt{t u:Tbl}(ht:zQh t=0)(hu:zQh u=0)(hp:u.page=t.page)(hf:u.fields=t.fields)(hn:t.recs.length<=u.recs.length) :
  zZa t (zQU u (zWc t.recs u.recs (max t.recs.length u.recs.length)))=some u:=by
 have hU:=zX3.of hu
 have gn:=hU.n300
 have hall:∀i ∈ (List.range (max t.recs.length u.recs.length)).filter (zW9 t.recs u.recs),i<u.recs.length:=λi hi=>xQf hi hn
 have e:zQU u (zWc t.recs u.recs (max t.recs.length u.recs.length))=zZp u.recs.length 2 ++ ((List.range (max t.recs.length u.recs.length)).filter (zW9 t.recs u.recs)).flatMap (yXQ u):=zKV (t:=t) _ hall
 have hl:=yZ5 (t:=t) hu hf hall
 have hg:=yYF ht hu hp hf hn u.recs.length 0 (by omega)
 rw[List.take_zero,List.drop_zero,List.nil_append,←List.range_eq_range']at hg
 rw[Nat.max_eq_right hn]at e hl ⊢
 have hsub:(zQU u (zWc t.recs u.recs u.recs.length)).length - 2=((List.range u.recs.length).filter (zW9 t.recs u.recs)).length * ((zXE t.fields).toNat+2):=by
  rw[e,List.length_append,zQu,hl];omega
 have h2:2<=(zQU u (zWc t.recs u.recs u.recs.length)).length:=by rw[e,List.length_append,zQu];omega
 unfold zZa
 rw[if_neg (by rw[hsub];exact λh=>h.elim (λh=>by omega) (λh=>h (Nat.mul_mod_left _ _)))]
 rw[e,zWA,hg,yZe (by omega)]
 simp only[Option.bind_some,if_pos]
 obtain⟨p,f,r⟩:=u
 obtain⟨p',f',r'⟩:=t
 dsimp only at hp hf
 rw[hp,hf]
theorem zVL{t u:Tbl}(hu:zQh u=0)(hn:t.recs.length<=u.recs.length):(zQU u (zWc t.recs u.recs (max t.recs.length u.recs.length))).length<=650000:=by
 have hU:=zJE.of hu
 have gn:=hU.m300
 have hw:=hU.w2
 have hall:∀i ∈ (List.range (max t.recs.length u.recs.length)).filter (zW9 t.recs u.recs),i<u.recs.length:=λi hi=>xQf hi hn
 have e:zQU u (zWc t.recs u.recs (max t.recs.length u.recs.length))=zZp u.recs.length 2 ++ ((List.range (max t.recs.length u.recs.length)).filter (zW9 t.recs u.recs)).flatMap (yXQ u):=zKV (t:=t) _ hall
 have hl:=yZ5 (t:=u) hu rfl hall
 have hc:((List.range (max t.recs.length u.recs.length)).filter (zW9 t.recs u.recs)).length<=300:=Nat.le_trans (List.length_filter_le _ _) (by rw[List.length_range];omega)
 rw[e,List.length_append,zQu,hl]
 have:=Nat.mul_le_mul hc (show(zXE u.fields).toNat+2<=2002 by omega)
 omega
theorem xJr {a b:List Rec} (h:zWc a b (max a.length b.length)=[]):a=b:=by
 unfold zWc at h
 have h1:=List.map_eq_nil_iff.1 h
 refine List.ext_getElem? λi=>?_
 by_cases hi:i<max a.length b.length
 ·by_cases hd:zW9 a b i=true
  ·exact absurd (List.mem_filter.2 ⟨List.mem_range.2 hi,hd⟩) (by rw[h1];exact List.not_mem_nil)
  ·unfold zW9 at hd
   simpa using hd
 ·rw[List.getElem?_eq_none (by omega),List.getElem?_eq_none (by omega)]
theorem yY0(a:List Rec):zWc a a (max a.length a.length)=[]:=by
 unfold zWc
 rw[List.filter_eq_nil_iff.2 λi _=>by unfold zW9;simp]
 rfl
end Go.Proofs.YtaeecpjhfmcliaaGreatDoor
/- The log: a store with its files: what each call leaves; what files tell behind any fall. In plain words. No condition but those stated. -/
namespace Go.Proofs.YtaeecpjhfmcliaaGreatDoor
open Go.Sh Go.RowKit Tryz
def zXD(F:Fls)(W:List Wr)(n:Nat):Fls:=(W.take n).foldl zXR F
def lst(P:List Int)(n:Nat):Nat:=(P.takeWhile λp=>decide (p<=(n:Int))).length
theorem yXL {P:List Int} {n:Nat} (h:∀p ∈ P,p<=(n:Int)):lst P n=P.length:=by
 unfold lst
 induction P with
 | nil=>rfl
 | cons p P ih=>
  rw[List.takeWhile_cons,if_pos (decide_eq_true (h p List.mem_cons_self)),List.length_cons,List.length_cons,ih λq hq=>h q (List.mem_cons_of_mem _ hq)]
theorem yW1(P:List Int)(n:Nat):lst P n<=P.length:=List.IsPrefix.length_le (List.takeWhile_prefix _)
theorem yY1 {P:List Int} {n:Nat} {q:Int} (h:(n:Int)<q):lst (P ++ [q]) n=lst P n:=by
 unfold lst
 have hq:decide (q<=(n:Int))=false:=by simp;omega
 induction P with
 | nil=>simp[hq]
 | cons p P ih=>
  rw[List.cons_append,List.takeWhile_cons,List.takeWhile_cons]
  split
  ·rw[List.length_cons,List.length_cons,ih]
  ·rfl
structure yZc(F:Fls)(W:List Wr)(P:List Int)(D:List Tbl):Prop where
 len:P.length+1=D.length
 le:∀p ∈ P,1<=p/\p<=(W.length:Int)
 asc:P.Pairwise (· < ·)
 at_:∀n,n<=W.length->∃t,D[lst P n]?=some t/\(zZz (zXD F W n)).1=some t
 mid:∀n x,W[n]?=some x->∀k,∃t,(zZz (zZY (zXD F W n) x k)).1=some t/\(D[lst P n]?=some t∨D[lst P (n+1)]?=some t)
 one:∀n,lst P (n+1)<=lst P n+1
 adj:∀(j:Nat) a b,D[j]?=some a->D[j+1]?=some b->a ≠ b
variable {F : Fls} {W : List Wr} {P : List Int} {D : List Tbl} {t t' : Tbl} {x : Wr}
theorem zXH(F:Fls)(W:List Wr)(x:Wr){n:Nat}(h:n<=W.length):zXD F (W ++ [x]) n=zXD F W n:=by
 unfold zXD;rw[List.take_append_of_le_length h]
theorem zZK(F:Fls)(W:List Wr)(x:Wr):zXD F (W ++ [x]) (W.length+1)=zXR (zXD F W W.length) x:=by
 unfold zXD
 rw[List.take_of_length_le (by simp),List.take_length,List.foldl_append]
 rfl
theorem yZc.lstW(h:yZc F W P D):lst P W.length=P.length:=yXL λp hp=>(h.le p hp).2
theorem yZc.start (h:(zZz F).1=some t):yZc F [] [] [t] where
 len:=rfl
 le:=λp hp=>absurd hp List.not_mem_nil
 asc:=List.Pairwise.nil
 at_:=λn hn=>⟨t,rfl,by rw[show n=0 by simpa using hn];exact h⟩
 mid:=λn x hx=>by simp at hx
 one:=λn=>by simp[lst]
 adj:=λj a b _ hb=>by simp at hb
theorem yZc.lastD(h:yZc F W P D)(hl:D.getLast?=some t):D[P.length]?=some t:=by
 rw[List.getLast?_eq_getElem?]at hl
 rw[←hl,←h.len];simp
theorem yZc.same (h:yZc F W P D) (hl:D.getLast?=some t) (hk:∀k,(zZz (zZY (zXD F W W.length) x k)).1=some t):yZc F (W ++ [x]) P D where
 len:=h.len
 le:=λp hp=>⟨(h.le p hp).1,by have:=(h.le p hp).2;rw[List.length_append,List.length_singleton];omega⟩
 asc:=h.asc
 at_:=λn hn=>by
  rw[List.length_append,List.length_singleton]at hn
  rcases Nat.lt_or_ge W.length n with h1|h1
  ·obtain rfl:n=W.length+1:=by omega
   refine⟨t,?_,?_⟩
   ·rw[yXL λp hp=>by have:=(h.le p hp).2;omega];exact h.lastD hl
   ·rw[zZK];exact hk _
  ·rw[zXH F W x h1];exact h.at_ n h1
 mid:=λn y hy k=>by
  rcases Nat.lt_trichotomy n W.length with h1|h1|h1
  ·rw[List.getElem?_append_left h1]at hy
   rw[zXH F W x (by omega)];exact h.mid n y hy k
  ·subst h1
   rw[List.getElem?_append_right (Nat.le_refl _),Nat.sub_self]at hy
   simp at hy;subst hy
   rw[zXH F W x (Nat.le_refl _)]
   exact⟨t,hk k,.inl (by rw[h.lstW];exact h.lastD hl)⟩
  ·rw[List.getElem?_eq_none (by rw[List.length_append,List.length_singleton];omega)]at hy;cases hy
 one:=h.one
 adj:=h.adj
theorem yZc.new (h:yZc F W P D) (hl:D.getLast?=some t) (hne:t ≠ t') (hw:(zZz (zXR (zXD F W W.length) x)).1=some t')
  (hk:∀k,(zZz (zZY (zXD F W W.length) x k)).1=some t∨(zZz (zZY (zXD F W W.length) x k)).1=some t'):yZc F (W ++ [x]) (P ++ [(W.length:Int)+1]) (D ++ [t']):=by
 have hlen:=h.len
 have hq:∀n,n<=W.length->lst (P ++ [(W.length:Int)+1]) n=lst P n:=λn hn=>yY1 (by omega)
 have tf:∀n,W.length<n->lst (P ++ [(W.length:Int)+1]) n=P.length+1:=λn hn=>by
  rw[yXL]
  ·simp
  ·intro p hp
   rcases List.mem_append.1 hp with hp|hp
   ·have:=(h.le p hp).2;omega
   ·rw[List.mem_singleton.1 hp];omega
 have hD:∀j,j<=P.length->(D ++ [t'])[j]?=D[j]?:=λj hj=>List.getElem?_append_left (by omega)
 have xa:(D ++ [t'])[P.length+1]?=some t':=by rw[List.getElem?_append_right (by omega),hlen,Nat.sub_self];rfl
 refine⟨by simp;omega,λp hp=>?_,?_,λn hn=>?_,λn y hy k=>?_,λn=>?_,λj a b ha hb=>?_⟩
 ·rw[List.length_append,List.length_singleton]
  rcases List.mem_append.1 hp with hp|hp
  ·have:=h.le p hp;omega
  ·rw[List.mem_singleton.1 hp];omega
 ·refine List.pairwise_append.2 ⟨h.asc,List.pairwise_singleton _ _,λa ha b hb=>?_⟩
  rw[List.mem_singleton.1 hb]
  have:=(h.le a ha).2
  omega
 ·rw[List.length_append,List.length_singleton]at hn
  rcases Nat.lt_or_ge W.length n with h1|h1
  ·obtain rfl:n=W.length+1:=by omega
   exact⟨t',by rw[tf _ h1];exact xa,by rw[zZK];exact hw⟩
  ·rw[zXH F W x h1,hq n h1,hD _ (yW1 P n)];exact h.at_ n h1
 ·rcases Nat.lt_trichotomy n W.length with h1|h1|h1
  ·rw[List.getElem?_append_left h1]at hy
   rw[zXH F W x (by omega),hq n (by omega),hq (n+1) (by omega),hD _ (yW1 P n),hD _ (yW1 P _)];exact h.mid n y hy k
  ·subst h1
   rw[List.getElem?_append_right (Nat.le_refl _),Nat.sub_self]at hy
   simp at hy;subst hy
   rw[zXH F W x (Nat.le_refl _),hq _ (Nat.le_refl _),tf _ (Nat.lt_succ_self _),h.lstW,hD _ (Nat.le_refl _),xa,h.lastD hl]
   rcases hk k with h2|h2
   ·exact⟨t,h2,.inl rfl⟩
   ·exact⟨t',h2,.inr rfl⟩
  ·rw[List.getElem?_eq_none (by rw[List.length_append,List.length_singleton];omega)]at hy;cases hy
 ·rcases Nat.lt_trichotomy n W.length with h1|h1|h1
  ·rw[hq n (by omega),hq (n+1) (by omega)];exact h.one n
  ·subst h1;rw[hq _ (Nat.le_refl _),tf _ (Nat.lt_succ_self _),h.lstW];exact Nat.le_refl _
  ·rw[tf _ h1,tf _ (by omega)];omega
 ·by_cases hj:j+1<=P.length
  ·rw[hD _ (by omega)]at ha
   rw[hD _ hj]at hb
   exact h.adj j a b ha hb
  ·have jC:j+1<(D ++ [t']).length:=(List.getElem?_eq_some_iff.1 hb).1
   rw[List.length_append,List.length_singleton]at jC
   obtain rfl:j=P.length:=by omega
   rw[xa]at hb
   rw[hD _ (Nat.le_refl _),h.lastD hl]at ha
   cases ha;cases hb
   exact hne
structure Dat where
 σ:Sto
 first:Fls
 last:Fls
 wr:List Wr
 pts:List Int
def Dat.write(d:Dat)(x:Wr):Dat:={ d with wr:=d.wr ++ [x],last:=zXR d.last x }
def Dat.to(d:Dat)(σ:Sto):Dat:={ d with σ:=σ }
def Dat.rec_(d:Dat):Wr:=⟨1,d.last.2.length,zJa 99 (zQU d.σ.t (zZ1 d.σ))⟩
def Dat.commit(d:Dat):Dat:=if d.σ.lev=[]/\d.σ.t ≠ d.σ.last then { d.write d.rec_ with σ:={ d.σ with done:=d.σ.done ++ [d.σ.t] },pts:=d.pts ++ [(d.wr.length:Int)+1] }else d
theorem Dat.commit_σ(d:Dat):d.commit.σ=zYw d.σ:=by
 unfold Dat.commit zYw
 split <;> rfl
def Dat.new(t:Tbl)(F:Fls):Dat:=⟨Sto.new t,F,F,[],[]⟩
def Dat.begin(d:Dat):Dat:=d.to (zJI d.σ)
def Dat.end_(d:Dat):Dat:=if d.σ.lev=[]then d else(d.to { d.σ with lev:=d.σ.lev.dropLast }).commit
def Dat.back(d:Dat):Dat:=d.to (yQO d.σ)
def Dat.recs(d:Dat)(l:List Rec):Dat:=(d.to { d.σ with t:={ d.σ.t with recs:=l } }).commit
def Dat.app(d:Dat)(r:Rec):Dat:=if appC d.σ r=0 then d.recs (d.σ.t.recs ++ [r])else d
def Dat.put(d:Dat)(k:Int)(r:Rec):Dat:=if putC d.σ k r=0 then d.recs (d.σ.t.recs.set (k - 1).toNat r)else d
def Dat.set(d:Dat)(k:Int)(nm:ByteArray)(v:Val):Dat:=match yK7 d.σ.t.fields nm with
 | none=>d
 | some i=>if zZA d.σ k/\(zJC (d.σ.t.fields.getD i default) d.σ.t.page v).2=0 then d.recs (d.σ.t.recs.modify (k - 1).toNat λr=>{ r with v:=r.v.set i (zJC (d.σ.t.fields.getD i default) d.σ.t.page v).1 })else d
def Dat.whole(d:Dat):Wr:=⟨1,d.last.2.length,zJa 119 (zJB d.σ.t)⟩
theorem Dat.recs_σ(d:Dat)(l:List Rec):(d.recs l).σ=yZ7 d.σ l:=Dat.commit_σ _
theorem Dat.end_σ(d:Dat):d.end_.σ=endS d.σ:=by
 unfold Dat.end_ endS
 split
 ·rfl
 ·exact Dat.commit_σ _
theorem Dat.set_σ(d:Dat)(k:Int)(nm:ByteArray)(v:Val):(d.set k nm v).σ=setS d.σ k nm v:=by
 unfold Dat.set setS
 cases yK7 d.σ.t.fields nm with
 | none=>rfl
 | some i=>
  dsimp only
  split
  ·exact Dat.recs_σ _ _
  ·rfl
end Go.Proofs.YtaeecpjhfmcliaaGreatDoor
/- The log: what every call keeps of a store and its files. In plain words. No condition but those stated. -/
namespace Go.Proofs.YtaeecpjhfmcliaaGreatDoor
open Go.Sh Go.RowKit Tryz
structure Like(p:Int)(f:List Fld)(t:Tbl):Prop where
 ok:zQh t=0
 page:t.page=p
 fields:t.fields=f
def okW(y:Wr):Prop:=(y.file=0∨y.file=1)/\0<=y.at_/\y.b.length<=700000
structure InvW(p:Int)(f:List Fld)(d:Dat):Prop where
 t:Like p f d.σ.t
 lev:∀u ∈ d.σ.lev,Like p f u/\d.σ.last.recs.length<=u.recs.length
 done:∀u ∈ d.σ.done,Like p f u
 ne:d.σ.done ≠ []
 ge:d.σ.last.recs.length<=d.σ.t.recs.length
 h0:∀u,d.σ.lev.head?=some u->u=d.σ.last
 l8:d.σ.lev.length<=8
 eq:d.last=zXD d.first d.wr d.wr.length
 file:zZz d.last=(some d.σ.last,[],false)
 hist:yZc d.first d.wr d.pts d.σ.done
 wb:∀x ∈ d.wr,okW x
structure Inv(p:Int)(f:List Fld)(d:Dat):Prop extends InvW p f d where
 at0:d.σ.lev=[]->d.σ.t=d.σ.last
variable {p : Int} {f : List Fld} {d : Dat}
theorem zZ7 {σ:Sto} (h:σ.done ≠ []):σ.done.getLast?=some σ.last:=by
 unfold Sto.last
 rw[List.getLast?_eq_some_getLast h];rfl
theorem zWY {σ σ':Sto} (h:σ.done ≠ []) (e:σ'.done=σ.done):σ'.last=σ.last:=by
 have h1:=zZ7 h
 have h2:=zZ7 (σ:=σ') (by rw[e];exact h)
 rw[e]at h2
 exact Option.some.inj (h2.symm.trans h1)
theorem InvW.lastL(h:InvW p f d):Like p f d.σ.last:=h.done _ (List.mem_of_getLast? (zZ7 h.ne))
theorem InvW.write (h:InvW p f d) {x:Wr} (hb:okW x) (hk:∀k,(zZz (zZY d.last x k)).1=some d.σ.last) (hf:zZz (zXR d.last x)=(some d.σ.last,[],false)):InvW p f (d.write x) where
 t:=h.t
 lev:=h.lev
 done:=h.done
 ne:=h.ne
 ge:=h.ge
 h0:=h.h0
 l8:=h.l8
 eq:=by
  show zXR d.last x=zXD d.first (d.wr ++ [x]) (d.wr ++ [x]).length
  rw[List.length_append,List.length_singleton,zZK,←h.eq]
 file:=hf
 hist:=h.hist.same (zZ7 h.ne) (by rw[←h.eq];exact hk)
 wb:=λy hy=>by
  rcases List.mem_append.1 hy with hy|hy
  ·exact h.wb y hy
  ·rw[List.mem_singleton.1 hy];exact hb
theorem yXv {F:Fls} {t:Tbl} (h:zZz F=(some t,[],false)) {kind:UInt8} {body:List UInt8} (hb:body.length<4294967296) (k:Int) :
  (zZz (zZY F ⟨1,F.2.length,zJa kind body⟩ k)).1=some t∨zZY F ⟨1,F.2.length,zJa kind body⟩ k=(F.1,F.2 ++ zJa kind body):=by
 by_cases h0:k<=0
 ·rw[zV3 _ _ h0,h];exact .inl rfl
 ·have e:zZY F ⟨1,F.2.length,zJa kind body⟩ k=(F.1,F.2 ++ (zJa kind body).take k.toNat):=by
   rw[yXa _ _ (by omega)]
   show F.put 1 (F.2.take (min (F.2.length:Int) F.2.length).toNat ++ _)=_
   rw[Fls.put1,show(min (F.2.length:Int) F.2.length).toNat=F.2.length by omega,List.take_length]
  rw[e]
  by_cases hl:(zJa kind body).length<=k.toNat
  ·rw[List.take_of_length_le hl];exact .inr rfl
  ·left
   have hn:zZL ((zJa kind body).take k.toNat)=none:=yJr hb (List.take_prefix _ _) (by rw[List.length_take];omega)
   show(zWn (zJW F.1) false (F.2 ++ _)).1=_
   rw[zWO (show zWn (zJW F.1) false F.2=_ from h),zKv hn]
theorem yQr{F:Fls}{t:Tbl}{kind:UInt8}{body:List UInt8}:zXR F ⟨1,F.2.length,zJa kind body⟩=(F.1,F.2 ++ zJa kind body):=by
 rw[yQm]
 show F.put 1 (F.2.take (min (F.2.length:Int) F.2.length).toNat ++ _)=_
 rw[Fls.put1,show(min (F.2.length:Int) F.2.length).toNat=F.2.length by omega,List.take_length]
theorem yXC {F:Fls} {t u:Tbl} (h:zZz F=(some t,[],false)) {body:List UInt8} (hb:body.length<4294967296) (hc:zZa t body=some u):zZz (F.1,F.2 ++ zJa 99 body)=(some u,[],false):=by
 show zWn (zJW F.1) false (F.2 ++ zJa 99 body)=_
 rw[zWO (show zWn (zJW F.1) false F.2=_ from h),←List.append_nil (zJa 99 body),yVZ hb]
 have e:zY0 (some t) false 99 body=(some u,false):=by
  unfold zY0
  rw[if_neg (by decide),if_neg (by decide)]
  rw[Option.bind_some,hc]
 rw[e,zKv yQg]
theorem zVB(h:InvW p f d):Inv p f d.commit:=by
 unfold Dat.commit
 split
 ·rename_i hc
  obtain⟨hl,hne⟩:=hc
  have hL:=h.lastL
  have hcl:=zVL (t:=d.σ.last) h.t.ok h.ge
  have hbody:(zQU d.σ.t (zZ1 d.σ)).length<=650000:=hcl
  have hch:zZa d.σ.last (zQU d.σ.t (zZ1 d.σ))=some d.σ.t:=zVt hL.ok h.t.ok (by rw[h.t.page,hL.page]) (by rw[h.t.fields,hL.fields]) h.ge
  have hlast:({ d.σ with done:=d.σ.done ++ [d.σ.t] }:Sto).last=d.σ.t:=by unfold Sto.last;simp
  have ew:zXR d.last d.rec_=(d.last.1,d.last.2 ++ zJa 99 (zQU d.σ.t (zZ1 d.σ))):=yQr (t:=d.σ.t)
  have hfile:=yXC h.file (by omega) hch
  refine⟨⟨h.t,λu hu=>?_,λu hu=>?_,by simp,Nat.le_of_eq (congrArg (λx=>x.recs.length) hlast),λu hu=>?_,h.l8,?_,?_,?_,?_⟩,λ_=>hlast.symm⟩
  ·have hu:u ∈ d.σ.lev:=hu
   rw[hl]at hu;cases hu
  ·rcases List.mem_append.1 hu with hu|hu
   ·exact h.done u hu
   ·rw[List.mem_singleton.1 hu];exact h.t
  ·have hu:d.σ.lev.head?=some u:=hu
   rw[hl]at hu;cases hu
  ·show zXR d.last d.rec_=zXD d.first (d.wr ++ [d.rec_]) (d.wr ++ [d.rec_]).length
   rw[List.length_append,List.length_singleton,zZK,←h.eq]
  ·show zZz (zXR d.last d.rec_)=_
   rw[ew,hfile,hlast]
  ·refine h.hist.new (zZ7 h.ne) (Ne.symm hne) (by rw[←h.eq,ew,hfile]) λk=>?_
   rw[←h.eq]
   rcases yXv h.file (kind:=99) (body:=zQU d.σ.t (zZ1 d.σ)) (by omega) k with h1|h1
   ·exact .inl h1
   ·right
    show(zZz (zZY d.last ⟨1,d.last.2.length,zJa 99 (zQU d.σ.t (zZ1 d.σ))⟩ k)).1=_
    rw[h1,hfile]
  ·intro y hy
   rcases List.mem_append.1 hy with hy|hy
   ·exact h.wb y hy
   ·rw[List.mem_singleton.1 hy]
    refine⟨.inr rfl,by show 0<=(d.last.2.length:Int);omega,?_⟩
    show(zJa 99 (zQU d.σ.t (zZ1 d.σ))).length<=_
    rw[zJ4];omega
 ·rename_i hc
  exact⟨h,λhl=>Classical.byContradiction λhne=>hc ⟨hl,hne⟩⟩
theorem yWg {t:Tbl} {F:Fls} (hv:zQh t=0) (h:zZz F=(some t,[],false)):Inv t.page t.fields (Dat.new t F) where
 t:=⟨hv,rfl,rfl⟩
 lev:=λu hu=>absurd hu List.not_mem_nil
 done:=λu hu=>by rw[List.mem_singleton.1 hu];exact⟨hv,rfl,rfl⟩
 ne:=by simp[Dat.new,Sto.new]
 ge:=Nat.le_refl _
 h0:=λu hu=>by cases hu
 l8:=Nat.zero_le _
 eq:=rfl
 file:=h
 hist:=yZc.start (by show(zZz F).1=_;rw[h])
 wb:=λx hx=>absurd hx List.not_mem_nil
 at0:=λ_=>rfl
theorem yYc{t:Tbl}(hv:zQh t=0):zZz (zQz t,[])=(some t,[],false):=by
 show zWn (zJW (zQz t)) false []=_
 rw[zKv yQg,zW1 hv]
theorem yQK(h:Inv p f d):Inv p f d.begin:=by
 by_cases h8:8<=d.σ.lev.length
 ·have:d.begin=d:=by unfold Dat.begin Dat.to zJI;rw[if_pos h8]
  rw[this];exact h
 ·have e:d.begin={ d with σ:={ d.σ with lev:=d.σ.lev ++ [d.σ.t] } }:=by unfold Dat.begin Dat.to zJI;rw[if_neg h8]
  rw[e]
  refine⟨⟨h.t,λu hu=>?_,h.done,h.ne,h.ge,λu hu=>?_,?_,h.eq,h.file,h.hist,h.wb⟩,λhl=>?_⟩
  ·rcases List.mem_append.1 hu with hu|hu
   ·exact h.lev u hu
   ·rw[List.mem_singleton.1 hu];exact⟨h.t,h.ge⟩
  ·have hu:(d.σ.lev ++ [d.σ.t]).head?=some u:=hu
   cases hl:d.σ.lev with
   | nil=>rw[hl]at hu;cases hu;exact h.at0 hl
   | cons a l=>rw[hl]at hu;cases hu;exact h.h0 u (by rw[hl];rfl)
  ·show(d.σ.lev ++ [d.σ.t]).length<=8
   rw[List.length_append,List.length_singleton];omega
  ·have hl:d.σ.lev ++ [d.σ.t]=[]:=hl
   simp at hl
theorem zKn{α:Type}{l:List α}{u:α}(h:l.dropLast.head?=some u):l.head?=some u:=by
 cases l with
 | nil=>cases h
 | cons a l=>cases l with
  | nil=>cases h
  | cons b l=>exact h
theorem zYc(h:Inv p f d):InvW p f (d.to { d.σ with lev:=d.σ.lev.dropLast }):=
 ⟨h.t,λu hu=>h.lev u (List.dropLast_subset _ hu),h.done,h.ne,h.ge,λu hu=>h.h0 u (zKn hu),Nat.le_trans (show d.σ.lev.dropLast.length<=d.σ.lev.length from Nat.le_trans (Nat.le_of_eq List.length_dropLast) (Nat.sub_le _ _)) h.l8,h.eq,h.file,h.hist,h.wb⟩
theorem xJi(h:Inv p f d):Inv p f d.end_:=by
 unfold Dat.end_
 split
 ·exact h
 ·exact zVB (zYc h)
theorem yVY(h:Inv p f d):Inv p f d.back:=by
 by_cases hl:d.σ.lev=[]
 ·have:d.back=d:=by unfold Dat.back Dat.to yQO;rw[if_pos hl]
  rw[this];exact h
 ·obtain⟨u,hu⟩:∃u,d.σ.lev.getLast?=some u:=⟨_,List.getLast?_eq_some_getLast hl⟩
  have e:d.back={ d with σ:={ d.σ with t:=u,lev:=d.σ.lev.dropLast } }:=by unfold Dat.back Dat.to yQO;rw[if_neg hl,hu];rfl
  have hm:=h.lev u (List.mem_of_getLast? hu)
  have hs:({ d.σ with t:=u,lev:=d.σ.lev.dropLast }:Sto).last=d.σ.last:=zWY h.ne rfl
  have hlw:=zYc h
  have hs':({ d.σ with lev:=d.σ.lev.dropLast }:Sto).last=d.σ.last:=zWY h.ne rfl
  rw[e]
  refine⟨⟨hm.1,λx hx=>?_,h.done,h.ne,Nat.le_trans (Nat.le_of_eq (congrArg (λx=>x.recs.length) hs)) hm.2,λx hx=>?_,hlw.l8,h.eq,?_,h.hist,h.wb⟩,λhd=>?_⟩
  ·rw[hs];exact h.lev x (List.dropLast_subset _ hx)
  ·rw[hs];exact h.h0 x (zKn hx)
  ·show zZz d.last=_;rw[hs];exact h.file
  ·rw[hs]
   have hd:d.σ.lev.dropLast=[]:=hd
   refine h.h0 u ?_
   cases hq:d.σ.lev with
   | nil=>exact absurd hq hl
   | cons a l=>cases l with
    | nil=>rw[hq]at hu;exact hu
    | cons b l=>rw[hq]at hd;simp at hd
theorem yQ6(h:Inv p f d){l:List Rec}(hn:l.length<=300)(hge:d.σ.t.recs.length<=l.length)(hr:∀r ∈ l,zQA f p r=0):InvW p f (d.to { d.σ with t:={ d.σ.t with recs:=l } }):=by
 have hR:=zX3.of h.t.ok
 have hs:({ d.σ with t:={ d.σ.t with recs:=l } }:Sto).last=d.σ.last:=zWY h.ne rfl
 refine⟨⟨?_,h.t.page,h.t.fields⟩,λu hu=>?_,h.done,h.ne,?_,λu hu=>?_,h.l8,h.eq,?_,h.hist,h.wb⟩
 ·exact zWE hR.page hR.vf hn λr hr'=>by
   show zQA d.σ.t.fields d.σ.t.page r=0
   rw[h.t.fields,h.t.page];exact hr r hr'
 ·show _/\(Sto.last { d.σ with t:={ d.σ.t with recs:=l } }).recs.length<=_
  rw[hs];exact h.lev u hu
 ·show(Sto.last { d.σ with t:={ d.σ.t with recs:=l } }).recs.length<=_
  rw[hs];exact Nat.le_trans h.ge hge
 ·show u=Sto.last { d.σ with t:={ d.σ.t with recs:=l } }
  rw[hs];exact h.h0 u hu
 ·show zZz d.last=_;rw[show(d.to { d.σ with t:={ d.σ.t with recs:=l } }).σ.last=d.σ.last from hs];exact h.file
theorem yY5(h:Inv p f d){l:List Rec}(hn:l.length<=300)(hge:d.σ.t.recs.length<=l.length)(hr:∀r ∈ l,zQA f p r=0):Inv p f (d.recs l):=zVB (yQ6 h hn hge hr)
theorem InvW.recR(h:InvW p f d):∀r ∈ d.σ.t.recs,zQA f p r=0:=λr hr=>by
 have:=(zX3.of h.t.ok).recs r hr
 rw[h.t.fields,h.t.page]at this;exact this
theorem zVK{α:Type}{g:α->α}{x:α}:∀{l:List α} {i:Nat},x ∈ l.modify i g->x ∈ l∨∃y,l[i]?=some y/\x=g y:=λ{l i} h=>by
 obtain⟨j,hj⟩:=List.getElem?_of_mem h
 rw[List.getElem?_modify]at hj
 by_cases e:i=j
 ·subst e
  simp only[if_pos]at hj
  cases hl:l[i]? with
  | none=>rw[hl]at hj;cases hj
  | some y=>rw[hl]at hj;right;exact⟨y,rfl,by simpa using hj.symm⟩
 ·simp only[if_neg e]at hj
  left
  have hj:l[j]?=some x:=by simpa using hj
  exact List.mem_of_getElem? hj
end Go.Proofs.YtaeecpjhfmcliaaGreatDoor
/- The log: values that are set, and a clean log, keep a store right; how large its files are. In plain words. No condition but those stated. -/
namespace Go.Proofs.YtaeecpjhfmcliaaGreatDoor
open Go.Sh Go.RowKit Tryz
theorem zJi{l:List Fld}{p:Int}{r:Rec}(h:zQA l p r=0):r.v.length=l.length:=(zWW h).1
theorem zK7{l:List Fld}{p:Int}{r:Rec}:zQA l p r=0 ↔ r.v.length=l.length/\∀(i:Nat) (f:Fld) (v:Val),l[i]?=some f->r.v[i]?=some v->zXi f p v=true:=by
 constructor
 ·intro h
  refine⟨zJi h,λi f v hf hv=>?_⟩
  unfold zQA at h
  rw[if_neg (by simp[zJi h])]at h
  split at h
  ·next ha=>
   have:=List.all_eq_true.1 ha (f,v) (List.mem_of_getElem? (i:=i) (by rw[List.getElem?_zip_eq_some];exact⟨hf,hv⟩))
   exact this
  ·cases h
 ·rintro⟨h1,h2⟩
  unfold zQA
  rw[if_neg (by simp[h1]),if_pos]
  refine List.all_eq_true.2 λx hx=>?_
  obtain⟨i,hi⟩:=List.getElem?_of_mem hx
  obtain⟨a,b⟩:=List.getElem?_zip_eq_some.1 hi
  exact h2 i x.1 x.2 a b
theorem yZB {f:Fld} {p:Int} {v:Val} (h:(zJC f p v).2=0):zXi f p (zJC f p v).1=true:=by
 cases hB:zQo f && zQY p
 ·rw[zKD hB]at h;simp at h
 by_cases hv:zXk v ≠ 0
 ·rw[zWh hB hv]at h;exact absurd h hv
 have hv:zXk v=0:=by simpa using hv
 rw[zKb hB hv]at h ⊢
 have hfB:zQo f=true:=by simp at hB;exact hB.1
 by_cases hk:v.kind=0
 ·unfold zZk at h ⊢
  rw[if_pos hk]at h ⊢
  by_cases hn:f.null=true
  ·rw[if_pos hn]
   unfold zXi
   rw[if_neg (by simp[hv]),if_pos hk];exact hn
  ·rw[if_neg hn]at h;simp at h
 by_cases aI:v.kind ≠ (zZh f).kind
 ·unfold zZk at h;rw[if_neg hk,if_pos aI]at h;simp at h
 by_cases h4:f.kind=4
 ·obtain⟨wl,wh⟩:=zYv hfB h4
  have e1:zZk f p v=if zZ0 (zZ4 (v.s.data.toList.take f.width.toNat)) p then(⟨4,0,bs (zZ4 (v.s.data.toList.take f.width.toNat))⟩,0)else(noV,10):=by
   unfold zZk;rw[if_neg hk,if_neg aI,if_pos h4]
  cases ht:zZ0 (zZ4 (v.s.data.toList.take f.width.toNat)) p
  ·rw[e1,ht]at h;simp at h
  rw[e1,ht,if_pos rfl]
  have hbl:=yXT (v.s.data.toList.take f.width.toNat)
  have htl:=List.length_take_le f.width.toNat v.s.data.toList
  have aL:=yVh (v.s.data.toList.take f.width.toNat)
  generalize zZ4 (v.s.data.toList.take f.width.toNat)=B at *
  have hvB:zXk ⟨4,0,bs B⟩=0:=by
   rw[zJr,if_neg (by dsimp only;rw[zQ2];omega)];rfl
  unfold zXi
  rw[if_neg (by simp[hvB]),if_neg (show ¬(4:Int)=0 by decide),if_neg (by omega),if_neg (by simp[h4]),if_neg (by omega),if_pos h4]
  rw[zQF,aL,ht,zQ2,decide_eq_true rfl,decide_eq_true (show((B.length:Nat):Int)<=f.width by omega)];rfl
 ·unfold zZk at h ⊢
  rw[if_neg hk,if_neg aI,if_neg h4]at h ⊢
  cases hf:zXi f p v
  ·rw[hf]at h;simp at h
  ·simp[hf]
variable {p : Int} {f : List Fld} {d : Dat}
theorem yQk {l:List Fld} {p:Int} {r:Rec} (h:zQA l p r=0) {i:Nat} {v:Val} (hv:∀g,l[i]?=some g->zXi g p v=true):zQA l p { r with v:=r.v.set i v }=0:=by
 obtain⟨h1,h2⟩:=zK7.1 h
 refine zK7.2 ⟨by rw[List.length_set];exact h1,λj g x hg hx=>?_⟩
 rw[List.getElem?_set]at hx
 split at hx
 ·rename_i e
  subst e
  split at hx
  ·cases hx;exact hv g hg
  ·cases hx
 ·exact h2 j g x hg hx
theorem xZq{l:List Fld}{s:ByteArray}{i:Nat}(h:yK7 l s=some i):i<l.length:=by
 unfold yK7 at h
 obtain⟨h1,_⟩:=List.findIdx?_eq_some_iff_getElem.1 h
 exact h1
theorem yKQ(h:Inv p f d)(k:Int)(nm:ByteArray)(v:Val):Inv p f (d.set k nm v):=by
 have hn:=(zX3.of h.t.ok).n300
 unfold Dat.set
 split
 ·exact h
 ·rename_i i hi
  split
  ·rename_i hc
   have hil:=xZq hi
   refine yY5 h (by rw[List.length_modify];exact hn) (by rw[List.length_modify];exact Nat.le_refl _) λx hx=>?_
   rcases zVK hx with hx|⟨y,hy,rfl⟩
   ·exact h.recR x hx
   ·refine yQk (h.recR y (List.mem_of_getElem? hy)) λg hg=>?_
    have e:d.σ.t.fields.getD i default=g:=by rw[List.getD_eq_getElem?_getD,h.t.fields,hg];rfl
    rw[e,h.t.page]at hc ⊢
    exact yZB hc.2
  ·exact h
theorem yKZ{F:Fls}{W:List Wr}{c:Nat}(hF:F.1.length<=c/\F.2.length<=c)(hW:∀x ∈ W,x.b.length<=700000):(W.foldl zXR F).1.length<=c+700000 * W.length/\(W.foldl zXR F).2.length<=c+700000 * W.length:=by
 induction W generalizing F c with
 | nil=>simpa using hF
 | cons x W ih=>
  have hx:=hW x List.mem_cons_self
  have h1:(zXR F x).1.length<=c+700000/\(zXR F x).2.length<=c+700000:=by
   rw[yQm]
   unfold Fls.put Fls.get
   have l1:=List.length_take_le (min x.at_ F.1.length).toNat F.1
   have l2:=List.length_take_le (min x.at_ F.2.length).toNat F.2
   have m1:(F.1.take (min x.at_ F.1.length).toNat).length<=F.1.length:=by rw[List.length_take];exact Nat.min_le_right _ _
   have m2:(F.2.take (min x.at_ F.2.length).toNat).length<=F.2.length:=by rw[List.length_take];exact Nat.min_le_right _ _
   split <;> simp only[List.length_append] <;> omega
  have:=ih h1 λy hy=>hW y (List.mem_cons_of_mem _ hy)
  rw[List.foldl_cons,List.length_cons]
  omega
end Go.Proofs.YtaeecpjhfmcliaaGreatDoor
/- Table: the laws on the reading of bytes. No condition. -/
set_option maxHeartbeats 1000000
namespace Go.Proofs.YtaeecpjhfmcliaaGreatDoor
open Go.Sh Go.RowKit Tryz
theorem tbl_eq{a b:Tbl}:(a=b) ↔ (a.page=b.page/\a.fields=b.fields/\a.recs=b.recs):=by
 obtain⟨a1,a2,a3⟩:=a;obtain⟨b1,b2,b3⟩:=b;simp
theorem yWC{w:World}{a b:Tbl}{fa ra fb rb:SV}(ha:zXB w a fa ra)(hb:zXB w b fb rb):Calls prog 18 #[zYq a fa ra,zYq b fb rb] w λe w'=>e=.returned (.bool (decide (a=b)))/\Pu w w':=by
 refine yW6 _ _ _ _ _ _ w _ (alB λw1 aA aD=>alB λw2 ay aL=>?_)
 have aJ:=aA.trans ay
 have b1:∀{wz},Pu w2 wz->_:=λ{wz} (h:Pu w2 wz)=>zYG (t:=a) (f:=fa) (q:=ra) (h.blk (ay.blk aD))
 have b2:∀{wz},Pu w2 wz->_:=λ{wz} (h:Pu w2 wz)=>zYG (t:=b) (f:=fb) (q:=rb) (h.blk aL)
 have c1:=(b1 (Pu.refl _)).1
 have c2:=(b2 (Pu.refl _)).1
 rw[xX5]at c1 c2
 have no:∀{w':World},Pu w2 w'->a ≠ b->(Ending.returned (.bool false)=.returned (.bool (decide (a=b)))/\Pu w w'):=λh hne=>⟨by rw[decide_eq_false hne],aJ.trans h⟩
 refine⟨_,c1,_,c2,Br.of (λd=>no (Pu.refl _) λe=>zQG d (by rw[e])) (λd=>⟨_,(b1 (Pu.refl _)).2.1,_,(b2 (Pu.refl _)).2.1,(yQp (RdF.of (ha.fields.pu aJ)) (RdF.of (hb.fields.pu aJ))).mono ?_⟩)⟩
 have hpg:=zQ4 d
 rintro e w3 ⟨rfl,aC⟩
 refine⟨_,rfl,Br.of (λd1=>no aC λe=>by rw[e]at d1;simp at d1) (λd1=>⟨_,(b1 aC).2.2,_,(b2 aC).2.2,?_⟩)⟩
 have hfl:a.fields=b.fields:=by simpa using d1
 have hla:=ha.recs.len
 have hlb:=hb.recs.len
 have hlm:=ha.recs.lim
 refine Br.of (λd2=>no aC λe=>zQG d2 (by rw[hla,hlb,e])) (λd2=>?_)
 have hlen:a.recs.length=b.recs.length:=by have:=zQ4 d2;omega
 refine zQD a.recs.length (λk t w'=>t=(k:Int)/\a.recs.take k=b.recs.take k/\Pu w2 w') ⟨rfl,by simp,aC⟩ ?_
 rintro k J t w4 hk ⟨ht,he,hp⟩ hJ
 obtain rfl:t=(k:Int):=ht
 refine⟨_,(b1 hp).2.2,Br.of (λd3=>zQe λw5 ba _=>?_) (λd3=>?_)⟩
 ·have aI:k<a.recs.length:=by have:=zQs d3;omega
  have p5:=hp.trans ba
  obtain⟨x,hx⟩:=zXf aI
  obtain⟨y,hy⟩:=zXf (show k<b.recs.length by omega)
  obtain⟨p,sx,hpa,_,vx,x0,x1⟩:=yQB (ha.recs.pu (aJ.trans p5)) hx
  obtain⟨q,sy,hqa,_,vy,y0,y1⟩:=yQB (hb.recs.pu (aJ.trans p5)) hy
  refine⟨_,(b1 p5).2.2,p,hpa,by omega,by omega,_,x0,_,x1,_,(b2 p5).2.2,q,hqa,by omega,by omega,_,y0,_,y1,(yQF (RdV.of vx) (RdV.of vy)).mono ?_⟩
  rintro e w6 ⟨rfl,cW⟩
  refine⟨_,rfl,Br.of (λd4=>no (p5.trans cW) λe=>?_) (λd4=>?_)⟩
  ·have:x=y:=by rw[e]at hx;rw[hx]at hy;exact Option.some.inj hy
   subst this
   simp at d4
  ·rw[zQa (by omega) (by omega)]
   have hxy:x=y:=by
    rw[xQK]
    simpa using d4
   exact hJ _ _ aI ⟨by omega,zZ5 he hx hy hxy,p5.trans cW⟩
 ·have aI:k=a.recs.length:=by have:=zQj d3;omega
  subst aI
  rw[List.take_length,hlen,List.take_length]at he
  exact⟨by rw[decide_eq_true (tbl_eq.2 ⟨hpg,hfl,he⟩)],aJ.trans hp⟩
theorem zQc.set{w1 w:World}{s:SV}{l:List UInt8}(h:zQc w1 w s l)(hp:Pu w1 w){i:Nat}(hi:i<l.length)(b:UInt8):∃a,s.a=some a/\∀K:World->Prop,(∀w',zQc w1 w' s (l.set i b)->Pu w1 w'->K w')->st1 (a.add i) (u8V b) w K:=by
 obtain⟨a,ha,_⟩:=h.1.st1 (j:=i) (by simpa using hi) (u8V b) (K:=λ_=>True) λ_ _ _ _=>trivial
 refine⟨a,ha,λK hK=>?_⟩
 obtain⟨a',ha',hst⟩:=h.1.st1 (j:=i) (by simpa using hi) (u8V b) (K:=K) λw' h1 h2 _=>hK w' ⟨by rw[List.map_set];exact h1,h.2⟩ (hp.andNew h2 λi hi=>h.2 i hi)
 rw[ha]at ha';cases ha'
 exact hst
end Go.Proofs.YtaeecpjhfmcliaaGreatDoor
/- The log: how tables, files and a store lie in memory. No condition but those stated. -/
namespace Go.Proofs.YtaeecpjhfmcliaaGreatDoor
open Go.Sh Go.RowKit Tryz
variable {w w' : World}
theorem zVm:zXn prog 35=3:=by kernel_rfl
theorem vk67:zXn prog 67=2:=by kernel_rfl
theorem vk73:zXn prog 73=3:=by kernel_rfl
theorem vu22:prog.underlying 22=some (.slice 5):=by kernel_rfl
theorem vu24:prog.underlying 24=some (.pointer 108):=by kernel_rfl
theorem vu33:prog.underlying 33=some (.slice 67):=by kernel_rfl
theorem vu38:prog.underlying 38=some (.slice 73):=by kernel_rfl
theorem vu32:prog.underlying 32=some (.slice 129):=by kernel_rfl
theorem vu52:prog.underlying 52=some (.slice 3):=by kernel_rfl
theorem vu82:prog.underlying 82=some (.slice 22):=by kernel_rfl
theorem vu87:prog.underlying 87=some (.slice 90):=by kernel_rfl
theorem vu106:prog.underlying 106=some (.slice 35):=by kernel_rfl
theorem vi5:(prog.info? 5).map (λi=>(i.zero,i.size,i.bytes))=some (some (.int .u8 0),1,1):=by kernel_rfl
theorem vi22:(prog.info? 22).map (λi=>(i.zero,i.size,i.bytes))=some (some (.slice none 0 0),1,24):=by kernel_rfl
theorem vi3:(prog.info? 3).map (λi=>(i.zero,i.size,i.bytes))=some (some (.int .i64 0),1,8):=by kernel_rfl
theorem vi35:(prog.info? 35).map (λi=>(i.zero,i.size,i.bytes))=some (some (.agg #[.int .i64 0,.slice none 0 0,.slice none 0 0]),3,56):=by kernel_rfl
theorem vi67:(prog.info? 67).map (λi=>(i.zero,i.size,i.bytes))=some (some (.agg #[.bool false,.slice none 0 0]),2,32):=by kernel_rfl
theorem vi73:(prog.info? 73).map (λi=>(i.zero,i.size,i.bytes))=some (some (.agg #[.int .i64 0,.int .i64 0,.string ⟨#[]⟩]),3,32):=by kernel_rfl
theorem vi90:(prog.info? 90).map (λi=>(i.zero,i.size,i.bytes))=some (some (.agg #[.int .i64 0,.int .i64 0,.slice none 0 0]),3,40):=by kernel_rfl
theorem vi129:(prog.info? 129).map (λi=>(i.zero,i.size,i.bytes))=some (some (.agg #[.string ⟨#[]⟩,.int .i64 0,.int .i64 0,.bool false]),4,40):=by kernel_rfl
abbrev slV(s:SV):Value:=.slice s.a s.len s.cap
structure HT where
 page:Int
 f:SV
 r:SV
 hs:List (Bool × SV)
abbrev yZm(h:HT):List Value:=[.int .i64 h.page,slV h.f,slV h.r]
theorem zQL(h:HT):(yZm h).length=3:=rfl
def vBl (hs:List (Bool × SV)):List Nat:=hs.flatMap λx=>zQb x.2
theorem yZy (x:Bool × SV) (hs:List (Bool × SV)):vBl (x :: hs)=zQb x.2 ++ vBl hs:=rfl
theorem zY1 {hs:List (Bool × SV)} {x:Bool × SV} {b:Nat} (hx:x ∈ hs) (hb:b ∈ zQb x.2):b ∈ vBl hs:=List.mem_flatMap.2 ⟨x,hx,hb⟩
def HT.own(h:HT)(b:Nat):Prop:=b ∈ zQb h.r∨b ∈ vBl h.hs
structure zZX(w:World)(t:Tbl)(h:HT):Prop where
 page:h.page=t.page
 rw_:zQi w 67 2 h.r (h.hs.flatMap yZt)
 len:h.hs.length=t.recs.length
 rec_:∀(i:Nat) (x:Bool × SV) (r:Rec),h.hs[i]?=some x->t.recs[i]?=some r->x.1=r.gone/\zQi w 73 3 x.2 (r.v.flatMap zWQ)
 nd:(vBl h.hs).Nodup
variable {t : Tbl} {h : HT}
theorem zZX.fr{B:Nat->Prop}(ht:zZX w t h)(hf:Fr B w w')(hn:∀b,h.own b->¬B b):zZX w' t h where
 page:=ht.page
 rw_:=ht.rw_.fr hf λb hb=>hn b (.inl hb)
 len:=ht.len
 rec_:=λi x r hx hr=>⟨(ht.rec_ i x r hx hr).1,(ht.rec_ i x r hx hr).2.fr hf λb hb=>hn b (.inr (zY1 (List.mem_of_getElem? hx) hb))⟩
 nd:=ht.nd
theorem zZX.pu(ht:zZX w t h)(hp:Pu w w'):zZX w' t h:=ht.fr (Fr.pu hp:Fr (λ_=>False) w w') λ_ _ h=>h
theorem zZX.lt(ht:zZX w t h):∀b,h.own b->b<w.heap.size:=λb hb=>by
 rcases hb with hb|hb
 ·exact ht.rw_.lt b hb
 ·obtain⟨x,hx,hb⟩:=List.mem_flatMap.1 hb
  obtain⟨i,hi⟩:=List.getElem?_of_mem hx
  obtain⟨r,hr⟩:=zXf (l:=t.recs) (k:=i) (by rw[←ht.len];exact(List.getElem?_eq_some_iff.1 hi).1)
  exact(ht.rec_ i x r hi hr).2.lt b hb
theorem zZX.other (ht:zZX w t h) {b:Nat} {c:Array Value} {e:TypeId} {f:Nat × Nat} (hb:w.heap[b]?=some (.cells c e f)) (h1:e ≠ 67) (h2:e ≠ 73):¬h.own b:=λho=>by
 rcases ho with ho|ho
 ·exact ht.rw_.other hb (Ne.symm h1) ho
 ·obtain⟨x,hx,ho⟩:=List.mem_flatMap.1 ho
  obtain⟨i,hi⟩:=List.getElem?_of_mem hx
  obtain⟨r,hr⟩:=zXf (l:=t.recs) (k:=i) (by rw[←ht.len];exact(List.getElem?_eq_some_iff.1 hi).1)
  exact(ht.rec_ i x r hi hr).2.other hb (Ne.symm h2) ho
theorem yJ6{f:Fld}{p:Int}{v:Val}(h:zXi f p v=true):zZ2 v.kind/\zZ2 v.n/\v.s.size<=2048:=by
 have hv:zXk v=0:=by
  unfold zXi at h
  split at h
  ·cases h
  ·rename_i hx;simpa using hx
 unfold zXk at hv
 split at hv
 ·cases hv
 rename_i hs
 split at hv
 ·rename_i hk
  simp only[Bool.and_eq_true]at hk
  have h1:=hk.1
  unfold okN at h1
  unfold zZ2
  split at h1
  ·have:=of_decide_eq_true h1;omega
  split at h1
  ·simp at h1;omega
  split at h1
  ·simp at h1;omega
  split at h1
  ·simp at h1;omega
  split at h1
  ·have:=of_decide_eq_true h1;omega
  ·cases h1
 ·cases hv
theorem zVh{t:Tbl}(hv:zQh t=0):R64 t.recs:=λr hr=>by
 have hR:=zX3.of hv
 obtain⟨h1,h2⟩:=zK7.1 (hR.recs r hr)
 have fv:=(zXt hR.vf).2.2.2.1
 refine⟨λv hv=>?_,by omega⟩
 obtain⟨i,hi⟩:=List.getElem?_of_mem hv
 obtain⟨f,hf⟩:=zXf (l:=t.fields) (k:=i) (by have:=(List.getElem?_eq_some_iff.1 hi).1;omega)
 have:=yJ6 (h2 i f v hf hi)
 exact⟨this.1,this.2.1⟩
theorem xJe {s:SV} {l:List Val} (h:zQi w 73 3 s (l.flatMap zWQ)) (hb:l.length<=1000000) (ls:V64 l):zXV w s l:=zJO.rdS (w0:={ w with heap:=#[] }) ⟨h,λ_ _=>Nat.zero_le _⟩ hb ls
theorem zZX.rd(ht:zZX w t h)(hf:zXV w h.f t.fields)(hv:zQh t=0):zXB w t h.f h.r:=by
 have hR:=zX3.of hv
 have ls:=zVh hv
 have hl:=ht.rw_.len zQR (by decide)
 have tx:=ht.len
 have hn:=hR.n300
 have hp:=hR.page
 unfold zQY at hp
 simp only[Bool.and_eq_true,decide_eq_true_eq]at hp
 refine⟨⟨by omega,by omega⟩,hf,by omega,ht.rw_.le_cap.1,by omega,λi r hr=>?_⟩
 obtain⟨x,hx⟩:=zXf (l:=h.hs) (k:=i) (by have:=(List.getElem?_eq_some_iff.1 hr).1;omega)
 obtain⟨e1,e2⟩:=ht.rec_ i x r hx hr
 obtain⟨a,h1,_,c0⟩:=ht.rw_.elem zQR hx (o:=0) rfl
 obtain⟨a1,ke,_,c1⟩:=ht.rw_.elem zQR hx (o:=1) rfl
 rw[h1]at ke;cases ke
 obtain⟨q1,q2⟩:=ls r (List.mem_of_getElem? hr)
 refine⟨a,h1,_,⟨x.2,rfl,xJe e2 q2 q1⟩,λj v hv=>?_⟩
 rcases j with _|_|j <;> simp at hv
 ·subst hv;rw[←e1];exact c0
 ·subst hv;exact c1
theorem zKs{t:Tbl}(hv:zQh t=0):Lim.ok t.fields:=λf hf=>by
 have:=(zQT (List.all_eq_true.1 (zJE.of hv).all f hf)).2.1
 show f.name.size<=140737488355328
 omega
structure zXK(w:World)(s q0 q1:SV)(F:Fls):Prop where
 len:s.len=2
 cap:2<=s.cap
 ex:∃a,s.a=some a/\w.cell? (a.add 0)=some (slV q0)/\w.cell? (a.add 1)=some (slV q1)
 b0:ByV w q0 F.1
 b1:ByV w q1 F.2
theorem zXK.pu{s q0 q1:SV}{F:Fls}(h:zXK w s q0 q1 F)(hp:Pu w w'):zXK w' s q0 q1 F:=by
 obtain⟨a,h1,h2,h3⟩:=h.ex
 exact⟨h.len,h.cap,⟨a,h1,hp.cell h2,hp.cell h3⟩,h.b0.pu hp,h.b1.pu hp⟩
structure SL where
 S:Nat
 now:HT
 lv:SV
 lh:List HT
 dn:SV
 dh:List HT
 first:SV
 f0:SV
 f1:SV
 last:SV
 l0:SV
 l1:SV
 wr:SV
 wh:List (Int × Int × SV)
 pt:SV
abbrev wrC(x:Int × Int × SV):List Value:=[.int .i64 x.1,.int .i64 x.2.1,slV x.2.2]
theorem zJZ(x:Int × Int × SV):(wrC x).length=3:=rfl
def zZR(mu:Int)(L:SL):Array Value:=#[.int .i32 mu,.int .u32 0,.int .i64 L.now.page,slV L.now.f,slV L.now.r,slV L.lv,slV L.dn,slV L.first,slV L.last,slV L.wr,slV L.pt]
def SL.own(L:SL)(b:Nat):Prop:=b=L.S∨b ∈ zQb L.lv∨b ∈ zQb L.dn∨b ∈ zQb L.wr∨b ∈ zQb L.pt∨∃h ∈ L.now :: L.lh,h.own b
abbrev SL.ptr(L:SL):Value:=.pointer (some ⟨L.S,0,none⟩)
structure KpAt(w:World)(L:SL)(d:Dat):Prop where
 nf:zXV w L.now.f d.σ.t.fields
 lf:∀(i:Nat) h t,L.lh[i]?=some h->d.σ.lev[i]?=some t->zXV w h.f t.fields
 dt:∀(i:Nat) h t,L.dh[i]?=some h->d.σ.done[i]?=some t->h.page=t.page/\zXB w t h.f h.r
 fi:zXK w L.first L.f0 L.f1 d.first
 la:zXK w L.last L.l0 L.l1 d.last
 wb:∀(i:Nat) x y,L.wh[i]?=some x->d.wr[i]?=some y->x.1=y.file/\x.2.1=y.at_/\ByV w x.2.2 y.b
theorem KpAt.pu{L:SL}{d:Dat}(h:KpAt w L d)(hp:Pu w w'):KpAt w' L d:=
 ⟨h.nf.pu hp,λi x t hx ht=>(h.lf i x t hx ht).pu hp,λi x t hx ht=>⟨(h.dt i x t hx ht).1,(h.dt i x t hx ht).2.pu hp⟩,h.fi.pu hp,h.la.pu hp,λi x y hx hy=>⟨(h.wb i x y hx hy).1,(h.wb i x y hx hy).2.1,(h.wb i x y hx hy).2.2.pu hp⟩⟩
structure zQH(X:Nat->Prop)(w:World)(L:SL)(d:Dat)(mu:Int):Prop where
 st:w.heap[L.S]?=some (.cells (zZR mu L) 108)
 lv:zQi w 35 3 L.lv (L.lh.flatMap yZm)
 dn:zQi w 35 3 L.dn (L.dh.flatMap yZm)
 wr:zQi w 90 3 L.wr (L.wh.flatMap wrC)
 pt:zQi w 3 1 L.pt (d.pts.map (Value.int .i64))
 now:zZX w d.σ.t L.now
 ll:L.lh.length=d.σ.lev.length
 dl:L.dh.length=d.σ.done.length
 wl:L.wh.length=d.wr.length
 lvs:∀(i:Nat) h t,L.lh[i]?=some h->d.σ.lev[i]?=some t->zZX w t h
 ld:∀b ∈ zQb L.lv,b ∉ zQb L.dn
 dj:∀x ∈ L.lh,∀b,L.now.own b->¬x.own b
 djl:∀(i j:Nat) x y,i ≠ j->L.lh[i]?=some x->L.lh[j]?=some y->∀b,x.own b->¬y.own b
 xl:∀b,X b->b<w.heap.size
 kp:∀w',Fr (λb=>L.own b∨X b) w w'->KpAt w' L d
variable {X : Nat -> Prop} {L L' : SL} {d d' : Dat} {mu : Int}
theorem zQH.kp0(h:zQH X w L d mu):KpAt w L d:=h.kp w (Fr.refl _ _)
theorem zQH.lev_tab(h:zQH X w L d mu){x:HT}(hx:x ∈ L.lh):∃t,t ∈ d.σ.lev/\zZX w t x:=by
 obtain⟨i,hi⟩:=List.getElem?_of_mem hx
 obtain⟨t,ht⟩:=zXf (l:=d.σ.lev) (k:=i) (by rw[←h.ll];exact(List.getElem?_eq_some_iff.1 hi).1)
 exact⟨t,List.mem_of_getElem? ht,h.lvs i x t hi ht⟩
theorem zQH.any_tab(h:zQH X w L d mu){x:HT}(hx:x ∈ L.now :: L.lh):∃t,zZX w t x:=by
 rcases List.mem_cons.1 hx with rfl|hx
 ·exact⟨_,h.now⟩
 ·obtain⟨t,_,ht⟩:=h.lev_tab hx;exact⟨t,ht⟩
theorem zQH.own_lt(h:zQH X w L d mu){b:Nat}(hb:L.own b):b<w.heap.size:=by
 rcases hb with rfl|hb|hb|hb|hb|⟨x,hx,hb⟩
 ·exact zQ5 h.st
 ·exact h.lv.lt b hb
 ·exact h.dn.lt b hb
 ·exact h.wr.lt b hb
 ·exact h.pt.lt b hb
 ·obtain⟨t,ht⟩:=h.any_tab hx;exact ht.lt b hb
theorem zQH.fr{B:Nat->Prop}(h:zQH X w L d mu)(hf:Fr B w w')(hn:∀b,L.own b->¬B b)(hx:∀b,B b->b<w.heap.size->X b):zQH X w' L d mu where
 st:=hf.blk h.st (hn _ (.inl rfl))
 lv:=h.lv.fr hf λb hb=>hn b (.inr (.inl hb))
 dn:=h.dn.fr hf λb hb=>hn b (.inr (.inr (.inl hb)))
 wr:=h.wr.fr hf λb hb=>hn b (.inr (.inr (.inr (.inl hb))))
 pt:=h.pt.fr hf λb hb=>hn b (.inr (.inr (.inr (.inr (.inl hb)))))
 now:=h.now.fr hf λb hb=>hn b (.inr (.inr (.inr (.inr (.inr ⟨_,List.mem_cons_self,hb⟩)))))
 ll:=h.ll
 dl:=h.dl
 wl:=h.wl
 lvs:=λi x t h1 h2=>(h.lvs i x t h1 h2).fr hf λb hb=>hn b (.inr (.inr (.inr (.inr (.inr ⟨_,List.mem_cons_of_mem _ (List.mem_of_getElem? h1),hb⟩)))))
 ld:=h.ld
 dj:=h.dj
 djl:=h.djl
 xl:=λb hb=>Nat.lt_of_lt_of_le (h.xl b hb) hf.size
 kp:=λw2 h2=>h.kp w2 ((hf.mono λb hb hlt=>.inr (hx b hb hlt)).trans h2 λb hb _=>hb)
theorem zQH.pu(h:zQH X w L d mu)(hp:Pu w w'):zQH X w' L d mu:=h.fr (Fr.pu hp:Fr (λ_=>False) w w') (λ_ _ h=>h) (λ_ h=>h.elim)
theorem zQH.cell(h:zQH X w L d mu)(o:Nat):w.cell? ⟨L.S,o,none⟩=(zZR mu L)[o]?:=zQ8 h.st o
theorem zQH.cellA(h:zQH X w L d mu)(o:Nat):w.cell? ((⟨L.S,0,none⟩:Addr).add o)=(zZR mu L)[o]?:=by rw[zQn,Nat.zero_add];exact h.cell o
theorem zQH.cellB(h:zQH X w L d mu)(i o:Nat):w.cell? (((⟨L.S,0,none⟩:Addr).add i).add o)=(zZR mu L)[i+o]?:=by rw[zQn,zQn,Nat.zero_add];exact h.cell _
theorem zQH.rdNow(h:zQH X w L d mu)(hv:zQh d.σ.t=0):zXB w d.σ.t L.now.f L.now.r:=h.now.rd h.kp0.nf hv
structure zZe(w w':World)(L L':SL):Prop where
 fr:Fr L.own w w'
 own:∀b,L'.own b->L.own b∨w.heap.size<=b
 ptr:L'.S=L.S
theorem zZe.refl(w:World)(L:SL):zZe w w L L:=⟨Fr.refl _ _,λ_ h=>.inl h,rfl⟩
theorem zZe.pu(hp:Pu w w')(L:SL):zZe w w' L L:=⟨Fr.pu hp,λ_ h=>.inl h,rfl⟩
theorem zZe.trans{w'':World}{L'':SL}(h:zZe w w' L L')(k:zZe w' w'' L' L''):zZe w w'' L L'':=by
 refine⟨h.fr.trans k.fr λb hb hlt=>(h.own b hb).resolve_right (by omega),λb hb=>?_,k.ptr.trans h.ptr⟩
 rcases k.own b hb with h1|h1
 ·exact h.own b h1
 ·exact .inr (Nat.le_trans h.fr.size h1)
theorem zZe.keep {Q:World->Prop} (h:zZe w w' L L') (hq:∀w2,Fr (λb=>L.own b∨X b) w w2->Q w2) (hxl:∀b,X b->b<w.heap.size):∀w2,Fr (λb=>L'.own b∨X b) w' w2->Q w2:=λw2 h2=>
 hq w2 ((h.fr.mono λb hb _=>.inl hb).trans h2 λb hb hlt=>by
  rcases hb with hb|hb
  ·exact .inl ((h.own b hb).resolve_right (by omega))
  ·exact .inr hb)
end Go.Proofs.YtaeecpjhfmcliaaGreatDoor
