import Derived.Test.YtaeecpjhfmcliaaGreatDoorLgOwI
import Derived.Test.YtaeecpjhfmcliaaGreatDoorLgO2
import Derived.Test.YtaeecpjhfmcliaaGreatDoorLgPrC
import Derived.Test.YtaeecpjhfmcliaaGreatDoorLgOwC
import Derived.Test.YtaeecpjhfmcliaaGreatDoorLgOwH
/- The log: the reference puts a record. No condition but those stated. -/
set_option maxRecDepth 100000
set_option linter.unusedVariables false
set_option linter.unusedSimpArgs false
noncomputable section
namespace Go.Proofs.YtaeecpjhfmcliaaGreatDoor
open Go.Sh Go.RowKit Tryz
variable {w0 w w' : World} {X : Nat -> Prop} {R R' : RL} {σ σ' : Sto}
def xYD(R:Rt)(p0:Option Addr)(n1:Int)(r5 r6:Nat)(ds:Ds)(w8:World):Prop:=
 dwE w8 λw9=>
 ∃S1:World->Prop,S1 w9/\
 ∃bX:SV,(∀w',S1 w'->w'.cell? ((⟨r6,0,none⟩:Addr).add 2)=some (.slice bX.a bX.len bX.cap))/\
 ∃gP:Bool,(∀w',S1 w'->w'.cell? ((⟨r5,0,none⟩:Addr).add 0)=some (.bool gP))/\
 ∃cn:SV,(∀w',S1 w'->w'.cell? ((⟨r5,0,none⟩:Addr).add 1)=some (.slice cn.a cn.len cn.cap))/\
 Calls prog 102 #[.agg #[.bool gP,.slice cn.a cn.len cn.cap]] w9 λe aN=>
 ∃dG:Bool,∃aZ:SV,e=.returned (.agg #[.bool dG,.slice aZ.a aZ.len aZ.cap])/\
 S1 aN/\
 ∃dY:Addr,bX.a=some dY/\0<=(IntKind.i64.wrap (n1 - 1))/\(IntKind.i64.wrap (n1 - 1))<((bX.len:Nat):Int)/\
 stA prog 67 (dY.add ((IntKind.i64.wrap (n1 - 1)).toNat * 2)) #[.bool dG,.slice aZ.a aZ.len aZ.cap] aN λaO=>
 ∃bK:Int,aO.cell? ((⟨r6,0,none⟩:Addr).add 0)=some (.int .i64 bK)/\
 ∃aP:SV,aO.cell? ((⟨r6,0,none⟩:Addr).add 1)=some (.slice aP.a aP.len aP.cap)/\
 ∃aQ:SV,aO.cell? ((⟨r6,0,none⟩:Addr).add 2)=some (.slice aQ.a aQ.len aQ.cap)/\
 zQg p0 λlq=>
 stA prog 35 lq #[.int .i64 bK,.slice aP.a aP.len aP.cap,.slice aQ.a aQ.len aQ.cap] aO λbq=>
 Calls prog 99 #[.pointer p0] bq λe bp=>
 e=.returned (.tuple #[])/\
 zQb prog ds bp λbG=>
 R (.returned (.tuple #[])) bG
theorem zJD.behind{v:Value}{wa:World}(hl:zXu w wa R R'){e:Ending}{wb:World}(h:zJD X wa R' v σ' e wb):zJD X w R v σ' e wb:=by
 obtain⟨rfl,R2,h2,qJ⟩:=h
 exact⟨rfl,R2,h2,hl.trans qJ⟩
theorem yZN (h0:zQO X w0 R σ) (hp:Pu w0 w) (hne:σ.done ≠ []) (hn:σ.done.length<=1000000) {l:List Rec} {qf s q:SV} {r5 r6 j:Nat} {x:Rec} (h5:w.heap[r5]?=some (.cells #[.bool x.gone,slV q] 67)) (hr:RdV w q x.v) (hx:x.v.length<=1000000)
  (h6:w.heap[r6]?=some (.cells #[.int .i64 σ.t.page,slV qf,slV s] 35)) (ho:zJd w0 w { σ.t with recs:=l } qf s) (hj:j<l.length) (hl:l.length<=1000000) (hv:zQf { σ.t with recs:=l.set j x }=0) :
  xYD (zJD X w0 R (.tuple #[]) (zXJ σ (l.set j x))) (some ⟨R.S,0,none⟩) ((j:Int)+1) r5 r6 [] w:=by
 refine zQc λw9 cx _=>?_
 have b5:=cx.blk h5
 have b6:=cx.blk h6
 have hsl:=ho.rs.len
 have hsl:s.len=l.length:=hsl
 refine⟨λu=>Pu w9 u,Pu.refl _,s,λu hu=>cl (hu.blk b6) 2,x.gone,λu hu=>cl (hu.blk b5) 0,q,λu hu=>cl (hu.blk b5) 1,(zKR (hr.pu cx) hx).mono ?_⟩
 rintro e aN ⟨q',rfl,hq',dk⟩
 have hp010:=(hp.trans cx).trans dk
 have qH:=(ho.pu cx).pu dk
 have b610:=dk.blk b6
 rw[show(j:Int)+1 - 1=(j:Int)by omega,zQa (by omega) (by omega)]
 obtain⟨a,ha,hst⟩:=(show zKj w0 aN s l from qH.rs).set (k:=j) hj (x:=x) (hq'.low (hp.trans cx).size) (K:=λaO=>
   ∃bK:Int,aO.cell? ((⟨r6,0,none⟩:Addr).add 0)=some (.int .i64 bK)/\
   ∃aP:SV,aO.cell? ((⟨r6,0,none⟩:Addr).add 1)=some (.slice aP.a aP.len aP.cap)/\
   ∃aQ:SV,aO.cell? ((⟨r6,0,none⟩:Addr).add 2)=some (.slice aQ.a aQ.len aQ.cap)/\
   zQg (some ⟨R.S,0,none⟩) λlq=>
   stA prog 35 lq #[.int .i64 bK,.slice aP.a aP.len aP.cap,.slice aQ.a aQ.len aQ.cap] aO λbq=>
   Calls prog 99 #[.pointer (some ⟨R.S,0,none⟩)] bq λe bp=>e=.returned (.tuple #[])/\zQb prog [] bp λbG=>zJD X w0 R (.tuple #[]) (zXJ σ (l.set j x)) (.returned (.tuple #[])) bG) λaO hN12 eJ=>by
  have nk:∀{b:Nat} {c:Array Value},aN.heap[b]?=some (.cells c 35)->¬b ∈ zQe s:=λhb hk=>by obtain⟨qs,k1,_⟩:=qH.rs;exact k1.other hb (by decide) hk
  have cP:=eJ.blk b610 (nk b610)
  have hF12:zKS w0 aO qf σ.t.fields:=(show zKS w0 aN qf σ.t.fields from qH.fs).fr eJ λk hk e=>by obtain⟨qs,k1,_⟩:=qH.rs;exact zQq qH.fs.1 k1 (by decide) k hk e
  have ho12:zJd w0 aO { σ.t with recs:=l.set j x } qf s:=⟨hF12,hN12⟩
  have xf:Pu w0 aO:=hp010.andNew eJ qH.rs.own
  have nD:=h0.pu xf
  refine⟨_,cl cP 0,qf,cl cP 1,s,cl cP 2,?_⟩
  rw[zZi]
  have hk:=ho12.keepR (R:=R) (X:=X) hv (λb hb=>h0.own_lt hb) h0.xl
  refine nD.setT (q:=⟨σ.t.page,qf,s,[]⟩) (t:={ σ.t with recs:=l.set j x }) (λw2 h2=>⟨rfl,hk w2 h2⟩) λbq h14 hl14=>?_
  refine(yXR h14 hv hne hn).mono ?_
  rintro e bp ⟨rfl,R15,sJ,hl15⟩
  exact⟨rfl,rfl,R15,sJ,((zXu.pu xf R).trans hl14).trans hl15⟩
 exact⟨x.gone,q',rfl,dk,a,ha,by omega,by omega,by rw[zXj];exact hst⟩
def yYk(l:List Rec)(j:Nat)(x:Rec):List Rec:=if j<l.length then l.set j x else l ++ [x]
theorem xJv{α:Type}(l:List α)(z x:α):(l ++ [z]).set l.length x=l ++ [x]:=by
 induction l with
 | nil=>rfl
 | cons y l ih=>simp[List.set,ih]
theorem yKn (h:zQO X w R σ) (hv:zQf σ.t=0) (hne:σ.done ≠ []) (hn:σ.done.length<=1000000) {s:SV} {x:Rec} (hr:RdV w s x.v) (hl:x.v.length<=1000000) {j:Nat} (hj:j<=σ.t.recs.length) (hv':zQf { σ.t with recs:=yYk σ.t.recs j x }=0) :
  Calls prog 100 #[R.ptr,.int .i64 ((j:Int)+1),.agg #[.bool x.gone,slV s]] w (zJD X w R (.tuple #[]) (zXJ σ (yYk σ.t.recs j x))):=by
 have cM:=(zQP.of hv).n300
 refine yVi _ _ _ _ w _ (alB λw1 ar aB=>?_)
 have h1:=h.pu ar
 refine⟨R.t.page,h1.cell 0,R.t.f,h1.cell 1,R.t.r,h1.cell 2,?_⟩
 rw[h1.kp0.t.1]
 refine(zVn h1.kp0.t.2 hv).mono ?_
 rintro e w3 ⟨qf,qr,rfl,hO,au⟩
 refine⟨_,qf,qr,rfl,alB λw4 aK dm=>zQi dm zKW.symm rfl rfl λw5 bo cN _=>?_⟩
 have co:Pu w3 w5:=aK.andNew cN λi hi=>by rw[show i=_ from hi];exact Nat.le_refl _
 have fj:=au.trans co
 have cI:=ar.trans fj
 have z1:=ar.size
 have z3:=au.size
 have hO5:zJd w w5 σ.t qf qr:=(((hO.pu aK).other cN dm)).low z1
 have hql:qr.len=σ.t.recs.length:=hO5.rs.len
 have j5:=fj.blk aB
 refine⟨qr,cl bo 2,Br.of (λc=>?_) (λc=>?_)⟩
 ·have c:=zQk c
  have ej:j=σ.t.recs.length:=by omega
  subst ej
  have eP:yYk σ.t.recs σ.t.recs.length x=(σ.t.recs ++ [(⟨false,[]⟩:Rec)]).set σ.t.recs.length x:=by unfold yYk;rw[if_neg (by omega),xJv]
  rw[eP]at hv' ⊢
  refine⟨qr,cl bo 2,alB λw6 bB fU=>?_⟩
  have yJ:=hO5.pu bB
  obtain⟨s',w7,hra,n7,ki⟩:=yJ.rs.push (g:=false) (vs:=[]) (q:=(⟨none,0,0⟩:SV)) (cI.trans bB).size (⟨zQl.nil _ 73 3,by simp[zQe]⟩:zJY w w6 ⟨none,0,0⟩ []) fU rfl (by omega)
  have b56:=bB.blk bo
  have nk:∀{b:Nat} {c:Array Value},w6.heap[b]?=some (.cells c 35)->¬b ∈ zQe qr:=λhb hk=>by obtain⟨qs,k1,_⟩:=yJ.rs;exact k1.other hb (by decide) hk
  have b57:=ki.blk b56 (nk b56)
  refine⟨s',w7,hra,zQt b57 (by show 2<3;omega) λw8 hw8 j9=>?_⟩
  have oR:Fr (·=w3.heap.size) w7 w8:=by rw[hw8];exact Fr.cell w7 _ _ _
  have hF7:zKS w w7 qf σ.t.fields:=yJ.fs.fr ki λk hk e=>by obtain⟨qs,k1,_⟩:=yJ.rs;exact zQq yJ.fs.1 k1 (by decide) k hk e
  have hO8:zJd w w8 { σ.t with recs:=σ.t.recs ++ [(⟨false,[]⟩:Rec)] } qf s':=zJd.other (t:={ σ.t with recs:=σ.t.recs ++ [(⟨false,[]⟩:Rec)] }) ⟨hF7,n7⟩ oR b57
  have dP:Pu w w8:=((cI.trans bB).andNew ki yJ.rs.own).andNew oR λi hi=>by rw[show i=_ from hi];omega
  have lt0:w.heap.size<w1.heap.size:=zQx aB
  have sX:w7.heap[w.heap.size]?=some (.cells #[.bool x.gone,slV s] 67):=ki.blk (bB.blk j5) λhk=>by
   have hown:∀b ∈ zQe qr,w1.heap.size<=b:=hO.rs.own
   have:=hown _ hk;omega
  have pj:=oR.blk sX (show ¬w.heap.size=w3.heap.size by omega)
  exact yZN h dP hne hn pj (hr.pu dP) hl j9 hO8 (by rw[List.length_append,List.length_singleton];omega) (by rw[List.length_append,List.length_singleton];omega) hv'
 ·have c:=zQd c
  have ej:j<σ.t.recs.length:=by omega
  have eP:yYk σ.t.recs j x=σ.t.recs.set j x:=by unfold yYk;rw[if_pos ej]
  rw[eP]at hv' ⊢
  exact yZN h cI hne hn j5 (hr.pu cI) hl bo hO5 ej (by omega) hv'
end Go.Proofs.YtaeecpjhfmcliaaGreatDoor
/- The log: records are replaced and marked; values are set; the log is made clean. No condition but those stated. -/
namespace Go.Proofs.YtaeecpjhfmcliaaGreatDoor
open Go.Sh Go.RowKit Tryz
variable {w0 w w' : World} {X : Nat -> Prop} {L L' : SL} {d d' : Dat} {mu : Int} {p : Int} {f : List Fld}
theorem zJH{σ:Sto}{k:Int}(h:zXf σ k=true)(hn:σ.t.recs.length<=300):∃j:Nat,k=(j:Int)+1/\j<σ.t.recs.length/\(k - 1).toNat=j/\IntKind.i64.wrap (k - 1)=(j:Int):=by
 unfold zXf at h
 simp only[Bool.and_eq_true,decide_eq_true_eq]at h
 refine⟨(k - 1).toNat,by omega,by omega,rfl,?_⟩
 rw[zQa (by omega) (by omega)];omega
theorem modW (hi:Inv p f d) {j:Nat} {g:Rec->Rec} (hg:∀y,d.σ.t.recs[j]?=some y->zQ0 f p (g y)=0):InvW p f (d.to { d.σ with t:={ d.σ.t with recs:=d.σ.t.recs.modify j g } }):=
 zJB hi (by rw[List.length_modify];exact(zQP.of hi.t.ok).n300) (by rw[List.length_modify];exact Nat.le_refl _) λx hx=>by
  rcases zVq hx with hx|⟨y,hy,rfl⟩
  ·exact hi.recR x hx
  ·exact hg y hy
theorem put_c(h:zQH X w L d 0)(hi:Inv p f d)(hs:Fit d)(k:Int){s:SV}{r:Rec}(hr:RecK w L s r):Calls prog 38 #[L.ptr,.int .i64 k,.agg #[.bool r.gone,slV s]] w (yXo X w L (.int .i64 (yZY d.σ k r)) (d.put k r)):=by
 have hS:=h.S_lt
 have cM:=(zQP.of hi.t.ok).n300
 have hrl:=h.now.rlen
 refine xXm _ _ _ _ w _ (alB λw1 ar aB=>(zXe h ar).mono ?_)
 rintro e w2 ⟨rfl,hI,hf,hsz⟩
 have h2:=hI.at_ h
 have nJ:w.heap.size<w1.heap.size:=zQx aB
 have b2:=hf.blk aB (show ¬w.heap.size=L.S by omega)
 have stay:∀{w3:World} (c:Int),yZY d.σ k r=c->c ≠ 0->Pu w2 w3->zQb prog [zXZ L] w3 λw4=>yXo X w L (.int .i64 (yZY d.σ k r)) (d.put k r) (.returned (.int .i64 c)) w4:=λ{w3} c hc h0 hp=>by
  have e2:d.put k r=d:=by unfold Dat.put;rw[if_neg (by rw[hc];exact h0)]
  rw[e2,hc]
  exact zXQ (h2.pu hp) (hI.left.trans (zZg.pu hp L))
 refine⟨_,_,rfl,zJe (Br.of (λc=>by cases c) λ_=>(zYQ h2 (by omega) k).mono ?_)⟩
 rintro e w4 ⟨rfl,rfl⟩
 refine⟨_,rfl,Br.of (λc=>?_) (λc=>?_)⟩
 ·have c:zXf d.σ k=false:=by simpa using c
  exact stay 4 (by unfold yZY;rw[if_neg (by rw[c];simp)]) (by decide) (Pu.refl _)
 have c:zXf d.σ k=true:=by simpa using c
 have eC:yZY d.σ k r=zQ0 d.σ.t.fields d.σ.t.page r:=by unfold yZY;rw[if_pos c]
 obtain⟨j,hk,hj,hjn,hwj⟩:=zJH c cM
 have jw:zX3 w4 s r.v:=hr w4 (hI.left.fr)
 refine⟨r.gone,cl b2 0,s,cl b2 1,(xKj h2 hi.t.ok jw).mono ?_⟩
 rintro e w6 ⟨rfl,bB⟩
 refine⟨_,rfl,Br.of (λc1=>stay _ eC (zQ2 c1) bB) (λc1=>?_)⟩
 have c1:zQ0 d.σ.t.fields d.σ.t.page r=0:=zQs c1
 have py:r.v.length<=1000000:=by have:=zX4 c1;have:=(zJg.of hi.t.ok).n16;omega
 refine zQc λw8 bP _=>?_
 have ip:=bB.trans bP
 have h8:=h2.pu ip
 have b8:=ip.blk b2
 refine⟨λu=>Pu w8 u,Pu.refl _,L.now.r,λu hu=>(h8.pu hu).cellB 2 2,r.gone,λu hu=>cl0 (hu.blk b8),s,λu hu=>cl (hu.blk b8) 1,(yXI (RdV.of (jw.pu ip)) py).mono ?_⟩
 rintro e aN ⟨q,rfl,hq,hqn,dk⟩
 have oV:=h8.pu dk
 have hnl:∀b,(b ∈ zQe L.now.r∨b ∈ vBl L.now.hs)->b<w8.heap.size:=λb hb=>h8.own_lt (xQw hb)
 have eA:d.put k r=d.recs (d.σ.t.recs.set j r):=by unfold Dat.put;rw[if_pos (by rw[eC];exact c1),hjn]
 refine⟨q,rfl,dk,?_⟩
 rw[hwj]
 obtain⟨a,ha,hst⟩:=oV.now.set hj (x:=r) hq (λb hb hc=>by have:=hqn b hb;have:=hnl b (.inr hc);omega) (K:=λaO=>Calls prog 79 #[L.ptr] aO λe aH=>e=.returned (.tuple #[])/\zQb prog [zXZ L] aH λbq=>yXo X w L (.int .i64 (yZY d.σ k r)) (d.put k r) (.returned (.int .i64 0)) bq) λaO pz eJ=>by
  have kN:=eJ.blk oV.st (oV.now.rw_.other oV.st (by decide))
  obtain⟨nD,sK⟩:=h8.reNow dk eJ (λb hb=>.inr (.inl hb)) (q:={ L.now with hs:=L.now.hs.set j (r.gone,q) }) (t:={ d.σ.t with recs:=d.σ.t.recs.set j r }) kN pz (λb hb=>by
   rcases hb with hb|hb
   ·exact .inl (.inl hb)
   ·rcases xYU (by rw[oV.now.len];exact hj) b hb with hb|hb
    ·exact .inl (.inr hb)
    ·exact .inr (hqn b hb)) rfl rfl
  have hLall:=(hI.left.trans (zZg.pu ip L)).trans sK
  have hW:=zJB (l:=d.σ.t.recs.set j r) hi (by rw[List.length_set];omega) (by rw[List.length_set];exact Nat.le_refl _) λx hx=>by
   rcases List.mem_or_eq_of_mem_set hx with hx|rfl
   ·exact hi.recR x hx
   ·rw[←hi.t.fields,←hi.t.page];exact c1
  refine(yXE nD hLall hW ⟨hs.l1,hs.l2,hs.wn,hs.dn⟩).mono ?_
  rintro e bp ⟨rfl,L2,sJ,ka⟩
  refine⟨rfl,?_⟩
  rw[eA,eC,c1]
  exact zZa sJ ka ka.ptr.symm
 exact⟨a,ha,by omega,by omega,by rw[zXj];exact hst⟩
theorem mark_c(h:zQH X w L d 0)(hi:Inv p f d)(hs:Fit d)(k:Int)(g:Bool):Calls prog 39 #[L.ptr,.int .i64 k,.bool g] w (yXo X w L (.int .i64 (zYN d.σ k)) (d.mark k g)):=by
 have hS:=h.S_lt
 have cM:=(zQP.of hi.t.ok).n300
 have hrl:=h.now.rlen
 refine xXx _ _ _ w _ ((zXe h (Pu.refl w)).mono ?_)
 rintro e w2 ⟨rfl,hI,hf,hsz⟩
 have h2:=hI.at_ h
 refine⟨_,_,rfl,zJe (Br.of (λc=>by cases c) λ_=>(zYQ h2 (by omega) k).mono ?_)⟩
 rintro e w4 ⟨rfl,rfl⟩
 refine⟨_,rfl,Br.of (λc=>?_) (λc=>?_)⟩
 ·have c:zXf d.σ k=false:=by simpa using c
  have e1:zYN d.σ k=4:=by unfold zYN;rw[if_neg (by rw[c];simp)]
  have e2:d.mark k g=d:=by unfold Dat.mark;rw[if_neg (by rw[c];simp)]
  rw[e1,e2]
  exact zXQ h2 hI.left
 have c:zXf d.σ k=true:=by simpa using c
 obtain⟨j,hk,hj,hjn,hwj⟩:=zJH c cM
 have e1:zYN d.σ k=0:=by unfold zYN;rw[if_pos c]
 have e2:d.mark k g=d.recs (d.σ.t.recs.modify j λr=>{ r with gone:=g }):=by unfold Dat.mark;rw[if_pos c,hjn]
 refine⟨L.now.r,h2.cellB 2 2,?_⟩
 rw[hwj]
 obtain⟨a,ha,hst⟩:=h2.now.mark hj g (K:=λaO=>Calls prog 79 #[L.ptr] aO λe aH=>e=.returned (.tuple #[])/\zQb prog [zXZ L] aH λbq=>yXo X w L (.int .i64 (zYN d.σ k)) (d.mark k g) (.returned (.int .i64 0)) bq) λaO hs' pz hv12 eJ=>by
  have kN:=eJ.blk h2.st (h2.now.rw_.other h2.st (by decide))
  obtain⟨nD,sK⟩:=h2.reNow (Pu.refl _) eJ (λb hb=>.inr (.inl hb)) (q:={ L.now with hs:=hs' }) (t:={ d.σ.t with recs:=d.σ.t.recs.modify j λr=>{ r with gone:=g } }) kN pz (λb hb=>.inl (hb.imp id λhb=>by rw[←hv12];exact hb)) rfl rfl
  have hW:=modW hi (j:=j) (g:=λr=>{ r with gone:=g }) λy hy=>hi.recR y (List.mem_of_getElem? hy)
  refine(yXE nD (hI.left.trans sK) hW ⟨hs.l1,hs.l2,hs.wn,hs.dn⟩).mono ?_
  rintro e bp ⟨rfl,L2,sJ,ka⟩
  refine⟨rfl,?_⟩
  rw[e1,e2]
  exact zZa sJ ka ka.ptr.symm
 exact⟨a,ha,by omega,by omega,by rw[zXj];exact hst⟩
theorem xYG(h:zQH X w L d 0)(hi:Inv p f d)(hs:Fit d)(k:Int)(nm:ByteArray)(v:Val):Calls prog 40 #[L.ptr,.int .i64 k,.string nm,.agg #[.int .i64 v.kind,.int .i64 v.n,.string v.s]] w (yXo X w L (.int .i64 (yXL d.σ k nm v)) (d.set k nm v)):=by
 have hS:=h.S_lt
 have cM:=(zQP.of hi.t.ok).n300
 have hrl:=h.now.rlen
 refine yYv _ _ _ _ _ _ w _ (alB λw1 ar aB=>(zXe h ar).mono ?_)
 rintro e w2 ⟨rfl,hI,hf,hsz⟩
 have h2:=hI.at_ h
 have nJ:w.heap.size<w1.heap.size:=zQx aB
 have b2:=hf.blk aB (show ¬w.heap.size=L.S by omega)
 refine⟨_,_,rfl,zJe (Br.of (λc=>by cases c) λ_=>⟨L.now.f,h2.cellB 2 1,(kQg h2.kp0.nf nm).mono ?_⟩)⟩
 rintro e w5 ⟨rfl,aR⟩
 have h5:=h2.pu aR
 have stay:∀{w3:World} (c:Int),Ins w w3 L->yXL d.σ k nm v=c->d.set k nm v=d->zQb prog [zXZ L] w3 λw4=>yXo X w L (.int .i64 (yXL d.σ k nm v)) (d.set k nm v) (.returned (.int .i64 c)) w4:=λ{w3} c hi3 hc hd=>by
  rw[hd,hc]
  exact zXQ (hi3.at_ h) hi3.left
 refine⟨_,_,rfl,Br.of (λc=>?_) (λc=>?_)⟩
 ·have c:yQo d.σ.t.fields nm=none:=by simpa using c
  exact stay 4 (hI.pu aR) (by unfold yXL;rw[c]) (by unfold Dat.set;rw[c])
 have c:(yQo d.σ.t.fields nm).isSome=true:=by simpa using c
 obtain⟨i,hidx⟩:=Option.isSome_iff_exists.1 c
 have hil:=xQ1 hidx
 have eK:xJo d.σ.t.fields nm=(i:Int):=by unfold xJo;rw[hidx];rfl
 have eC:yXL d.σ k nm v=if zXf d.σ k then(zZT (d.σ.t.fields.getD i default) d.σ.t.page v).2 else 4:=by unfold yXL;rw[hidx]
 have eS:d.set k nm v=if zXf d.σ k/\(zZT (d.σ.t.fields.getD i default) d.σ.t.page v).2=0 then d.recs (d.σ.t.recs.modify (k - 1).toNat λr=>{ r with v:=r.v.set i (zZT (d.σ.t.fields.getD i default) d.σ.t.page v).1 })else d:=by unfold Dat.set;rw[hidx]
 refine(zYQ h5 (by omega) k).mono ?_
 rintro e w7 ⟨rfl,rfl⟩
 refine⟨_,rfl,Br.of (λc1=>?_) (λc1=>zQc λw9 cx _=>?_)⟩
 ·have c1:zXf d.σ k=false:=by simpa using c1
  exact stay 4 (hI.pu aR) (by rw[eC,if_neg (by rw[c1];simp)]) (by rw[eS,if_neg (by rw[c1];simp)])
 have c1:zXf d.σ k=true:=by simpa using c1
 obtain⟨j,hk,hj,hjn,hwj⟩:=zJH c1 cM
 have qF:=aR.trans cx
 have h9:=h2.pu qF
 have b9:=qF.blk b2
 obtain⟨fl,hfl⟩:=zQM hil
 have efl:d.σ.t.fields.getD i default=fl:=by rw[List.getD_eq_getElem?_getD,hfl];rfl
 rw[efl]at eC eS
 obtain⟨a,ha,hia,_,_,_,f0,f1,f2,f3⟩:=zJl h9.kp0.nf hfl
 rw[eK]
 have fB:=List.all_eq_true.1 (zJg.of hi.t.ok).all fl (List.mem_of_getElem? hfl)
 refine⟨L.now.f,h9.cellB 2 1,a,ha,by omega,by omega,_,by rw[zXj];exact f0,_,by rw[zXj];exact f1,_,by rw[zXj];exact f2,_,by rw[zXj];exact f3,d.σ.t.page,by rw[h9.cellA 2,←h9.now.page];rfl,_,cl b9 0,_,cl b9 1,_,cl b9 2,(fit_c fl d.σ.t.page v (by have:=(zXb fB).2.1;omega) w9).mono ?_⟩
 rintro e aH ⟨rfl,bj⟩
 refine⟨_,_,_,_,rfl,zQi (bj.blk b9) xYX.symm rfl rfl λbq iE oS _=>?_⟩
 have hI14:Ins w bq L:=((hI.pu qF).pu bj).box oS hS (Nat.le_refl _)
 refine Br.of (λc2=>?_) (λc2=>zQc λbG dQ _=>?_)
 ·have c2:(zZT fl d.σ.t.page v).2 ≠ 0:=zQ2 c2
  exact stay _ hI14 (by rw[eC,if_pos c1]) (by rw[eS,if_neg (λe=>c2 e.2)])
 have c2:(zZT fl d.σ.t.page v).2=0:=zQs c2
 have hI16:=hI14.pu dQ
 have iY:=hI16.at_ h
 have ke:=dQ.blk iE
 obtain⟨y,hy⟩:=zQM (l:=L.now.hs) (k:=j) (by rw[h.now.len];exact hj)
 obtain⟨r,hrj⟩:=zQM hj
 have hvl:r.v.length=d.σ.t.fields.length:=zX4 ((zQP.of hi.t.ok).recs r (List.mem_of_getElem? hrj))
 obtain⟨e1,hV⟩:=iY.now.rec_ j y r hy hrj
 have hyl:=hV.len zXA (by decide)
 obtain⟨aa,haa,_,g1⟩:=iY.now.rw_.elem zQT hy (o:=1) rfl
 rw[hwj,zXj]
 refine⟨L.now.r,iY.cellB 2 2,aa,haa,by omega,by omega,y.2,g1,_,cl ke 0,_,cl ke 1,_,cl ke 2,?_⟩
 have eA:d.set k nm v=d.recs (d.σ.t.recs.modify j λr=>{ r with v:=r.v.set i (zZT fl d.σ.t.page v).1 }):=by rw[eS,if_pos ⟨c1,c2⟩,hjn]
 have eC2:yXL d.σ k nm v=0:=by rw[eC,if_pos c1];exact c2
 obtain⟨av,hav,hst⟩:=iY.now.setV hrj (i:=i) (by omega) (zZT fl d.σ.t.page v).1 hy (K:=λaO=>Calls prog 79 #[L.ptr] aO λe aH=>e=.returned (.tuple #[])/\zQb prog [zXZ L] aH λbq=>yXo X w L (.int .i64 (yXL d.σ k nm v)) (d.set k nm v) (.returned (.int .i64 0)) bq) λaO pz eJ=>by
  have kN:=eJ.blk iY.st (hV.other iY.st (by decide))
  obtain⟨nD,sK⟩:=iY.reNow (Pu.refl _) eJ (λb hb=>.inr (.inr (zVp (List.mem_of_getElem? hy) hb))) (q:=L.now) (t:={ d.σ.t with recs:=d.σ.t.recs.modify j λr=>{ r with v:=r.v.set i (zZT fl d.σ.t.page v).1 } }) kN pz (λb hb=>.inl hb) rfl rfl
  have hW:=modW hi (j:=j) (g:=λr=>{ r with v:=r.v.set i (zZT fl d.σ.t.page v).1 }) λy hy=>zYv (hi.recR y (List.mem_of_getElem? hy)) λg hg=>by
   have:g=fl:=by rw[←hi.t.fields,hfl]at hg;exact(Option.some.inj hg).symm
   rw[this,←hi.t.page]
   exact yXp c2
  refine(yXE nD (hI16.left.trans sK) hW ⟨hs.l1,hs.l2,hs.wn,hs.dn⟩).mono ?_
  rintro e bp ⟨rfl,L2,sJ,ka⟩
  refine⟨rfl,?_⟩
  rw[eA,eC2]
  exact zZa sJ ka ka.ptr.symm
 exact⟨av,hav,by omega,by omega,by rw[zXj];exact hst⟩
end Go.Proofs.YtaeecpjhfmcliaaGreatDoor
/- The log: the reference puts records behind, replaces and marks them; sets values; tells what differs. No condition but those stated. -/
namespace Go.Proofs.YtaeecpjhfmcliaaGreatDoor
open Go.Sh Go.RowKit Tryz
variable {w0 w w' : World} {X : Nat -> Prop} {R R' : RL} {p : Int} {f : List Fld} {d : Dat}
def xYA(R:Rt)(p0:Option Addr)(n1 dN cJ:Int)(cq:Nat)(ds:Ds)(bU:World):Prop:=
 Br (cJ != 0) (
 zQb prog ds bU λct=>
 R (.returned (.int .i64 cJ)) ct) (
 zQg p0 λo4=>
 ∃kD:SV,bU.cell? (o4.add 2)=some (.slice kD.a kD.len kD.cap)/\
 ∃pi:Addr,kD.a=some pi/\0<=(IntKind.i64.wrap (n1 - 1))/\(IntKind.i64.wrap (n1 - 1))<((kD.len:Nat):Int)/\
 ∃j1:Bool,bU.cell? ((pi.add ((IntKind.i64.wrap (n1 - 1)).toNat * 2)).add 0)=some (.bool j1)/\
 ∃de:SV,bU.cell? ((pi.add ((IntKind.i64.wrap (n1 - 1)).toNat * 2)).add 1)=some (.slice de.a de.len de.cap)/\
 Calls prog 102 #[.agg #[.bool j1,.slice de.a de.len de.cap]] bU λe dy=>
 ∃j2:Bool,∃bA:SV,e=.returned (.agg #[.bool j2,.slice bA.a bA.len bA.cap])/\
 alE (.cells #[.bool false,.slice none 0 0] 67) dy λnS gj=>
 stA prog 67 (⟨nS,0,none⟩:Addr) #[.bool j2,.slice bA.a bA.len bA.cap] gj λfe=>
 xZK R p0 n1 dN (some (⟨cq,0,none⟩:Addr)) (some (⟨nS,0,none⟩:Addr)) ds fe)
theorem yQ5 {α:Type} {l:List α} {j:Nat} {y:α} (hj:l[j]?=some y) (g:α->α):l.modify j g=l.set j (g y):=by
 have hlt:=(List.getElem?_eq_some_iff.1 hj).1
 apply List.ext_getElem?
 intro i
 rw[List.getElem?_modify,List.getElem?_set]
 by_cases e:j=i
 ·subst e
  rw[if_pos rfl,if_pos hlt,hj];simp
 ·rw[if_neg e];simp[e]
theorem zYJ{l:List Rec}{j:Nat}(h:j<l.length)(x:Rec):yYk l j x=l.set j x:=by unfold yYk;rw[if_pos h]
theorem yKU(l:List Rec)(x:Rec):yYk l l.length x=l ++ [x]:=by unfold yYk;rw[if_neg (by omega)]
theorem xXf(hi:Inv p f d){r:Rec}(hr:zQ0 d.σ.t.fields d.σ.t.page r=0)(hn:d.σ.t.recs.length<300):zQf { d.σ.t with recs:=yYk d.σ.t.recs d.σ.t.recs.length r }=0:=by
 rw[yKU]
 exact(zJB (l:=d.σ.t.recs ++ [r]) hi (by rw[List.length_append,List.length_singleton];omega) (by rw[List.length_append];omega) λx hx=>by
  rcases List.mem_append.1 hx with hx|hx
  ·exact hi.recR x hx
  ·rw[List.mem_singleton.1 hx,←hi.t.fields,←hi.t.page];exact hr).t.ok
theorem zYM(hi:Inv p f d){r:Rec}{j:Nat}(hj:j<d.σ.t.recs.length)(hr:zQ0 d.σ.t.fields d.σ.t.page r=0):zQf { d.σ.t with recs:=yYk d.σ.t.recs j r }=0:=by
 rw[zYJ hj]
 exact(zJB (l:=d.σ.t.recs.set j r) hi (by rw[List.length_set];exact(zQP.of hi.t.ok).n300) (by rw[List.length_set];exact Nat.le_refl _) λx hx=>by
  rcases List.mem_or_eq_of_mem_set hx with hx|rfl
  ·exact hi.recR x hx
  ·rw[←hi.t.fields,←hi.t.page];exact hr).t.ok
theorem rapp_c(h:zQO X w R d.σ)(hi:Inv p f d)(hn:d.σ.done.length<=1000000){s:SV}{r:Rec}(hr:zX3 w s r.v):Calls prog 63 #[R.ptr,.agg #[.bool r.gone,slV s]] w (zJD X w R (.tuple #[.int .i64 (yYj d.σ r),.int .i64 (yJa d.σ r)]) (xW2 d.σ r)):=by
 have cM:=(zQP.of hi.t.ok).n300
 have hrl:=h.kp0.t.2.recs.len
 refine yYu _ _ _ w _ (alB λw1 ar aB=>?_)
 have h1:=h.pu ar
 have stay:∀{w3:World} (c:Int),yJa d.σ r=c->c ≠ 0->Pu w w3->zJD X w R (.tuple #[.int .i64 (yYj d.σ r),.int .i64 (yJa d.σ r)]) (xW2 d.σ r) (.returned (.tuple #[.int .i64 0,.int .i64 c])) w3:=λ{w3} c hc h0 hp=>by
  have e1:yYj d.σ r=0:=by unfold yYj;rw[if_neg (by rw[hc];exact h0)]
  have e2:xW2 d.σ r=d.σ:=by unfold xW2;rw[if_neg (by rw[hc];exact h0)]
  rw[e1,e2,hc]
  exact⟨rfl,R,h.pu hp,zXu.pu hp R⟩
 refine⟨R.t.r,h1.cell 2,?_⟩
 rw[zQa (by omega) (by omega)]
 refine Br.of (λc=>stay 3 (by unfold yJa;rw[if_pos (by have:=zQk c;omega)]) (by decide) ar) (λc=>zQc λw4 aK _=>?_)
 have c:¬300<=d.σ.t.recs.length:=by have:=zQd c;omega
 have eC:yJa d.σ r=zQ0 d.σ.t.fields d.σ.t.page r:=by unfold yJa;rw[if_neg c]
 have bQ:=ar.trans aK
 have h4:=h.pu bQ
 have b4:=aK.blk aB
 refine⟨R.t.f,h4.cell 1,R.t.page,h4.cell0,r.gone,cl b4 0,s,cl b4 1,?_⟩
 rw[h4.kp0.t.1]
 refine(zWl d.σ.t.page h4.kp0.t.2.fields (hr.pu bQ)).mono ?_
 rintro e w7 ⟨rfl,cv⟩
 have gm:=bQ.trans cv
 have b7:=cv.blk b4
 refine⟨_,rfl,Br.of (λc1=>stay _ eC (zQ2 c1) gm) (λc1=>⟨r.gone,cl b7 0,s,cl b7 1,?_⟩)⟩
 have c1:zQ0 d.σ.t.fields d.σ.t.page r=0:=zQs c1
 have py:r.v.length<=1000000:=by have:=zX4 c1;have:=(zJg.of hi.t.ok).n16;omega
 have e0:((R.t.r.len:Nat):Int)+1=(d.σ.t.recs.length:Int)+1:=by omega
 rw[e0]
 refine(yKn (h.pu gm) hi.t.ok hi.ne hn (RdV.of (hr.pu gm)) py (Nat.le_refl _) (xXf hi c1 (by omega))).mono ?_
 rintro e w9 ⟨rfl,R9,h9,x8⟩
 have e1:yYj d.σ r=(d.σ.t.recs.length:Int)+1:=by unfold yYj;rw[if_pos (by rw[eC];exact c1)]
 have e2:xW2 d.σ r=zXJ d.σ (d.σ.t.recs ++ [r]):=by unfold xW2;rw[if_pos (by rw[eC];exact c1)]
 rw[yKU]at h9
 refine⟨rfl,?_⟩
 rw[e1,e2,eC,c1]
 exact⟨rfl,R9,h9,(zXu.pu gm R).trans x8⟩
theorem kQ0(h:zQO X w R d.σ)(hi:Inv p f d)(hn:d.σ.done.length<=1000000)(k:Int){s:SV}{r:Rec}(hr:zX3 w s r.v):Calls prog 64 #[R.ptr,.int .i64 k,.agg #[.bool r.gone,slV s]] w (zJD X w R (.int .i64 (yZY d.σ k r)) (xV5 d.σ k r)):=by
 have cM:=(zQP.of hi.t.ok).n300
 refine xQr _ _ _ _ w _ (alB λw1 ar aB=>?_)
 have stay:∀{w3:World} (c:Int),yZY d.σ k r=c->c ≠ 0->Pu w w3->zJD X w R (.int .i64 (yZY d.σ k r)) (xV5 d.σ k r) (.returned (.int .i64 c)) w3:=λ{w3} c hc h0 hp=>by
  have e2:xV5 d.σ k r=d.σ:=by unfold xV5;rw[if_neg (by rw[hc];exact h0)]
  rw[e2,hc]
  exact⟨rfl,R,h.pu hp,zXu.pu hp R⟩
 refine(yXC (h.pu ar) k).mono ?_
 rintro e w2 ⟨rfl,rfl⟩
 refine⟨_,rfl,Br.of (λc=>?_) (λc=>zQc λw4 aK _=>?_)⟩
 ·have c:zXf d.σ k=false:=by simpa using c
  exact stay 4 (by unfold yZY;rw[if_neg (by rw[c];simp)]) (by decide) ar
 have c:zXf d.σ k=true:=by simpa using c
 have eC:yZY d.σ k r=zQ0 d.σ.t.fields d.σ.t.page r:=by unfold yZY;rw[if_pos c]
 obtain⟨j,hk,hj,hjn,hwj⟩:=zJH c cM
 have bQ:=ar.trans aK
 have h4:=h.pu bQ
 have b4:=aK.blk aB
 refine⟨R.t.f,h4.cell 1,R.t.page,h4.cell0,r.gone,cl b4 0,s,cl b4 1,?_⟩
 rw[h4.kp0.t.1]
 refine(zWl d.σ.t.page h4.kp0.t.2.fields (hr.pu bQ)).mono ?_
 rintro e w7 ⟨rfl,cv⟩
 have gm:=bQ.trans cv
 have b7:=cv.blk b4
 refine⟨_,rfl,Br.of (λc1=>stay _ eC (zQ2 c1) gm) (λc1=>⟨r.gone,cl b7 0,s,cl b7 1,?_⟩)⟩
 have c1:zQ0 d.σ.t.fields d.σ.t.page r=0:=zQs c1
 have py:r.v.length<=1000000:=by have:=zX4 c1;have:=(zJg.of hi.t.ok).n16;omega
 have eS:xV5 d.σ k r=zXJ d.σ (d.σ.t.recs.set j r):=by unfold xV5;rw[if_pos (by rw[eC];exact c1),hjn]
 rw[eS,eC,c1,hk]
 refine(yKn (h.pu gm) hi.t.ok hi.ne hn (RdV.of (hr.pu gm)) py (Nat.le_of_lt hj) (zYM hi hj c1)).mono ?_
 rintro e w9 ⟨rfl,R9,h9,x8⟩
 rw[zYJ hj]at h9
 exact⟨rfl,rfl,R9,h9,(zXu.pu gm R).trans x8⟩
theorem xY5(h:zQO X w R d.σ)(hi:Inv p f d)(hn:d.σ.done.length<=1000000)(k:Int)(g:Bool):Calls prog 65 #[R.ptr,.int .i64 k,.bool g] w (zJD X w R (.int .i64 (zYN d.σ k)) (yJ1 d.σ k g)):=by
 have cM:=(zQP.of hi.t.ok).n300
 have hrl:=h.kp0.t.2.recs.len
 refine xQt _ _ _ w _ ((yXC h k).mono ?_)
 rintro e w1 ⟨rfl,rfl⟩
 refine⟨_,rfl,Br.of (λc=>?_) (λc=>?_)⟩
 ·have c:zXf d.σ k=false:=by simpa using c
  have e1:zYN d.σ k=4:=by unfold zYN;rw[if_neg (by rw[c];simp)]
  have e2:yJ1 d.σ k g=d.σ:=by unfold yJ1;rw[if_neg (by rw[c];simp)]
  rw[e1,e2]
  exact⟨rfl,R,h,zXu.refl _ R⟩
 have c:zXf d.σ k=true:=by simpa using c
 obtain⟨j,hk,hj,hjn,hwj⟩:=zJH c cM
 obtain⟨y,hy⟩:=zQM hj
 have e1:zYN d.σ k=0:=by unfold zYN;rw[if_pos c]
 have e2:yJ1 d.σ k g=zXJ d.σ (d.σ.t.recs.set j { y with gone:=g }):=by unfold yJ1;rw[if_pos c,hjn,yQ5 hy]
 obtain⟨a,q,ha,hjl,hV,c0,c1⟩:=zWk h.kp0.t.2.recs hy
 rw[hwj,zXj,e1,e2]
 have hyR:=hi.recR y (List.mem_of_getElem? hy)
 have pA:=zZl hi.t.ok y (List.mem_of_getElem? hy)
 refine⟨R.t.r,h.cell 2,a,ha,by omega,by omega,y.gone,c0,q,c1,(zKR (RdV.of hV) pA.2).mono ?_⟩
 rintro e w5 ⟨q',rfl,hq',aR⟩
 refine⟨_,q',rfl,alB λw6 bB fU=>zQi fU yWN.symm rfl rfl λw7 j8 ki _=>?_⟩
 have pB:Pu w5 w7:=bB.andNew ki λi hi=>by rw[show i=_ from hi];exact Nat.le_refl _
 have z5:=aR.size
 refine zQt j8 (by show 0<2;omega) λw8 hw8 j9=>?_
 have oR:Fr (·=w5.heap.size) w7 w8:=by rw[hw8];exact Fr.cell w7 _ _ _
 have dP:Pu w1 w8:=(aR.trans pB).andNew oR λi hi=>by rw[show i=_ from hi];exact z5
 have oU:Pu w5 w8:=pB.andNew oR λi hi=>by rw[show i=_ from hi];exact Nat.le_refl _
 have hq8:zX3 w8 q' y.v:=(hq'.pu oU).rdS pA.2 pA.1
 have hR2:zQ0 d.σ.t.fields d.σ.t.page { y with gone:=g }=0:=by rw[hi.t.fields,hi.t.page];exact hyR
 refine⟨g,cl j9 0,q',cl j9 1,?_⟩
 rw[hk]
 refine(yKn (x:={ y with gone:=g }) (h.pu dP) hi.t.ok hi.ne hn (RdV.of hq8) pA.2 (Nat.le_of_lt hj) (zYM hi hj hR2)).mono ?_
 rintro e w9 ⟨rfl,R9,h9,x8⟩
 rw[zYJ hj]at h9
 exact⟨rfl,rfl,R9,h9,(zXu.pu dP R).trans x8⟩
end Go.Proofs.YtaeecpjhfmcliaaGreatDoor
/- The log: the reference sets values, and tells what differs. No condition but those stated. -/
namespace Go.Proofs.YtaeecpjhfmcliaaGreatDoor
open Go.Sh Go.RowKit Tryz
variable {w0 w w' : World} {X : Nat -> Prop} {R R' : RL} {p : Int} {f : List Fld} {d : Dat}
theorem yZI (h:zQO X w0 R d.σ) (hi:Inv p f d) (hn:d.σ.done.length<=1000000) (hp:Pu w0 w) {k:Int} {nm:ByteArray} {v:Val} {i:Nat} {fl:Fld} {cq:Nat} (hidx:yQo d.σ.t.fields nm=some i) (hfl:d.σ.t.fields[i]?=some fl) (c:zXf d.σ k=true)
  (hb:w.heap[cq]?=some (.cells #[.int .i64 (zZT fl d.σ.t.page v).1.kind,.int .i64 (zZT fl d.σ.t.page v).1.n,.string (zZT fl d.σ.t.page v).1.s] 73)) :
  xYA (zJD X w0 R (.int .i64 (yXL d.σ k nm v)) (yWn d.σ k nm v)) (some ⟨R.S,0,none⟩) k (i:Int) (zZT fl d.σ.t.page v).2 cq [] w:=by
 have cM:=(zQP.of hi.t.ok).n300
 have efl:d.σ.t.fields.getD i default=fl:=by rw[List.getD_eq_getElem?_getD,hfl];rfl
 have eC:yXL d.σ k nm v=(zZT fl d.σ.t.page v).2:=by unfold yXL;rw[hidx];dsimp only;rw[if_pos c,efl]
 have eS:yWn d.σ k nm v=if zXf d.σ k/\(zZT fl d.σ.t.page v).2=0 then zXJ d.σ (d.σ.t.recs.modify (k - 1).toNat λr=>{ r with v:=r.v.set i (zZT fl d.σ.t.page v).1 })else d.σ:=by unfold yWn;rw[hidx];dsimp only;rw[efl]
 obtain⟨j,hk,hj,hjn,hwj⟩:=zJH c cM
 obtain⟨y,hy⟩:=zQM hj
 have hw:=h.pu hp
 refine Br.of (λc2=>?_) (λc2=>?_)
 ·have c2:=zQ2 c2
  rw[eC,eS,if_neg (λe=>c2 e.2)]
  exact⟨rfl,R,hw,zXu.pu hp R⟩
 have c2:=zQs c2
 have hrl:=hw.kp0.t.2.recs.len
 obtain⟨nv,hnv⟩:∃nv,nv=(zZT fl d.σ.t.page v).1:=⟨_,rfl⟩
 rw[eC,eS,if_pos ⟨c,c2⟩,c2,hjn,yQ5 hy]
 rw[←hnv]at hb ⊢
 obtain⟨a,q,ha,hjl,hV,c0,c1⟩:=zWk hw.kp0.t.2.recs hy
 have hyR:=hi.recR y (List.mem_of_getElem? hy)
 have pA:=zZl hi.t.ok y (List.mem_of_getElem? hy)
 have hvl:y.v.length=d.σ.t.fields.length:=zX4 ((zQP.of hi.t.ok).recs y (List.mem_of_getElem? hy))
 have hil:=(List.getElem?_eq_some_iff.1 hfl).1
 rw[hwj,zXj]
 refine⟨R.t.r,hw.cell 2,a,ha,by omega,by omega,y.gone,c0,q,c1,(zKR (RdV.of hV) pA.2).mono ?_⟩
 rintro e w5 ⟨q',rfl,hq',aR⟩
 refine⟨_,q',rfl,alB λw6 bB fU=>zQi fU yWN.symm rfl rfl λw7 j8 ki _=>?_⟩
 have pB:Pu w5 w7:=bB.andNew ki λi hi=>by rw[show i=_ from hi];exact Nat.le_refl _
 have hpw7:=aR.trans pB
 have hq7:=hq'.pu pB
 have b7:=hpw7.blk hb
 have hql:q'.len=y.v.length:=hq'.len
 have hR2:zQ0 d.σ.t.fields d.σ.t.page { y with v:=y.v.set i nv }=0:=by
  rw[hi.t.fields,hi.t.page]
  refine zYv hyR λg hg=>?_
  have:g=fl:=by rw[←hi.t.fields,hfl]at hg;exact(Option.some.inj hg).symm
  rw[this,hnv,←hi.t.page]
  exact yXp c2
 have hv':=zYM hi hj hR2
 refine⟨q',cl j8 1,_,cl b7 0,_,cl b7 1,_,cl b7 2,?_⟩
 obtain⟨av,hav,hst⟩:=hq7.1.stElem (P:=prog) (t:=73) zXA (by decide) (i:=i) (by omega) nv xYX.symm rfl (K:=λw4=>zQg (some (⟨w5.heap.size,0,none⟩:Addr)) λa5=>
   ∃oF:Bool,w4.cell? (a5.add 0)=some (.bool oF)/\
   ∃fQ:SV,w4.cell? (a5.add 1)=some (.slice fQ.a fQ.len fQ.cap)/\
   Calls prog 100 #[.pointer (some ⟨R.S,0,none⟩),.int .i64 k,.agg #[.bool oF,.slice fQ.a fQ.len fQ.cap]] w4 λe w6=>
   e=.returned (.tuple #[])/\zQb prog [] w6 λw7=>zJD X w0 R (.int .i64 0) (zXJ d.σ (d.σ.t.recs.set j { y with v:=y.v.set i nv })) (.returned (.int .i64 0)) w7) λw8 hN8 oR _=>by
  have b8:=oR.blk j8 (hq7.1.other j8 (by decide))
  have hpw8:Pu w w8:=hpw7.andNew oR hq'.2
  have dP:=hp.trans hpw8
  rw[zZi]
  refine⟨y.gone,cl b8 0,q',cl b8 1,?_⟩
  rw[hk]
  have hx64:V64 (y.v.set i nv):=(zZl hv' { y with v:=y.v.set i nv } (by rw[zYJ hj];exact List.mem_of_getElem? (List.getElem?_set_self hj))).1
  have tK:(y.v.set i nv).length<=1000000:=by rw[List.length_set];exact pA.2
  refine(yKn (x:={ y with v:=y.v.set i nv }) (h.pu dP) hi.t.ok hi.ne hn (RdV.of (yYN hN8 tK hx64)) tK (Nat.le_of_lt hj) hv').mono ?_
  rintro e w9 ⟨rfl,R9,h9,x8⟩
  rw[zYJ hj]at h9
  exact⟨rfl,rfl,R9,h9,(zXu.pu dP R).trans x8⟩
 exact⟨av,hav,by omega,by omega,by rw[zXj];exact hst⟩
theorem rset_c(h:zQO X w R d.σ)(hi:Inv p f d)(hn:d.σ.done.length<=1000000)(k:Int)(nm:ByteArray)(v:Val):Calls prog 67 #[R.ptr,.int .i64 k,.string nm,.agg #[.int .i64 v.kind,.int .i64 v.n,.string v.s]] w (zJD X w R (.int .i64 (yXL d.σ k nm v)) (yWn d.σ k nm v)):=by
 refine yYm _ _ _ _ _ _ w _ (alB λw1 ar aB=>?_)
 have h1:=h.pu ar
 refine⟨R.t.f,h1.cell 1,(xZF h1.kp0.t.2.fields nm).mono ?_⟩
 rintro e w2 ⟨rfl,aq⟩
 have aG:=ar.trans aq
 have h2:=h.pu aG
 have stay:∀{w3:World} (c:Int),Pu w w3->yXL d.σ k nm v=c->yWn d.σ k nm v=d.σ->zJD X w R (.int .i64 (yXL d.σ k nm v)) (yWn d.σ k nm v) (.returned (.int .i64 c)) w3:=λ{w3} c hp hc hd=>by
  rw[hd,hc]
  exact⟨rfl,R,h.pu hp,zXu.pu hp R⟩
 refine⟨_,_,rfl,(yXC h2 k).mono ?_⟩
 rintro e w3 ⟨rfl,rfl⟩
 refine⟨_,rfl,Br.of (λc1=>?_) (λc1=>Br.of (λc=>?_) (λc=>zQc λw4 aK _=>?_))⟩
 ·have c1:zXf d.σ k=false:=by simpa using c1
  refine stay 4 aG ?_ ?_
  ·unfold yXL
   cases yQo d.σ.t.fields nm with
   | none=>rfl
   | some i=>dsimp only;rw[if_neg (by rw[c1];simp)]
  ·unfold yWn
   cases yQo d.σ.t.fields nm with
   | none=>rfl
   | some i=>dsimp only;rw[if_neg (by rw[c1];simp)]
 ·have c:yQo d.σ.t.fields nm=none:=by simpa using c
  exact stay 4 aG (by unfold yXL;rw[c]) (by unfold yWn;rw[c])
 have c1:zXf d.σ k=true:=by simpa using c1
 have c:(yQo d.σ.t.fields nm).isSome=true:=by simpa using c
 obtain⟨i,hidx⟩:=Option.isSome_iff_exists.1 c
 have hil:=xQ1 hidx
 have eK:xJo d.σ.t.fields nm=(i:Int):=by unfold xJo;rw[hidx];rfl
 obtain⟨fl,hfl⟩:=zQM hil
 have bQ:=aG.trans aK
 have h4:=h.pu bQ
 have b4:=aK.blk (aq.blk aB)
 rw[eK]
 obtain⟨a,ha,hia,_,_,_,f0,f1,f2,f3⟩:=zJl h4.kp0.t.2.fields hfl
 refine⟨λu=>Pu w4 u,Pu.refl _,R.t.f,λu hu=>(h4.pu hu).cell 1,a,ha,by omega,by omega,_,λu hu=>by rw[zXj];exact hu.cell f0,_,λu hu=>by rw[zXj];exact hu.cell f1,_,λu hu=>by rw[zXj];exact hu.cell f2,_,λu hu=>by rw[zXj];exact hu.cell f3,R.t.page,λu hu=>(h4.pu hu).cell0,_,λu hu=>cl (hu.blk b4) 0,_,λu hu=>cl (hu.blk b4) 1,_,λu hu=>cl (hu.blk b4) 2,?_⟩
 rw[h4.kp0.t.1]
 refine⟨(xKN fl d.σ.t.page v w4).mono ?_,alB λw5 aR bo=>⟨aR,(xKN fl d.σ.t.page v w5).mono ?_⟩⟩
 ·rintro e w5 ⟨rfl,aR⟩
  refine⟨_,_,_,_,rfl,alB λw6 bB fU=>zQi fU xYX.symm rfl rfl λw7 j8 ki _=>?_⟩
  have pB:Pu w5 w7:=bB.andNew ki λi hi=>by rw[show i=_ from hi];exact Nat.le_refl _
  exact yZI h hi hn ((bQ.trans aR).trans pB) hidx hfl c1 j8
 ·rintro e w6 ⟨rfl,bB⟩
  refine⟨_,_,_,_,rfl,zQi (bB.blk bo) xYX.symm rfl rfl λw7 j8 ki _=>?_⟩
  have hp47:Pu w4 w7:=(aR.trans bB).andNew ki λi hi=>by rw[show i=_ from hi];exact Nat.le_refl _
  exact yZI h hi hn (bQ.trans hp47) hidx hfl c1 j8
end Go.Proofs.YtaeecpjhfmcliaaGreatDoor
/- The log: what is too much in a script; a script's records and values. No condition but those stated. -/
namespace Go.Proofs.YtaeecpjhfmcliaaGreatDoor
open Go.Sh Go.RowKit Tryz
variable {w0 w w' : World} {x : zXB} {s : ScV}
theorem xYl(h:yVt w x s):Calls prog 15 #[scA x s] w λe w'=>∃b:Bool,e=.returned (.bool b)/\Pu w w'/\(b=false->x.acts.length<=80/\x.t.recs.length<=60):=by
 have hrl:=h.rs.len
 have hal:=h.ac.len
 have htl:=h.t.recs.len
 have hrm:=h.rs.lim
 have ham:=h.ac.lim
 refine xXY _ _ _ _ _ _ w _ (alB λw1 ar aB=>zQc λw2 aq _=>?_)
 have aG:=ar.trans aq
 have b2:=aq.blk aB
 refine⟨λu=>Pu w2 u,Pu.refl _,_,λu hu=>cl (hu.blk b2) 0,s.f,λu hu=>cl (hu.blk b2) 1,s.r,λu hu=>cl (hu.blk b2) 2,s.vs,λu hu=>cl (hu.blk b2) 4,s.rs,λu hu=>cl (hu.blk b2) 3,(xZM (h.t.pu aG)).mono ?_⟩
 rintro e w3 ⟨n3,rfl,au⟩
 refine⟨n3,rfl,au,(zVu (h.vs.pu (aG.trans au))).mono ?_⟩
 rintro e w4 ⟨n4,rfl,aK⟩
 have fV:=au.trans aK
 refine⟨n4,rfl,fV,?_⟩
 refine zQw x.recs.length (λk t w'=>t.2=(k:Int)/\Pu w2 w') ⟨rfl,fV⟩ ?_
 rintro k J ⟨n,m⟩ wa hk ⟨hm,hpa⟩ hJ
 obtain rfl:m=(k:Int):=hm
 dsimp only
 have ba:=hpa.blk b2
 refine⟨s.rs,cl ba 3,Br.of (λc=>?_) (λc=>?_)⟩
 ·have hkn:k<x.recs.length:=by have:=zQk c;omega
  obtain⟨r,hr⟩:=zQM hkn
  obtain⟨a,q,ha,_,hV,_,c1⟩:=zWk (h.rs.pu (aG.trans hpa)) hr
  refine⟨s.rs,cl ba 3,a,ha,by omega,by omega,q,by rw[zXj];exact c1,(zVu hV).mono ?_⟩
  rintro e wb ⟨nb,rfl,hpb⟩
  rw[zQa (n:=(k:Int)+1) (by omega) (by omega)]
  exact⟨nb,rfl,hJ _ _ hkn ⟨by dsimp only;omega,hpa.trans hpb⟩⟩
 ·refine zQw x.acts.length (λk t w'=>t.2=(k:Int)/\Pu w2 w') ⟨rfl,hpa⟩ ?_
  rintro k2 J2 ⟨n2,m2⟩ wb aJ ⟨yu,hpb⟩ hJ2
  obtain rfl:m2=(k2:Int):=yu
  dsimp only
  have bb:=hpb.blk b2
  refine⟨s.ac,cl bb 5,Br.of (λc=>?_) (λc=>?_)⟩
  ·have hkn:k2<x.acts.length:=by have:=zQk c;omega
   obtain⟨r,hr⟩:=zQM hkn
   obtain⟨a,ha,_,_,_,_,_,_,c4,_⟩:=xYw (h.ac.pu (aG.trans hpb)) hr
   refine⟨s.ac,cl bb 5,a,ha,by omega,by omega,r.s,by rw[zXj];exact c4,?_⟩
   rw[zQa (n:=(k2:Int)+1) (by omega) (by omega)]
   exact hJ2 _ _ hkn ⟨by dsimp only;omega,hpb⟩
  ·have hp0b:=aG.trans hpb
   refine Br.of (λ_=>⟨true,rfl,hp0b,λe=>by cases e⟩) (λ_=>⟨s.ac,cl bb 5,Br.of (λ_=>⟨true,rfl,hp0b,λe=>by cases e⟩) (λc2=>⟨s.r,cl bb 2,_,rfl,hp0b,λe=>?_⟩)⟩)
   have c2:=zQd c2
   have c3:=zQd e
   omega
def noR:Rec:=⟨false,[]⟩
def zVh(x:zXB)(n:Int):Rec:=if 0<=n/\n<x.recs.length then x.recs.getD n.toNat noR else noR
def zW4(x:zXB)(n:Int):Val:=if 0<=n/\n<x.vals.length then x.vals.getD n.toNat noV else noV
theorem xVc(w:World):zX3 w ⟨none,0,0⟩ ([]:List Val):=⟨rfl,Nat.le_refl _,by show 0<=_;omega,λi v hv=>by simp at hv⟩
theorem yX1(h:yVt w0 x s)(hp:Pu w0 w)(n:Int):Calls prog 62 #[scA x s,.int .i64 n] w λe w'=>∃q:SV,e=.returned (.agg #[.bool (zVh x n).gone,slV q])/\zX3 w0 q (zVh x n).v/\Pu w w':=by
 have hrl:=h.rs.len
 refine xQe _ _ _ _ _ _ _ w _ (alB λw1 ar aB=>alB λw2 aq aM=>?_)
 have aG:=ar.trans aq
 have cP:=aq.blk aB
 have z1:=ar.size
 have bad:¬(0<=n/\n<x.recs.length)->stA prog 67 (⟨w1.heap.size,0,none⟩:Addr) #[.bool false,.slice none 0 0] w2 λw3=>zQb prog [] w3 λw4=>
   ∃bL:Bool,w4.cell? ((⟨w1.heap.size,0,none⟩:Addr).add 0)=some (.bool bL)/\∃ab:SV,w4.cell? ((⟨w1.heap.size,0,none⟩:Addr).add 1)=some (.slice ab.a ab.len ab.cap)/\
   ∃q:SV,Ending.returned (.agg #[.bool bL,.slice ab.a ab.len ab.cap])=.returned (.agg #[.bool (zVh x n).gone,slV q])/\zX3 w0 q (zVh x n).v/\Pu w w4:=λhn=>by
  have e:zVh x n=noR:=by unfold zVh;rw[if_neg hn]
  rw[e]
  exact zQi aM yWN.symm rfl rfl λw3 bn fT _=>⟨_,cl bn 0,⟨none,0,0⟩,cl bn 1,⟨none,0,0⟩,rfl,xVc w0,aG.andNew fT λi hi=>by rw[show i=_ from hi];exact z1⟩
 refine Br.of (λc=>bad (by have:=zQk c;omega)) (λc=>⟨s.rs,cl cP 3,Br.of (λc1=>bad (by have:=zQk c1;omega)) (λc1=>?_)⟩)
 have c:=zQd c
 have c1:=zQd c1
 have hn:0<=n/\n<x.recs.length:=by omega
 obtain⟨k,rfl⟩:∃k:Nat,n=(k:Int):=⟨n.toNat,by omega⟩
 obtain⟨r,hr⟩:=zQM (l:=x.recs) (k:=k) (by omega)
 have e:zVh x (k:Int)=r:=by unfold zVh;rw[if_pos hn,zXj,List.getD_eq_getElem?_getD,hr];rfl
 obtain⟨a,q,ha,_,hV,c0,pk⟩:=zWk h.rs hr
 have hpw:=hp.trans aG
 rw[e]
 refine⟨s.rs,cl cP 3,a,ha,by omega,by omega,r.gone,by rw[zXj];exact hpw.cell c0,q,by rw[zXj];exact hpw.cell pk,?_⟩
 exact zQi aM yWN.symm rfl rfl λw3 bn fT _=>⟨_,cl bn 0,q,cl bn 1,q,rfl,hV,aG.andNew fT λi hi=>by rw[show i=_ from hi];exact z1⟩
theorem xQ8(h:yVt w0 x s)(hp:Pu w0 w)(n:Int):Calls prog 66 #[scA x s,.int .i64 n] w λe w'=>e=.returned (.agg #[.int .i64 (zW4 x n).kind,.int .i64 (zW4 x n).n,.string (zW4 x n).s])/\Pu w w':=by
 have hrl:=h.vs.len
 refine xX0 _ _ _ _ _ _ _ w _ (alB λw1 ar aB=>alB λw2 aq aM=>?_)
 have aG:=ar.trans aq
 have cP:=aq.blk aB
 have z1:=ar.size
 have bad:¬(0<=n/\n<x.vals.length)->stA prog 73 (⟨w1.heap.size,0,none⟩:Addr) #[.int .i64 0,.int .i64 0,.string (⟨#[]⟩:ByteArray)] w2 λw3=>zQb prog [] w3 λw4=>
   ∃ag:Int,w4.cell? ((⟨w1.heap.size,0,none⟩:Addr).add 0)=some (.int .i64 ag)/\∃aj:Int,w4.cell? ((⟨w1.heap.size,0,none⟩:Addr).add 1)=some (.int .i64 aj)/\∃ak:ByteArray,w4.cell? ((⟨w1.heap.size,0,none⟩:Addr).add 2)=some (.string ak)/\
   Ending.returned (.agg #[.int .i64 ag,.int .i64 aj,.string ak])=.returned (.agg #[.int .i64 (zW4 x n).kind,.int .i64 (zW4 x n).n,.string (zW4 x n).s])/\Pu w w4:=λhn=>by
  have e:zW4 x n=noV:=by unfold zW4;rw[if_neg hn]
  rw[e]
  exact zQi aM xYX.symm rfl rfl λw3 bn fT _=>⟨_,cl bn 0,_,cl bn 1,_,cl bn 2,rfl,aG.andNew fT λi hi=>by rw[show i=_ from hi];exact z1⟩
 refine Br.of (λc=>bad (by have:=zQk c;omega)) (λc=>⟨s.vs,cl cP 4,Br.of (λc1=>bad (by have:=zQk c1;omega)) (λc1=>?_)⟩)
 have c:=zQd c
 have c1:=zQd c1
 have hn:0<=n/\n<x.vals.length:=by omega
 obtain⟨k,rfl⟩:∃k:Nat,n=(k:Int):=⟨n.toNat,by omega⟩
 obtain⟨r,hr⟩:=zQM (l:=x.vals) (k:=k) (by omega)
 have e:zW4 x (k:Int)=r:=by unfold zW4;rw[if_pos hn,zXj,List.getD_eq_getElem?_getD,hr];rfl
 obtain⟨a,ha,_,_,_,c0,pk,c2⟩:=yWl h.vs hr
 have hpw:=hp.trans aG
 rw[e]
 refine⟨s.vs,cl cP 4,a,ha,by omega,by omega,_,by rw[zXj];exact hpw.cell c0,_,by rw[zXj];exact hpw.cell pk,_,by rw[zXj];exact hpw.cell c2,?_⟩
 exact zQi aM xYX.symm rfl rfl λw3 bn fT _=>⟨_,cl bn 0,_,cl bn 1,_,cl bn 2,rfl,aG.andNew fT λi hi=>by rw[show i=_ from hi];exact z1⟩
end Go.Proofs.YtaeecpjhfmcliaaGreatDoor
/- The log: the table is written into the data file, and the log made empty. No condition but those stated. -/
namespace Go.Proofs.YtaeecpjhfmcliaaGreatDoor
open Go.Sh Go.RowKit Tryz
variable {w0 w w' : World} {X : Nat -> Prop} {L L' : SL} {d d' : Dat} {mu : Int} {p : Int} {f : List Fld}
theorem zKh.fr {w0:World} {q:SV} {wh:List (Int × Int × SV)} {l:List Wr} {B:Nat->Prop} (h:zKh w0 w q wh l) (hf:Fr B w w') (hB:∀k,w0.heap.size<=k->k<w.heap.size->¬B k):zKh w0 w' q wh l:=
 ⟨h.row.fr hf λk hk=>hB k (h.rn k hk) (h.row.lt k hk),h.rn,h.len,λi x y hx hy=>⟨(h.each i x y hx hy).1,(h.each i x y hx hy).2.1,(h.each i x y hx hy).2.2.fr hf hB⟩⟩
theorem xY6(h:zQH X w L d 0)(hi:Inv p f d)(hs:Fit d):Calls prog 41 #[L.ptr] w (yXo X w L (.int .i64 (zVA d.σ)) d.clean):=by
 have hS:=h.S_lt
 have hlv:=h.lv.len zQv (by decide)
 have hll:=h.ll
 have hv:=hi.t.ok
 have hbo:zQC d.σ.t=zQj d.σ.t:=by unfold zQC;rw[if_pos hv]
 refine xX4 _ w _ ((zXe h (Pu.refl w)).mono ?_)
 rintro e w1 ⟨rfl,hI,hf,hsz⟩
 have h1:=hI.at_ h
 refine⟨_,_,rfl,zJe (Br.of (λc=>by cases c) λ_=>⟨L.lv,h1.cellA 5,Br.of (λc=>?_) (λc=>?_)⟩)⟩
 ·have hlne:d.σ.lev ≠ []:=λe=>by
   have:d.σ.lev.length=0:=by rw[e];rfl
   have:=zQk c
   omega
  have e1:zVA d.σ=9:=by unfold zVA;rw[if_neg hlne]
  have e2:d.clean=d:=by unfold Dat.clean;rw[if_neg λe=>hlne e.1]
  rw[e1,e2]
  exact zXQ h1 hI.left
 have hlev:d.σ.lev=[]:=List.eq_nil_of_length_eq_zero (by have:=zQd c;omega)
 have e1:zVA d.σ=0:=by unfold zVA;rw[if_pos hlev]
 obtain⟨al,hal,cl0',tJ⟩:=h1.kp0.la.ex
 have hll2:=h1.kp0.la.len
 have hb1l:=h1.kp0.la.b1.len
 refine⟨L.last,h1.cellA 8,al,hal,by omega,by omega,L.l1,tJ,Br.of (λc1=>?_) (λc1=>?_)⟩
 ·have c1:L.l1.len=0:=by simpa using c1
  have e2:d.clean=d:=by unfold Dat.clean;rw[if_neg λe=>e.2 (List.eq_nil_of_length_eq_zero (by omega))]
  rw[e1,e2]
  exact zXQ h1 hI.left
 have c1:¬L.l1.len=0:=by simpa using c1
 have hne:d.last.2 ≠ []:=λe=>by rw[e]at hb1l;simp at hb1l;omega
 have e2:d.clean=(zQL (d.write d.whole).last).foldl Dat.write (d.write d.whole):=by unfold Dat.clean;rw[if_pos ⟨hlev,hne⟩]
 refine zQc λaH bj _=>?_
 have nj:=h1.pu bj
 refine⟨λu=>Pu aH u,Pu.refl _,L.last,λu hu=>(nj.pu hu).cellA 8,al,hal,by omega,by omega,L.l1,λu hu=>hu.cell (bj.cell tJ),_,λu hu=>(nj.pu hu).cellB 2 0,L.now.f,λu hu=>(nj.pu hu).cellB 2 1,L.now.r,λu hu=>(nj.pu hu).cellB 2 2,?_⟩
 rw[nj.now.page]
 refine(xX3 (nj.rdNow hv) hv).mono ?_
 rintro e bH ⟨q17,rfl,lr,kM⟩
 have h17:=nj.pu kM
 have hle:=zWt d.σ.t
 have hrl:(zZY 119 (zQC d.σ.t)).length<=700000:=by rw[zJr];omega
 have hy:okW d.whole:=⟨.inr rfl,by show 0<=(d.last.2.length:Int);omega,hrl⟩
 refine⟨q17,rfl,kM,?_⟩
 rw[show((L.l1.len:Nat):Int)=((d.last.2.length:Nat):Int)by omega]
 refine Calls.mono (yX0 (y:=d.whole) (q:=q17) h17 hy (lr.keepBy (by omega) nj.xw) ⟨by have:=hs.l1;omega,by have:=hs.l2;omega⟩ (by have:=hs.wn;omega)) ?_
 rintro e bO ⟨rfl,L1,yI,ql⟩
 have hL01:zZg w bO L L1:=(hI.left.trans (zZg.pu (bj.trans kM) L)).trans ql
 have hfile:zQA d.last=(some d.σ.t,[],false):=by rw[hi.at0 hlev];exact hi.file
 have hW:=yQV hfile hv
 have ew:(d.write d.whole).last=(d.last.1,d.last.2 ++ zZY 119 (zQj d.σ.t)):=by
  show zQ1 d.last d.whole=_
  unfold Dat.whole;rw[hbo];exact zKt (t:=d.σ.t)
 have hfo:(zQA (d.write d.whole).last).1=some d.σ.t:=by rw[ew,hW]
 have hl1:(d.write d.whole).last.1.length<=800000000:=by rw[ew];exact hs.l1
 have qJ:(d.write d.whole).last.2.length<=800700000:=by
  rw[ew,List.length_append,←hbo]
  have:=hs.l2
  omega
 rw[←ql.ptr]
 refine⟨rfl,L1.last,yI.cellA 8,(yZH (yI.kp0).la ⟨by omega,by omega⟩ hfo).mono ?_⟩
 rintro e bU ⟨iT,q,wh,rfl,hWr⟩
 have qG:=yI.pu iT
 have hql:=hWr.row.len zXM (by decide)
 have hwl:=hWr.len
 have hml:=yZy (d.write d.whole).last
 have hkW:∀w2,Fr (λb=>L1.own b∨X b) bU w2->zKh bO w2 q wh (zQL (d.write d.whole).last):=λw2 h2=>hWr.fr h2 λk hk hlt e=>by have:=yI.xw k e;omega
 refine⟨q,rfl,?_⟩
 have kb:(d.write d.whole).wr.length=d.wr.length+1:=by show(d.wr ++ [d.whole]).length=_;simp
 generalize d.write d.whole=d1 at *
 refine zQw (zQL d1.last).length (λk u w'=>u=(k:Int)/\∃Lk,zQH X w' Lk (((zQL d1.last).take k).foldl Dat.write d1) 1/\zZg bU w' L1 Lk) ⟨rfl,L1,qG,zZg.refl _ _⟩ ?_
 rintro k J u wa hk ⟨hu,Lk,hSk,hLk⟩ hJ
 obtain rfl:u=(k:Int):=hu
 dsimp only
 obtain⟨g1,g2,g3,g4,g5⟩:=yK0 ((zQL d1.last).take k) d1
 have hkWa:=hLk.keep (X:=X) hkW qG.xl
 refine Br.of (λc2=>?_) (λc2=>?_)
 ·have aJ:k<(zQL d1.last).length:=by have:=zQk c2;omega
  obtain⟨y,qX⟩:=zQM aJ
  have hok:=zKJ (List.mem_of_getElem? qX)
  obtain⟨a,x,ha,hka,z0,z1,z2,hB⟩:=(hkWa wa (Fr.refl _ _)).at_ qX
  have hkx:∀w2,Fr (λb=>Lk.own b∨X b) wa w2->ByV w2 x y.b:=λw2 h2=>by
   obtain⟨a',x',ha',_,_,_,z2',hB'⟩:=(hkWa w2 h2).at_ qX
   rw[ha]at ha';cases ha'
   have hcell:w2.cell? ((a.add (k * 3)).add 2)=some (slV x):=by
    obtain⟨xx,hxx⟩:=zQM (l:=wh) (k:=k) (by rw[hwl];exact aJ)
    obtain⟨b1,aB,_,m1⟩:=(hkWa w2 h2).row.elem zXM hxx (o:=2) rfl
    obtain⟨b2,aM,_,m2⟩:=(hkWa wa (Fr.refl _ _)).row.elem zXM hxx (o:=2) rfl
    rw[ha]at aB aM;cases aB;cases aM
    rw[m1,←m2];exact z2
   rw[hcell]at z2'
   have:x=x':=by
    obtain⟨p1,p2,p3⟩:=x;obtain⟨p1',p2',p3'⟩:=x'
    simp at z2';obtain⟨rfl,rfl,rfl⟩:=z2';rfl
   rw[this];exact hB'.by (by have:=hok.2.2;omega)
  refine⟨a,ha,by omega,by omega,_,by rw[zXj];exact z0,_,by rw[zXj];exact z1,x,by rw[zXj];exact z2,alB λwb hpb hbb=>zQi hbb vk90.symm rfl rfl λwc hbc hfc _=>?_⟩
  have hpac:Pu wa wc:=hpb.andNew hfc λi hi=>by rw[show i=_ from hi];exact Nat.le_refl _
  refine⟨_,cl hbc 0,_,cl hbc 1,x,cl hbc 2,?_⟩
  have hszk:=zJI (F:=d1.last) (W:=(zQL d1.last).take k) (c:=800700000) ⟨by omega,by omega⟩ λy hy=>(zKJ (List.mem_of_mem_take hy)).2.2
  have htl:((zQL d1.last).take k).length<=4:=by rw[List.length_take];omega
  rw[←hLk.ptr]
  refine Calls.mono (yX0 (y:=y) (q:=x) (hSk.pu hpac) hok (xZj hkx hpac) ⟨by rw[g5];omega,by rw[g5];omega⟩ (by
   rw[g4,List.length_append]
   have:=hs.wn
   omega)) ?_
  rintro e wd ⟨rfl,Lm,hSm,hLm⟩
  refine⟨rfl,?_⟩
  rw[zQa (by omega) (by omega)]
  refine hJ _ _ aJ ⟨rfl,Lm,?_,hLk.trans ((zZg.pu hpac Lk).trans hLm)⟩
  rw[zQD qX,List.foldl_append]
  exact hSm
 ·have aJ:k=(zQL d1.last).length:=by have:=zQd c2;omega
  subst aJ
  rw[List.take_length]at hSk
  rw[e1,e2]
  have hL:=(hL01.trans (zZg.pu iT L1)).trans hLk
  exact zZa hSk hL hL.ptr.symm
end Go.Proofs.YtaeecpjhfmcliaaGreatDoor
/- The log: how many writes and commits there are behind some acts. In plain words. No condition but those stated. -/
namespace Go.Proofs.YtaeecpjhfmcliaaGreatDoor
open Go.Sh Go.RowKit Tryz
structure Sz(F:Fls)(n:Nat)(d:Dat):Prop where
 first:d.first=F
 wn:d.wr.length<=5 * n
 dn:d.σ.done.length<=n+1
variable {p : Int} {f : List Fld} {d : Dat} {F : Fls} {n : Nat}
theorem Sz.new(t:Tbl)(F:Fls):Sz F 0 (Dat.new t F):=⟨rfl,Nat.le_refl _,Nat.le_refl _⟩
theorem Sz.up(h:Sz F n d):Sz F (n+1) d:=⟨h.first,by have:=h.wn;omega,by have:=h.dn;omega⟩
theorem Sz.to(h:Sz F n d){σ:Sto}(e:σ.done=d.σ.done):Sz F n (d.to σ):=⟨h.first,h.wn,by show σ.done.length<=_;rw[e];exact h.dn⟩
theorem Sz.commit(h:Sz F n d):Sz F (n+1) d.commit:=by
 unfold Dat.commit
 split
 ·refine⟨h.first,?_,?_⟩
  ·show(d.wr ++ [d.rec_]).length<=_
   have:=h.wn
   rw[List.length_append,List.length_singleton];omega
  ·show(d.σ.done ++ [d.σ.t]).length<=_
   have:=h.dn
   rw[List.length_append,List.length_singleton];omega
 ·exact h.up
theorem Sz.begin(h:Sz F n d):Sz F (n+1) d.begin:=(h.to (by unfold zZZ;split <;> rfl)).up
theorem Sz.back(h:Sz F n d):Sz F (n+1) d.back:=(h.to (by unfold zVt;split <;> rfl)).up
theorem Sz.end_(h:Sz F n d):Sz F (n+1) d.end_:=by
 unfold Dat.end_
 split
 ·exact h.up
 ·exact Sz.commit (h.to rfl)
theorem Sz.recs(h:Sz F n d)(l:List Rec):Sz F (n+1) (d.recs l):=Sz.commit (h.to rfl)
theorem Sz.app(h:Sz F n d)(r:Rec):Sz F (n+1) (d.app r):=by
 unfold Dat.app
 split
 ·exact h.recs _
 ·exact h.up
theorem Sz.put(h:Sz F n d)(k:Int)(r:Rec):Sz F (n+1) (d.put k r):=by
 unfold Dat.put
 split
 ·exact h.recs _
 ·exact h.up
theorem Sz.mark(h:Sz F n d)(k:Int)(g:Bool):Sz F (n+1) (d.mark k g):=by
 unfold Dat.mark
 split
 ·exact h.recs _
 ·exact h.up
theorem Sz.set(h:Sz F n d)(k:Int)(nm:ByteArray)(v:Val):Sz F (n+1) (d.set k nm v):=by
 unfold Dat.set
 cases yQo d.σ.t.fields nm with
 | none=>exact h.up
 | some i=>
  dsimp only
  split
  ·exact h.recs _
  ·exact h.up
theorem Sz.clean(h:Sz F n d)(hi:Inv p f d):Sz F (n+1) d.clean:=by
 by_cases hc:d.σ.lev=[]/\d.last.2 ≠ []
 ·have e:d.clean=(zQL (d.write d.whole).last).foldl Dat.write (d.write d.whole):=by unfold Dat.clean;rw[if_pos hc]
  obtain⟨e1,e2,e3,e4,_⟩:=yK0 (zQL (d.write d.whole).last) (d.write d.whole)
  rw[←e]at e1 e2 e3 e4
  have hm:=(zVM hi hc.1).1
  refine⟨by rw[e2];exact h.first,?_,by rw[e1];exact h.up.dn⟩
  rw[e4,hm]
  show((d.wr ++ [d.whole]) ++ [_,_,_]).length<=_
  have:=h.wn
  simp only[List.length_append,List.length_cons,List.length_nil];omega
 ·have e:d.clean=d:=by unfold Dat.clean;rw[if_neg hc]
  rw[e];exact h.up
theorem Sz.small(h:Sz F n d)(hi:Inv p f d)(hF:F.1.length<=400000000/\F.2.length<=400000000)(hn:n<=100):Small d:=⟨by rw[h.first];exact hF.1,by rw[h.first];exact hF.2,by have:=h.wn;omega,hi.wb⟩
theorem Sz.fit(h:Sz F n d)(hi:Inv p f d)(hF:F.1.length<=400000000/\F.2.length<=400000000)(hn:n<=100):Fit d:=by
 have hs:=(h.small hi hF hn).files d.wr.length
 rw[←hi.eq]at hs
 exact⟨by omega,by omega,by have:=h.wn;omega,by have:=h.dn;omega⟩
end Go.Proofs.YtaeecpjhfmcliaaGreatDoor
/- The log: what is known of a store that is played in the way that the document shows. No condition. -/
namespace Go.Proofs.YtaeecpjhfmcliaaGreatDoor
open Go.Sh Go.RowKit Tryz
variable {w w' : World}
def yKQ(n:Int):Val:=⟨2,n,⟨#[]⟩⟩
def oneR(n:Int):Rec:=⟨false,[yKQ n]⟩
def oneF:List Fld:=[⟨⟨#[78]⟩,2,3,false⟩]
def zVZ(l:List Int):Tbl:=⟨0,oneF,l.map oneR⟩
theorem one_c {r:Nat} {l:List Int} (hl:l.length<=1000) (hb:w.heap[r]?=some (.cells (l.map (Value.int .i64)).toArray 3)):Calls prog 44 #[.slice (some ⟨r,0,none⟩) l.length l.length] w λe w'=>∃f q:SV,e=.returned (zVb (zVZ l) f q)/\zJd w w' (zVZ l) f q/\Pu w w':=by
 refine xXM ⟨some ⟨r,0,none⟩,l.length,l.length⟩ w _ (alB λw1 ar aB=>alB λw2 aq aM=>alB λw3 au bn=>zQi bn zKW.symm rfl rfl λw4 dm gi _=>?_)
 have pw:Pu w2 w4:=au.andNew gi λi hi=>by rw[show i=_ from hi];exact Nat.le_refl _
 have oQ:=aq.trans pw
 have bQ:=ar.trans oQ
 have lt0:w.heap.size<w1.heap.size:=zQx aB
 have nJ:w1.heap.size<w2.heap.size:=zQx aM
 obtain⟨qf,hqf⟩:∃qf:SV,qf=⟨some ⟨w1.heap.size,0,none⟩,1,1⟩:=⟨_,rfl⟩
 have yC:zKS w w4 qf (zVZ l).fields:=by
  rw[hqf]
  exact⟨⟨rfl,.inr ⟨_,_,rfl,pw.blk aM,Nat.le_refl _,by show 1<=maxLen;unfold maxLen;omega,rfl,rfl⟩⟩,λb hb=>by simp[zQe]at hb;omega⟩
 have S0:ChS w w2.heap.size w.heap.size (zVZ l) qf [] w4:=⟨⟨⟨none,0,0⟩,by rw[dm,hqf];rfl,zKj.nil _ _⟩,oQ.blk aB,yC,bQ,by omega,by omega,by omega⟩
 clear hqf
 refine zQw l.length (λk u w'=>u=(k:Int)/\ChS w w2.heap.size w.heap.size (zVZ l) qf ((l.take k).map oneR) w') ⟨rfl,by simpa using S0⟩ ?_
 rintro k J u wa hk ⟨hu,hS⟩ hJ
 obtain rfl:u=(k:Int):=hu
 refine Br.of (λc=>zQc λwb hpb _=>?_) (λc=>?_)
 ·have hkn:k<l.length:=by have:(k:Int)<((l.length:Nat):Int):=zQk c;omega
  obtain⟨x,hx⟩:=zQM hkn
  have hSb:=hS.on hpb
  obtain⟨s,g1,g2⟩:=hSb.ex
  refine⟨λu=>Pu wb u,Pu.refl _,s,λu hu=>cl (hu.blk g1) 2,_,rfl,by omega,by show(k:Int)<((l.length:Nat):Int);omega,x,λu hu=>?_,(xX9 x wb).mono ?_⟩
  ·rw[zXj,Nat.mul_one,cl (hu.blk (hSb.pu.blk hb)) k]
   simp[hx]
  rintro e wc ⟨rfl,hpc⟩
  refine⟨_,_,_,rfl,hpc,alB λwd hpd hbd=>⟨hpc.trans hpd,alB λwe hpe hbe=>⟨(hpc.trans hpd).trans hpe,?_⟩⟩⟩
  have hpbe:=(hpc.trans hpd).trans hpe
  have hSe:=hSb.on hpbe
  have g1e:=hpbe.blk g1
  have g2e:=g2.pu hpbe
  have zb:=hSb.pu.size
  have zc:=hpc.size
  have hv:zJY w we ⟨some ⟨wc.heap.size,0,none⟩,1,1⟩ [yKQ x]:=⟨⟨rfl,.inr ⟨_,_,rfl,hpe.blk hbd,Nat.le_refl _,by show 1<=maxLen;unfold maxLen;omega,rfl,rfl⟩⟩,λb hb=>by simp[zQe]at hb;omega⟩
  obtain⟨s',wf,hra,nf,hff⟩:=g2e.push (g:=false) (vs:=[yKQ x]) hSe.pu.size hv hbe rfl (by rw[List.length_map,List.length_take];omega)
  refine⟨s',wf,hra,?_⟩
  have nk:∀{b:Nat} {c:Array Value},we.heap[b]?=some (.cells c 35)->¬b ∈ zQe s:=λhb hk=>by obtain⟨qs,k1,_⟩:=g2e;exact k1.other hb (by decide) hk
  have g1f:=hff.blk g1e (nk g1e)
  refine zQt g1f (by show 2<3;omega) λwg hwg hbg=>?_
  have hfg:Fr (·=w2.heap.size) wf wg:=by rw[hwg];exact Fr.cell wf _ _ _
  have hqe:zKS w wf qf (zVZ l).fields:=hSe.qf.fr hff λk hk e=>by obtain⟨qs,k1,_⟩:=g2e;exact zQq hSe.qf.1 k1 (by decide) k hk e
  rw[zQa (by omega) (by omega)]
  refine hJ _ _ hkn ⟨rfl,⟨⟨s',hbg,?_⟩,hfg.blk (hff.blk hSe.b4 (nk hSe.b4)) (Ne.symm hSe.ne),hqe.fr hfg λk hk e=>hqe.1.other g1f (by decide) (by rw[←show k=_ from e];exact hk),(hSe.pu.andNew hff g2e.own).andNew hfg λi hi=>by rw[show i=_ from hi];exact hSe.z2,hSe.z2,hSe.z4,hSe.ne⟩⟩
  rw[zQD hx,List.map_append]
  exact nf.other hfg g1f (by decide) (by decide)
 ·have hkn:k=l.length:=by have:¬(k:Int)<((l.length:Nat):Int):=zQd c;omega
  subst hkn
  rw[List.take_length]at hS
  obtain⟨s,g1,g2⟩:=hS.ex
  exact⟨_,cl g1 0,qf,cl g1 1,s,cl g1 2,zQi hS.b4 zKW.symm rfl rfl λwz hbz hfz _=>⟨_,cl hbz 0,qf,cl hbz 1,s,cl hbz 2,qf,s,rfl,⟨hS.qf.fr hfz λk hk e=>hS.qf.1.other hS.b4 (by decide) (by rw[←show k=_ from e];exact hk),g2.other hfz hS.b4 (by decide) (by decide)⟩,hS.pu.andNew hfz λi hi=>by rw[show i=_ from hi];exact hS.z4⟩⟩
theorem yZE (l:List Int) (h:l=[1,2]∨l=[5,2]):zQf (zVZ l)=0:=by
 rcases h with rfl|rfl <;> decide +kernel
def k0:Sto:=Sto.new (zVZ [1,2])
def k1:Sto:=zZZ k0
def k2:Sto:=yWn k1 1 ⟨#[78]⟩ (yKQ 5)
def k3:Sto:=zZZ k2
def k4:Sto:=yWn k3 2 ⟨#[78]⟩ (yKQ 6)
def k5:Sto:=zVt k4
def k6:Sto:=xWQ k5
theorem k1_c:zKd k0=0:=by decide +kernel
theorem k2_c:yXL k1 1 ⟨#[78]⟩ (yKQ 5)=0:=by decide +kernel
theorem k3_c:zKd k2=0:=by decide +kernel
theorem k4_c:yXL k3 2 ⟨#[78]⟩ (yKQ 6)=0:=by decide +kernel
theorem k5_c:zJj k4=0:=by decide +kernel
theorem k6_c:zJj k5=0:=by decide +kernel
theorem k6_t:k6.t=zVZ [5,2]:=by decide +kernel
theorem xYQ:k6.done=[zVZ [1,2],zVZ [5,2]]:=by decide +kernel
end Go.Proofs.YtaeecpjhfmcliaaGreatDoor
/- The log: that the program commits what the document says: that call, walked. No condition. -/
namespace Go.Proofs.YtaeecpjhfmcliaaGreatDoor
open Go.Sh Go.RowKit Tryz
variable {w0 w w' : World} {X : Nat -> Prop}
structure KnS(X:Nat->Prop)(w0 w:World)(S:Nat)(p:Int)(f:List Fld)(F:Fls)(n:Nat)(d:Dat)(L:SL):Prop where
 S:L.S=S
 at_:zQH X w L d 0
 inv:Inv p f d
 sz:Sz F n d
 pu:Pu w0 w
 own:∀b,L.own b->w0.heap.size<=b
variable {S : Nat} {p : Int} {f : List Fld} {F : Fls} {n : Nat} {d d' : Dat} {L : SL}
theorem KnS.on(h:KnS X w0 w S p f F n d L)(hp:Pu w w'):KnS X w0 w' S p f F n d L:=⟨h.S,h.at_.pu hp,h.inv,h.sz,h.pu.trans hp,h.own⟩
theorem KnS.act (h:KnS X w0 w S p f F n d L) {i:Nat} {v:Value} {args:Array Value} (hc:Calls prog i args w (yXo X w L v d')) (hi:Inv p f d') (hz:Sz F (n+1) d'):Calls prog i args w λe w'=>e=.returned v/\∃L',KnS X w0 w' S p f F (n+1) d' L':=by
 refine hc.mono ?_
 rintro e w2 ⟨rfl,L2,h2,hl⟩
 exact⟨rfl,L2,hl.ptr.trans h.S,h2,hi,hz,h.pu.andNew hl.fr h.own,λb hb=>(hl.own b hb).elim (h.own b) λhb=>by have:=h.pu.size;omega⟩
theorem KnS.ptr(h:KnS X w0 w S p f F n d L):Value.pointer (some ⟨S,0,none⟩)=L.ptr:=by rw[←h.S]
theorem kQp(w:World):Calls prog 10 #[] w λe w'=>e=.returned (.bool true)/\Pu w w':=by
 have yK:=yZE [1,2] (.inl rfl)
 have v52:=yZE [5,2] (.inr rfl)
 refine xZc w _ (alB λw1 ar aB=>(one_c (l:=[1,2]) (by decide) aB).mono ?_)
 rintro e w2 ⟨f,q,rfl,hO,aq⟩
 have aG:=ar.trans aq
 refine⟨_,f,q,rfl,(new_c (X:=λ_=>False) (hO.rd (zX0 yK)) (zZJ yK) λb hb=>hb.elim).mono ?_⟩
 rintro e w3 ⟨au,⟨nw,_⟩|⟨_,p,rfl,L,rfl,h3,own⟩⟩
 ·exact absurd yK nw
 have hF:(zQj (zVZ [1,2])).length<=400000000/\([]:List UInt8).length<=400000000:=⟨by have:=zZK (zJg.of yK);show(zQj (zVZ [1,2])).length<=_;omega,by simp⟩
 have K0:KnS (λ_=>False) w w3 L.S 0 oneF (zQj (zVZ [1,2]),[]) 0 (Dat.new (zVZ [1,2]) (zQj (zVZ [1,2]),[])) L:=⟨rfl,h3,zY3 yK (yXa yK),Sz.new _ _,aG.trans au,λb hb=>by have:=own b hb;have:=aG.size;omega⟩
 obtain⟨S,hS⟩:∃S:Nat,S=L.S:=⟨_,rfl⟩
 rw[←hS]at K0 ⊢
 clear hS h3 own
 obtain⟨d0,xb⟩:∃d0,d0=Dat.new (zVZ [1,2]) (zQj (zVZ [1,2]),[]):=⟨_,rfl⟩
 have s0:d0.σ=k0:=by rw[xb];rfl
 rw[←xb]at K0
 clear xb
 refine⟨_,_,rfl,Br.of (λc=>by cases c) λ_=>?_⟩
 rw[K0.ptr]
 refine(K0.act (yJI K0.at_ K0.inv.toInvW) (zYx K0.inv) K0.sz.begin).mono ?_
 rintro e w4 ⟨rfl,L1,K1⟩
 rw[s0,k1_c]
 have s1:d0.begin.σ=k1:=by show zZZ d0.σ=_;rw[s0];rfl
 refine⟨_,rfl,Br.of (λc=>by cases c) λ_=>(xX9 5 w4).mono ?_⟩
 rintro e w5 ⟨rfl,aR⟩
 replace K1:=K1.on aR
 refine⟨_,_,_,rfl,?_⟩
 rw[←K0.ptr,K1.ptr]
 refine(K1.act (xYG K1.at_ K1.inv (K1.sz.fit K1.inv hF (by omega)) 1 ⟨#[78]⟩ (yKQ 5)) (yJ3 K1.inv _ _ _) (K1.sz.set _ _ _)).mono ?_
 rintro e w6 ⟨rfl,L2,K2⟩
 rw[s1,k2_c]
 have s2:(d0.begin.set 1 ⟨#[78]⟩ (yKQ 5)).σ=k2:=by rw[Dat.set_σ,s1];rfl
 refine⟨_,rfl,Br.of (λc=>by cases c) λ_=>?_⟩
 rw[←K1.ptr,K2.ptr]
 refine(K2.act (yJI K2.at_ K2.inv.toInvW) (zYx K2.inv) K2.sz.begin).mono ?_
 rintro e w7 ⟨rfl,L3,K3⟩
 rw[s2,k3_c]
 have s3:(d0.begin.set 1 ⟨#[78]⟩ (yKQ 5)).begin.σ=k3:=by show zZZ (d0.begin.set 1 ⟨#[78]⟩ (yKQ 5)).σ=_;rw[s2];rfl
 refine⟨_,rfl,Br.of (λc=>by cases c) λ_=>(xX9 6 w7).mono ?_⟩
 rintro e w8 ⟨rfl,bP⟩
 replace K3:=K3.on bP
 refine⟨_,_,_,rfl,?_⟩
 rw[←K2.ptr,K3.ptr]
 refine(K3.act (xYG K3.at_ K3.inv (K3.sz.fit K3.inv hF (by omega)) 2 ⟨#[78]⟩ (yKQ 6)) (yJ3 K3.inv _ _ _) (K3.sz.set _ _ _)).mono ?_
 rintro e w9 ⟨rfl,L4,K4⟩
 rw[s3,k4_c]
 obtain⟨d4,hd4⟩:∃d4,d4=(d0.begin.set 1 ⟨#[78]⟩ (yKQ 5)).begin.set 2 ⟨#[78]⟩ (yKQ 6):=⟨_,rfl⟩
 have s4:d4.σ=k4:=by rw[hd4,Dat.set_σ,s3];rfl
 rw[←hd4]at K4
 clear hd4
 refine⟨_,rfl,Br.of (λc=>by cases c) λ_=>?_⟩
 rw[←K3.ptr,K4.ptr]
 refine(K4.act (xYc K4.at_ K4.inv.l8) (yKu K4.inv) K4.sz.back).mono ?_
 rintro e aN ⟨rfl,L5,K5⟩
 rw[s4,k5_c]
 have s5:d4.back.σ=k5:=by show zVt d4.σ=_;rw[s4];rfl
 refine⟨_,rfl,Br.of (λc=>by cases c) λ_=>?_⟩
 rw[←K4.ptr,K5.ptr]
 refine(K5.act (end_c K5.at_ K5.inv (K5.sz.fit K5.inv hF (by omega))) (xQh K5.inv) K5.sz.end_).mono ?_
 rintro e aV ⟨rfl,L6,K6⟩
 rw[s5,k6_c]
 have s6:d4.back.end_.σ=k6:=by rw[Dat.end_σ,s5];rfl
 obtain⟨d6,hd6⟩:∃d6,d6=d4.back.end_:=⟨_,rfl⟩
 rw[←hd6]at K6 s6
 clear hd6
 refine⟨_,rfl,Br.of (λc=>by cases c) λ_=>?_⟩
 rw[K6.ptr]
 have hdone:d6.σ.done=[zVZ [1,2],zVZ [5,2]]:=by rw[s6,xYQ]
 refine(zYw K6.at_ (λt ht=>(K6.inv.done t ht).ok) 1).mono ?_
 rintro e aO ⟨x,rfl,hx,dO⟩
 have eC:yJd d6.σ 1=0:=by unfold yJd;rw[hdone];rfl
 have eT:yQp d6.σ 1=zVZ [5,2]:=by unfold yQp;rw[hdone];rfl
 rw[eC]
 rw[eT]at hx
 refine⟨_,x.f,x.r,_,rfl,alB λaH bj oP=>zQi oP zKW.symm rfl rfl λbq iE oS _=>zQc λbp fj _=>?_⟩
 have fV:Pu aO bq:=bj.andNew oS λi hi=>by rw[show i=_ from hi];exact Nat.le_refl _
 have nu:=fV.trans fj
 have j5:=fj.blk iE
 have K7:=(K6.on dO).on nu
 have hx15:=hx.pu nu
 refine⟨λu=>Pu bp u,Pu.refl _,Br.of (λ_=>(zWL K7.at_ (by rw[hdone];decide)).mono ?_) (λc=>by cases c)⟩
 rintro e bG ⟨rfl,dQ⟩
 rw[hdone]
 refine⟨_,rfl,dQ,Br.of (λ_=>⟨x.page,λu hu=>cl (hu.blk j5) 0,x.f,λu hu=>cl (hu.blk j5) 1,x.r,λu hu=>cl (hu.blk j5) 2,alB λbH kM tI=>⟨dQ.trans kM,(one_c (l:=[5,2]) (by decide) tI).mono ?_⟩⟩) (λc=>by cases c)⟩
 rintro e bO ⟨f2,q2,rfl,hO2,nB⟩
 have oU:=(dQ.trans kM).trans nB
 have hp_x:x.page=(zVZ [5,2]).page:=hx.tab.page
 refine⟨_,f2,q2,rfl,oU,?_⟩
 rw[hp_x]
 refine(zVm ((hx15.pu oU).rd v52) (hO2.rd (zX0 v52))).mono ?_
 rintro e cL ⟨rfl,hp19⟩
 rw[decide_eq_true rfl]
 have qI:=oU.trans hp19
 refine⟨_,rfl,qI,Br.of (λ_=>⟨x.page,λu hu=>cl (hu.blk j5) 0,x.f,λu hu=>cl (hu.blk j5) 1,x.r,λu hu=>cl (hu.blk j5) 2,?_⟩) (λc=>by cases c)⟩
 have K8:=K7.on qI
 have e8:d6.σ.t=zVZ [5,2]:=by rw[s6,k6_t]
 refine(zZc K8.at_ K8.inv.t.ok).mono ?_
 rintro e bU ⟨y,rfl,hy,iT⟩
 rw[e8]at hy
 have hp_y:y.page=(zVZ [5,2]).page:=hy.tab.page
 refine⟨_,y.f,y.r,rfl,qI.trans iT,?_⟩
 rw[hp_x,hp_y]
 refine(zVm (hy.rd v52) ((hx15.pu (qI.trans iT)).rd v52)).mono ?_
 rintro e ct ⟨rfl,sC⟩
 rw[decide_eq_true rfl]
 exact⟨_,rfl,rfl,(K8.on (iT.trans sC)).pu⟩
end Go.Proofs.YtaeecpjhfmcliaaGreatDoor
/- The log: a store and the reference side by side; an act of a script. No condition but those stated. -/
namespace Go.Proofs.YtaeecpjhfmcliaaGreatDoor
open Go.Sh Go.RowKit Tryz
variable {w0 w w' : World} {X : Nat -> Prop} {S Sr n m : Nat} {p : Int} {f : List Fld} {F : Fls} {d d' : Dat} {σ σ' : Sto} {L L' : SL} {R R' : RL} {x : zXB} {s : ScV}
structure Duo(w0 w:World)(S Sr:Nat)(p:Int)(f:List Fld)(F:Fls)(n:Nat)(d:Dat)(σ:Sto)(L:SL)(R:RL):Prop where
 S:L.S=S
 Sr:R.S=Sr
 st:zQH R.own w L d 0
 rf:zQO L.own w R σ
 dj:∀b,L.own b->¬R.own b
 inv:Inv p f d
 sz:Sz F n d
 pu:Pu w0 w
 ol:∀b,L.own b->w0.heap.size<=b
 or_:∀b,R.own b->w0.heap.size<=b
theorem Duo.on(h:Duo w0 w S Sr p f F n d σ L R)(hp:Pu w w'):Duo w0 w' S Sr p f F n d σ L R:=⟨h.S,h.Sr,h.st.pu hp,h.rf.pu hp,h.dj,h.inv,h.sz,h.pu.trans hp,h.ol,h.or_⟩
theorem Duo.ptr(h:Duo w0 w S Sr p f F n d σ L R):Value.pointer (some ⟨S,0,none⟩)=L.ptr:=by rw[←h.S]
theorem Duo.ptrR(h:Duo w0 w S Sr p f F n d σ L R):Value.pointer (some ⟨Sr,0,none⟩)=R.ptr:=by rw[←h.Sr]
theorem zQO.side(h:zQO L.own w R σ)(hl:zZg w w' L L')(hd:∀b,L.own b->¬R.own b)(hL:∀b,L'.own b->b<w'.heap.size):zQO L'.own w' R σ where
 st:=hl.fr.blk h.st λe=>hd _ e (.inl rfl)
 cm:=h.cm.fr hl.fr λb hb e=>hd b e (.inr (.inl hb))
 op:=h.op.fr hl.fr λb hb e=>hd b e (.inr (.inr hb))
 cln:=h.cln
 oln:=h.oln
 dj:=h.dj
 xl:=hL
 kp:=λw2 h2=>h.kp w2 ((hl.fr.mono λb hb _=>.inr hb).trans h2 λb hb hlt=>hb.imp id λhb=>(hl.own b hb).resolve_right (by omega))
theorem zQH.side(h:zQH R.own w L d 0)(hl:zXu w w' R R')(hd:∀b,L.own b->¬R.own b)(hR:∀b,R'.own b->b<w'.heap.size):zQH R'.own w' L d 0:=
 have hn:∀b,L.own b->¬R.own b:=hd
 {
  st:=hl.fr.blk h.st (hn _ (.inl rfl))
  lv:=h.lv.fr hl.fr λb hb=>hn b (.inr (.inl hb))
  dn:=h.dn.fr hl.fr λb hb=>hn b (.inr (.inr (.inl hb)))
  wr:=h.wr.fr hl.fr λb hb=>hn b (.inr (.inr (.inr (.inl hb))))
  pt:=h.pt.fr hl.fr λb hb=>hn b (.inr (.inr (.inr (.inr (.inl hb)))))
  now:=h.now.fr hl.fr λb hb=>hn b (.inr (.inr (.inr (.inr (.inr ⟨_,List.mem_cons_self,hb⟩)))))
  ll:=h.ll
  dl:=h.dl
  wl:=h.wl
  lvs:=λi x t h1 h2=>(h.lvs i x t h1 h2).fr hl.fr λb hb=>hn b (.inr (.inr (.inr (.inr (.inr ⟨_,List.mem_cons_of_mem _ (List.mem_of_getElem? h1),hb⟩)))))
  ld:=h.ld
  dj:=h.dj
  djl:=h.djl
  xl:=hR
  kp:=λw2 h2=>h.kp w2 ((hl.fr.mono λb hb _=>.inr hb).trans h2 λb hb hlt=>hb.imp id λhb=>(hl.own b hb).resolve_right (by omega)) }
theorem Duo.act1 (h:Duo w0 w S Sr p f F n d σ L R) {i:Nat} {v:Value} {args:Array Value} (hc:Calls prog i args w (yXo R.own w L v d')) (hi:Inv p f d') (hz:Sz F m d'):Calls prog i args w λe w'=>e=.returned v/\Fr L.own w w'/\∃L',Duo w0 w' S Sr p f F m d' σ L' R:=by
 refine hc.mono ?_
 rintro e w2 ⟨rfl,L2,h2,hl⟩
 have tL:=h.pu.size
 refine⟨rfl,hl.fr,L2,hl.ptr.trans h.S,h.Sr,h2,h.rf.side hl h.dj λb hb=>h2.own_lt hb,λb hb hr=>?_,hi,hz,h.pu.andNew hl.fr h.ol,λb hb=>(hl.own b hb).elim (h.ol b) λhb=>by omega,h.or_⟩
 rcases hl.own b hb with hb|hb
 ·exact h.dj b hb hr
 ·have:=h.rf.own_lt hr;omega
theorem Duo.act2 (h:Duo w0 w S Sr p f F n d σ L R) {i:Nat} {v:Value} {args:Array Value} (hc:Calls prog i args w (zJD L.own w R v σ')):Calls prog i args w λe w'=>e=.returned v/\Fr R.own w w'/\∃R',Duo w0 w' S Sr p f F n d σ' L R':=by
 refine hc.mono ?_
 rintro e w2 ⟨rfl,R2,h2,hl⟩
 have tL:=h.pu.size
 refine⟨rfl,hl.fr,R2,h.S,hl.ptr.trans h.Sr,h.st.side hl h.dj λb hb=>h2.own_lt hb,h2,λb hb hr=>?_,h.inv,h.sz,h.pu.andNew hl.fr h.or_,h.ol,λb hb=>(hl.own b hb).elim (h.or_ b) λhb=>by omega⟩
 rcases hl.own b hr with hr|hr
 ·exact h.dj b hb hr
 ·have:=h.st.own_lt hb;omega
def zKa(x:zXB)(a:Act)(d:Dat):Dat:=
 if a.op=0 then d.begin else if a.op=1 then d.end_ else if a.op=2 then d.back else if a.op=3 then d.app (zVh x a.b)else if a.op=4 then d.put a.a (zVh x a.b)else if a.op=5 then d.mark a.a (a.c != 0)else if a.op=6 then d.set a.a a.s (zW4 x a.b)else d.clean
theorem yK1(h:Duo w0 w S Sr p f F n d d.σ L R)(hx:yVt w0 x s)(hF:F.1.length<=400000000/\F.2.length<=400000000)(hn:n<=99)(a:Act) :
  Calls prog 17 #[.pointer (some ⟨S,0,none⟩),.pointer (some ⟨Sr,0,none⟩),scA x s,actA a] w λe w'=>e=.returned (.bool true)/\∃L' R',Duo w0 w' S Sr p f F (n+1) (zKa x a d) (zKa x a d).σ L' R':=by
 have hfit:=h.sz.fit h.inv hF (by omega)
 have hdn:d.σ.done.length<=1000000:=by have:=h.sz.dn;omega
 have tK:=h.inv.l8
 refine xXK _ _ _ _ _ _ _ _ _ _ _ _ _ _ w _ (alB λw1 ar aB=>alB λw2 aq aM=>⟨a.op,cl0 aM,?_⟩)
 have aG:=ar.trans aq
 have b6:=aq.blk aB
 have h2:=h.on aG
 have x9:∀{b:Nat},w.heap.size<=b->¬L.own b:=λhb ho=>by have:=h.st.own_lt ho;omega
 refine Br.of (λc=>?_) (λc0=>Br.of (λc=>?_) (λc1=>Br.of (λc=>?_) (λc2=>Br.of (λc=>?_) (λc3=>Br.of (λc=>?_) (λc4=>Br.of (λc=>?_) (λc5=>Br.of (λc=>?_) (λc6=>?_)))))))
 ·have c:a.op=0:=by simpa using c
  have eP:zKa x a d=d.begin:=by unfold zKa;rw[if_pos c]
  rw[eP,h2.ptr]
  refine(h2.act1 (yJI h2.st h2.inv.toInvW) (zYx h2.inv) h2.sz.begin).mono ?_
  rintro e w3 ⟨rfl,_,L3,h3⟩
  refine⟨_,rfl,?_⟩
  rw[h3.ptrR]
  refine(h3.act2 (xZN h3.rf h.inv.t.ok)).mono ?_
  rintro e w4 ⟨rfl,_,R4,h4⟩
  exact⟨_,rfl,by simp,L3,R4,h4⟩
 ·have c:a.op=1:=by simpa using c
  have c0:¬a.op=0:=by simpa using c0
  have eP:zKa x a d=d.end_:=by unfold zKa;rw[if_neg c0,if_pos c]
  rw[eP,h2.ptr]
  refine(h2.act1 (end_c h2.st h2.inv hfit) (xQh h2.inv) h2.sz.end_).mono ?_
  rintro e w3 ⟨rfl,_,L3,h3⟩
  refine⟨_,rfl,?_⟩
  rw[h3.ptrR]
  refine(h3.act2 (rend_c h3.rf h.inv.t.ok h.inv.ne hdn (by omega))).mono ?_
  rintro e w4 ⟨rfl,_,R4,h4⟩
  refine⟨_,rfl,by simp,L3,R4,?_⟩
  rw[Dat.end_σ];exact h4
 ·have c:a.op=2:=by simpa using c
  have c0:¬a.op=0:=by simpa using c0
  have c1:¬a.op=1:=by simpa using c1
  have eP:zKa x a d=d.back:=by unfold zKa;rw[if_neg c0,if_neg c1,if_pos c]
  rw[eP,h2.ptr]
  refine(h2.act1 (xYc h2.st h2.inv.l8) (yKu h2.inv) h2.sz.back).mono ?_
  rintro e w3 ⟨rfl,_,L3,h3⟩
  refine⟨_,rfl,?_⟩
  rw[h3.ptrR]
  refine(h3.act2 (kQw h3.rf (by omega))).mono ?_
  rintro e w4 ⟨rfl,_,R4,h4⟩
  exact⟨_,rfl,by simp,L3,R4,h4⟩
 ·have c:a.op=3:=by simpa using c
  have eP:zKa x a d=d.app (zVh x a.b):=by unfold zKa;rw[c];rfl
  rw[eP]
  refine⟨_,cl b6 0,s.f,cl b6 1,s.r,cl b6 2,s.rs,cl b6 3,s.vs,cl b6 4,s.ac,cl b6 5,a.b,cl aM 2,(yX1 hx h2.pu a.b).mono ?_⟩
  rintro e w3 ⟨q,rfl,hq,au⟩
  refine⟨_,q,rfl,?_⟩
  have h3:=h2.on au
  have keep:∀{wz:World},Pu w0 wz->∀{B:Nat->Prop},(∀b,B b->w0.heap.size<=b)->∀w2,Fr B wz w2->zX3 w2 q (zVh x a.b).v:=λhz B hB w2 h2=>hq.pu (hz.andNew h2 hB)
  rw[h3.ptr]
  refine(h3.act1 (app_c h3.st h3.inv hfit (keep h3.pu h3.ol)) (kQx h3.inv _) (h3.sz.app _)).mono ?_
  rintro e w4 ⟨rfl,gi,L4,h4⟩
  have qY:=gi.blk (au.blk b6) (x9 (Nat.le_refl _))
  have ya:=gi.blk (au.blk aM) (x9 ar.size)
  refine⟨_,_,rfl,_,cl qY 0,s.f,cl qY 1,s.r,cl qY 2,s.rs,cl qY 3,s.vs,cl qY 4,s.ac,cl qY 5,a.b,cl ya 2,(yX1 hx h4.pu a.b).mono ?_⟩
  rintro e w5 ⟨q',rfl,hq',aR⟩
  have h5:=h4.on aR
  refine⟨_,q',rfl,?_⟩
  rw[h5.ptrR]
  refine(h5.act2 (rapp_c h5.rf h.inv hdn (hq'.pu h5.pu))).mono ?_
  rintro e w6 ⟨rfl,_,R6,h6⟩
  refine⟨_,_,rfl,Br.of (λ_=>⟨by simp,L4,R6,?_⟩) (λc=>by simp at c)⟩
  rw[Dat.app_σ];exact h6
 ·have c:a.op=4:=by simpa using c
  have eP:zKa x a d=d.put a.a (zVh x a.b):=by unfold zKa;rw[c];rfl
  rw[eP]
  refine zQc λw9 cx _=>?_
  have yb:=cx.blk b6
  have sT:=cx.blk aM
  have h9:=h2.on cx
  refine⟨λu=>u.heap[w.heap.size]?=some (.cells (scC x s).toArray 41)/\u.heap[w1.heap.size]?=some (.cells a.vals.toArray 48),⟨yb,sT⟩,a.a,λu hu=>cl hu.2 1,x.t.page,λu hu=>cl hu.1 0,s.f,λu hu=>cl hu.1 1,s.r,λu hu=>cl hu.1 2,s.rs,λu hu=>cl hu.1 3,s.vs,λu hu=>cl hu.1 4,s.ac,λu hu=>cl hu.1 5,a.b,λu hu=>cl hu.2 2,a.a,λu hu=>cl hu.2 1,x.t.page,λu hu=>cl hu.1 0,s.f,λu hu=>cl hu.1 1,s.r,λu hu=>cl hu.1 2,s.rs,λu hu=>cl hu.1 3,s.vs,λu hu=>cl hu.1 4,s.ac,λu hu=>cl hu.1 5,a.b,λu hu=>cl hu.2 2,(yX1 hx h9.pu a.b).mono ?_⟩
  rintro e w3 ⟨q,rfl,hq,au⟩
  have h3:=h9.on au
  refine⟨_,q,rfl,⟨au.blk yb,au.blk sT⟩,?_⟩
  rw[h3.ptr]
  refine(h3.act1 (put_c h3.st h3.inv hfit a.a (λw2 h2=>hq.pu (h3.pu.andNew h2 h3.ol))) (kQy h3.inv _ _) (h3.sz.put _ _)).mono ?_
  rintro e w4 ⟨rfl,gi,L4,h4⟩
  have qY:=gi.blk (au.blk yb) (x9 (Nat.le_refl _))
  have ya:=gi.blk (au.blk sT) (x9 ar.size)
  refine⟨_,rfl,⟨qY,ya⟩,(yX1 hx h4.pu a.b).mono ?_⟩
  rintro e w5 ⟨q',rfl,hq',aR⟩
  have h5:=h4.on aR
  refine⟨_,q',rfl,⟨aR.blk qY,aR.blk ya⟩,?_⟩
  rw[h5.ptrR]
  refine(h5.act2 (kQ0 h5.rf h.inv hdn a.a (hq'.pu h5.pu))).mono ?_
  rintro e w6 ⟨rfl,_,R6,h6⟩
  refine⟨_,rfl,by simp,L4,R6,?_⟩
  rw[Dat.put_σ];exact h6
 ·have c:a.op=5:=by simpa using c
  have eP:zKa x a d=d.mark a.a (a.c != 0):=by unfold zKa;rw[c];rfl
  rw[eP]
  refine zQc λw9 cx _=>?_
  have sT:=cx.blk aM
  have h9:=h2.on cx
  refine⟨λu=>u.heap[w1.heap.size]?=some (.cells a.vals.toArray 48),sT,a.a,λu hu=>cl hu 1,a.c,λu hu=>cl hu 3,a.a,λu hu=>cl hu 1,a.c,λu hu=>cl hu 3,?_⟩
  rw[h9.ptr]
  refine(h9.act1 (mark_c h9.st h9.inv hfit a.a (a.c != 0)) (xJI h9.inv _ _) (h9.sz.mark _ _)).mono ?_
  rintro e w4 ⟨rfl,gi,L4,h4⟩
  refine⟨_,rfl,gi.blk sT (x9 ar.size),?_⟩
  rw[h4.ptrR]
  refine(h4.act2 (xY5 h4.rf h.inv hdn a.a (a.c != 0))).mono ?_
  rintro e w6 ⟨rfl,_,R6,h6⟩
  refine⟨_,rfl,by simp,L4,R6,?_⟩
  rw[Dat.mark_σ];exact h6
 ·have c:a.op=6:=by simpa using c
  have eP:zKa x a d=d.set a.a a.s (zW4 x a.b):=by unfold zKa;rw[c];rfl
  rw[eP]
  refine zQc λw9 cx _=>?_
  have yb:=cx.blk b6
  have sT:=cx.blk aM
  have h9:=h2.on cx
  refine⟨λu=>u.heap[w.heap.size]?=some (.cells (scC x s).toArray 41)/\u.heap[w1.heap.size]?=some (.cells a.vals.toArray 48),⟨yb,sT⟩,a.a,λu hu=>cl hu.2 1,a.s,λu hu=>cl hu.2 4,x.t.page,λu hu=>cl hu.1 0,s.f,λu hu=>cl hu.1 1,s.r,λu hu=>cl hu.1 2,s.rs,λu hu=>cl hu.1 3,s.vs,λu hu=>cl hu.1 4,s.ac,λu hu=>cl hu.1 5,a.b,λu hu=>cl hu.2 2,a.a,λu hu=>cl hu.2 1,a.s,λu hu=>cl hu.2 4,x.t.page,λu hu=>cl hu.1 0,s.f,λu hu=>cl hu.1 1,s.r,λu hu=>cl hu.1 2,s.rs,λu hu=>cl hu.1 3,s.vs,λu hu=>cl hu.1 4,s.ac,λu hu=>cl hu.1 5,a.b,λu hu=>cl hu.2 2,(xQ8 hx h9.pu a.b).mono ?_⟩
  rintro e w3 ⟨rfl,au⟩
  have h3:=h9.on au
  refine⟨_,_,_,rfl,⟨au.blk yb,au.blk sT⟩,?_⟩
  rw[h3.ptr]
  refine(h3.act1 (xYG h3.st h3.inv hfit a.a a.s (zW4 x a.b)) (yJ3 h3.inv _ _ _) (h3.sz.set _ _ _)).mono ?_
  rintro e w4 ⟨rfl,gi,L4,h4⟩
  have qY:=gi.blk (au.blk yb) (x9 (Nat.le_refl _))
  have ya:=gi.blk (au.blk sT) (x9 ar.size)
  refine⟨_,rfl,⟨qY,ya⟩,(xQ8 hx h4.pu a.b).mono ?_⟩
  rintro e w5 ⟨rfl,aR⟩
  have h5:=h4.on aR
  refine⟨_,_,_,rfl,⟨aR.blk qY,aR.blk ya⟩,?_⟩
  rw[h5.ptrR]
  refine(h5.act2 (rset_c h5.rf h.inv hdn a.a a.s (zW4 x a.b))).mono ?_
  rintro e w6 ⟨rfl,_,R6,h6⟩
  refine⟨_,rfl,by simp,L4,R6,?_⟩
  rw[Dat.set_σ];exact h6
 ·have c0:¬a.op=0:=by simpa using c0
  have c1:¬a.op=1:=by simpa using c1
  have c2:¬a.op=2:=by simpa using c2
  have c3:¬a.op=3:=by simpa using c3
  have c4:¬a.op=4:=by simpa using c4
  have c5:¬a.op=5:=by simpa using c5
  have c6:¬a.op=6:=by simpa using c6
  have eP:zKa x a d=d.clean:=by unfold zKa;rw[if_neg c0,if_neg c1,if_neg c2,if_neg c3,if_neg c4,if_neg c5,if_neg c6]
  rw[eP,h2.ptr]
  refine(h2.act1 (xY6 h2.st h2.inv hfit) (xQG h2.inv) (h2.sz.clean h2.inv)).mono ?_
  rintro e w3 ⟨rfl,_,L3,h3⟩
  refine⟨_,rfl,?_⟩
  rw[h3.ptrR]
  refine(xZ8 h3.rf).mono ?_
  rintro e w4 ⟨rfl,aK⟩
  refine⟨_,rfl,by simp,L3,R,?_⟩
  rw[Dat.clean_σ];exact h3.on aK
end Go.Proofs.YtaeecpjhfmcliaaGreatDoor
/- The log: a script is begun, and played. No condition but those stated. -/
namespace Go.Proofs.YtaeecpjhfmcliaaGreatDoor
open Go.Sh Go.RowKit Tryz
variable {w0 w w' : World} {X : Nat -> Prop} {S Sr n m : Nat} {p : Int} {f : List Fld} {F : Fls} {d d' : Dat} {σ σ' : Sto} {L L' : SL} {R R' : RL} {x : zXB} {s : ScV} {mu : Int}
theorem zQH.reX{Y:Nat->Prop}(h:zQH X w L d mu)(hp:Pu w w')(hY:∀b,Y b->b<w'.heap.size)(hk:∀b,Y b->b<w.heap.size->X b):zQH Y w' L d mu:=
 let h1:=h.pu hp
 {
  st:=h1.st,lv:=h1.lv,dn:=h1.dn,wr:=h1.wr,pt:=h1.pt,now:=h1.now,ll:=h1.ll,dl:=h1.dl,wl:=h1.wl,lvs:=h1.lvs,ld:=h1.ld,dj:=h1.dj,djl:=h1.djl,xl:=hY
  kp:=λw2 h2=>h.kp w2 ((Fr.pu hp:Fr (λb=>L.own b∨X b) w w').trans h2 λb hb hlt=>hb.imp id λhb=>hk b hb hlt) }
theorem Duo.alone(h:Duo w0 w S Sr p f F n d σ L R):KnS (λ_=>False) w0 w S p f F n d L:=⟨h.S,h.st.reX (Pu.refl _) (λb hb=>hb.elim) (λb hb=>hb.elim),h.inv,h.sz,h.pu,h.ol⟩
theorem yZ5{t:Tbl}(hv:zQf t=0):(zQj t,([]:List UInt8)).1.length<=400000000/\(zQj t,([]:List UInt8)).2.length<=400000000:=⟨by have:=zZK (zJg.of hv);show(zQj t).length<=_;omega,by show 0<=_;omega⟩
def BegR(w:World)(x:zXB):Rt:=λe w'=>Pu w w'/\((zQf x.t ≠ 0/\e=.returned (.tuple #[.pointer none,.pointer none,.bool true]))∨zQf x.t=0/\∃S Sr L R,e=.returned (.tuple #[.pointer (some ⟨S,0,none⟩),.pointer (some ⟨Sr,0,none⟩),.bool true])/\
 Duo w w' S Sr x.t.page x.t.fields (zQj x.t,[]) 0 (Dat.new x.t (zQj x.t,[])) (Dat.new x.t (zQj x.t,[])).σ L R)
theorem kQa {t:Tbl} {f r:SV} {w1 w2:World} (hv:zQf t=0) (h1:zQH (λ_=>False) w1 L (Dat.new t (zQj t,[])) 0) (ho:∀b,L.own b->w.heap.size<=b) (hp:Pu w w1) (aq:Pu w1 w2) (h2:zQO L.own w2 R (Sto.new t)) (hR:∀b,R.own b->w1.heap.size<=b) :
  Duo w w2 L.S R.S t.page t.fields (zQj t,[]) 0 (Dat.new t (zQj t,[])) (Dat.new t (zQj t,[])).σ L R:=
 ⟨rfl,rfl,h1.reX aq (λb hb=>h2.own_lt hb) (λb hb hlt=>by have:=hR b hb;omega),h2,λb hb hr=>by have:=h1.own_lt hb;have:=hR b hr;omega,zY3 hv (yXa hv),Sz.new _ _,hp.trans aq,ho,λb hb=>by have:=hR b hb;have:=hp.size;omega⟩
theorem kQd(h:yVt w x s)(hl:Lim.ok x.t.fields):Calls prog 16 #[scA x s] w (BegR w x):=by
 refine yY7 _ _ _ _ _ _ w _ (alB λw1 ar aB=>⟨_,cl aB 0,s.f,cl aB 1,s.r,cl aB 2,(new_c (X:=λ_=>False) (h.t.pu ar) hl λb hb=>hb.elim).mono ?_⟩)
 rintro e w2 ⟨aq,⟨hv,rfl⟩|⟨hv,q,rfl,L,rfl,h2,ho⟩⟩
 ·have b2:=aq.blk aB
  refine⟨_,_,rfl,_,cl b2 0,s.f,cl b2 1,s.r,cl b2 2,(xQa (X:=λ_=>False) (h.t.pu (ar.trans aq)) λb hb=>hb.elim).mono ?_⟩
  rintro e w3 ⟨au,⟨_,rfl⟩|⟨hv',_⟩⟩
  ·have hne:(true == (zQf x.t != 0))=true:=by simp[hv]
   exact⟨_,_,rfl,Br.of (λc=>by simp at c) λ_=>⟨true,w3,zXW kQ2 _ _ none w3,Br.of (λc=>by rw[hne]at c;cases c) λ_=>⟨(ar.trans aq).trans au,.inl ⟨hv,rfl⟩⟩⟩⟩
  ·exact absurd hv' hv
 ·have b2:=aq.blk aB
  refine⟨_,_,rfl,_,cl b2 0,s.f,cl b2 1,s.r,cl b2 2,(xQa (X:=L.own) (h.t.pu (ar.trans aq)) λb hb=>h2.own_lt hb).mono ?_⟩
  rintro e w3 ⟨au,⟨hv',_⟩|⟨_,q,rfl,R,rfl,h3,hR⟩⟩
  ·exact absurd hv hv'
  ·refine⟨_,_,rfl,Br.of (λc=>by cases c) λ_=>⟨false,w3,zXW kQ2 _ _ (some _) w3,Br.of (λc=>by cases c) λ_=>⟨(ar.trans aq).trans au,.inr ⟨hv,L.S,R.S,L,R,rfl,?_⟩⟩⟩⟩
   exact kQa (f:=s.f) (r:=s.r) hv h2 (λb hb=>by have:=ho b hb;have:=ar.size;omega) (ar.trans aq) au h3 hR
def ToR(w:World)(x:zXB):Rt:=λe w'=>Pu w w'/\((zQf x.t ≠ 0/\e=.returned (.tuple #[.pointer none,.bool true]))∨zQf x.t=0/\∃S L d,e=.returned (.tuple #[.pointer (some ⟨S,0,none⟩),.bool true])/\
 KnS (λ_=>False) w w' S x.t.page x.t.fields (zQj x.t,[]) x.acts.length d L)
theorem xZs(h:yVt w x s)(hl:Lim.ok x.t.fields)(yL:x.acts.length<=80):Calls prog 31 #[scA x s] w (ToR w x):=by
 have hal:=h.ac.len
 refine yY8 _ _ _ _ _ _ w _ (alB λw1 ar aB=>⟨_,cl aB 0,s.f,cl aB 1,s.r,cl aB 2,s.rs,cl aB 3,s.vs,cl aB 4,s.ac,cl aB 5,(kQd (h.pu ar) hl).mono ?_⟩)
 have z1:=ar.size
 rintro e w2 ⟨aq,⟨hv,rfl⟩|⟨hv,S,Sr,L,R,rfl,hD⟩⟩
 ·exact⟨_,_,_,rfl,Br.of (λc=>by cases c) λ_=>⟨true,w2,zXW kQ2 _ _ none w2,Br.of (λ_=>⟨ar.trans aq,.inl ⟨hv,rfl⟩⟩) λc=>by cases c⟩⟩
 ·refine⟨_,_,_,rfl,Br.of (λc=>by cases c) λ_=>⟨false,w2,zXW kQ2 _ _ (some _) w2,Br.of (λc=>by cases c) λ_=>?_⟩⟩
  refine zQw x.acts.length (λk u w'=>u=(k:Int)/\∃L R d,Duo w1 w' S Sr x.t.page x.t.fields (zQj x.t,[]) k d d.σ L R) ⟨rfl,L,R,_,hD⟩ ?_
  rintro k J u wa hk ⟨hu,La,Ra,da,hDa⟩ hJ
  obtain rfl:u=(k:Int):=hu
  have ba:=hDa.pu.blk aB
  refine⟨s.ac,cl ba 5,Br.of (λc=>zQc λwb hpb _=>?_) (λc=>?_)⟩
  ·have hkn:k<x.acts.length:=by have:=zQk c;omega
   obtain⟨a,ha⟩:=zQM hkn
   have hDb:=hDa.on hpb
   have bb:=hpb.blk ba
   obtain⟨ad,had,hadl,_,c0,c1,c2,c3,c4,c5⟩:=xYw (h.ac.pu (ar.trans hDb.pu)) ha
   refine⟨_,cl bb 0,s.f,cl bb 1,s.r,cl bb 2,s.rs,cl bb 3,s.vs,cl bb 4,s.ac,cl bb 5,s.ac,cl bb 5,ad,had,by omega,by omega,?_⟩
   rw[zXj]
   refine⟨_,c0,_,c1,_,c2,_,c3,_,c4,_,c5,(yK1 hDb (h.pu ar) (yZ5 hv) (by omega) a).mono ?_⟩
   rintro e wc ⟨rfl,L',R',hDc⟩
   refine⟨_,rfl,Br.of (λc=>by cases c) λ_=>?_⟩
   rw[zQa (by omega) (by omega)]
   exact hJ _ _ hkn ⟨rfl,L',R',_,hDc⟩
  ·have hkn:k=x.acts.length:=by have:=zQd c;omega
   subst hkn
   have hK:=hDa.alone
   exact⟨ar.trans hDa.pu,.inr ⟨hv,S,La,da,rfl,hK.S,hK.at_,hK.inv,hK.sz,ar.trans hK.pu,λb hb=>by have:=hK.own b hb;omega⟩⟩
end Go.Proofs.YtaeecpjhfmcliaaGreatDoor
