import Derived.Test.YtaeecpjhfmcliaaGreatDoorLgOwH
import Derived.Test.YtaeecpjhfmcliaaGreatDoorLgPrB
import Derived.Test.YtaeecpjhfmcliaaGreatDoorLgOwG
import Derived.Test.YtaeecpjhfmcliaaGreatDoorLgPrC
/- The log: transactions are begun, ended and taken back. No condition but those stated. -/
set_option maxRecDepth 100000
set_option linter.unusedVariables false
set_option linter.unusedSimpArgs false
namespace Go.Proofs.YtaeecpjhfmcliaaGreatDoor
open Go.Sh Go.RowKit Tryz
variable {w0 w w' : World} {X : Nat -> Prop} {L L' : SL} {d d' : Dat} {mu : Int} {p : Int} {f : List Fld}
theorem zQF.st1S (h:zQF X w L d mu) {o:Nat} {v:Value} {K:World->Prop} (ho:o<11) (hK:∀w2,w2.heap[L.S]?=some (.cells ((zJX mu L).setIfInBounds o v) 108)->Fr (·=L.S) w w2->K w2):st1 ((⟨L.S,0,none⟩:Addr).add o) v w K:=by
 rw[zQs,Nat.zero_add]
 exact zQu h.st ho λw2 mP aN=>hK w2 aN (by rw[mP];exact Fr.cell w _ _ _)
def yXg(X:Nat->Prop)(w:World)(L:SL)(v:Value)(d':Dat):Rt:=λe w'=>e=.returned v/\∃L',zQF X w' L' d' 0/\zXY w w' L L'
theorem zXK{v:Value}(h:zQF X w L d 1)(hl:zXY w0 w L' L):zQb prog [zZn L] w λw2=>yXg X w0 L' v d (.returned v) w2:=yWe h hl λw3 h3 h4 _=>⟨rfl,L,h3,h4⟩
theorem zXW{v:Value}{L0:SL}(h:zQF X w L d 1)(hl:zXY w0 w L0 L)(hp:L0.S=L.S):zQb prog [zZn L0] w λw2=>yXg X w0 L0 v d (.returned v) w2:=by
 have:zZn L0=zZn L:=by unfold zZn SL.ptr;rw[hp]
 rw[this];exact zXK h hl
theorem yJy(h:zQF X w L d 0)(hi:InvW p f d):Calls prog 35 #[L.ptr] w (yXg X w L (.int .i64 (zKa d.σ)) d.begin):=by
 have hlv:=h.lv.len zQt (by decide)
 have hll:=h.ll
 have h8:=hi.l8
 refine yYL _ w _ ((zXd h (Pu.refl w)).mono ?_)
 rintro e w1 ⟨rfl,hI,hf,hs⟩
 have h1:=hI.at_ h
 refine⟨_,_,rfl,zZT (Br.of (λc=>by cases c) λ_=>⟨L.lv,h1.cellA 5,Br.of (λc=>?_) (λc=>?_)⟩)⟩
 ·have c:8<=d.σ.lev.length:=by have:=zQj c;omega
  have e1:zKa d.σ=3:=by unfold zKa;rw[if_pos c]
  have e2:d.begin=d:=by unfold Dat.begin Dat.to zZU;rw[if_pos c]
  rw[e1,e2]
  exact zXK h1 hI.left
 ·have c:¬8<=d.σ.lev.length:=by have:=zQd c;omega
  have e1:zKa d.σ=0:=by unfold zKa;rw[if_neg c]
  have e2:d.begin={ d with σ:={ d.σ with lev:=d.σ.lev ++ [d.σ.t] } }:=by unfold Dat.begin Dat.to zZU;rw[if_neg c]
  rw[e1,e2]
  refine zQc λw5 aT _=>?_
  have h5:=h1.pu aT
  refine⟨λu=>Pu w5 u,Pu.refl _,L.lv,λu hu=>(h5.pu hu).cellA 5,_,λu hu=>(h5.pu hu).cellB 2 0,L.now.f,λu hu=>(h5.pu hu).cellB 2 1,L.now.r,λu hu=>(h5.pu hu).cellB 2 2,?_⟩
  rw[h5.now.page]
  refine(zJR (h5.rdNow hi.t.ok) hi.t.ok).mono ?_
  rintro e w8 ⟨q,rfl,hq,bW⟩
  refine⟨q.page,q.f,q.r,rfl,bW,alB λw9 cE nU=>⟨bW.trans cE,?_⟩⟩
  obtain⟨s,aP,hr,hst⟩:=h5.pushLev (bW.trans cE) (hq.pu cE) hi.t.ok nU (by omega) (K:=λaQ=>zQb prog [zZn L] aQ λaJ=>yXg X w L (.int .i64 0) { d with σ:={ d.σ with lev:=d.σ.lev ++ [d.σ.t] } } (.returned (.int .i64 0)) aJ) λaQ L1 mT pD=>
   zXW mT ((hI.left.trans (zXY.pu aT L)).trans pD) pD.ptr.symm
  exact⟨s,aP,hr,hst⟩
theorem yZw{e:TypeId}{sz:Nat}{s:SV}{vs:List Value}{n:Nat}(h:zQl w e sz s vs)(hn:n<=s.len)(ha:s.a ≠ none):zQl w e sz ⟨s.a,n,s.cap⟩ (vs.take (n * sz)):=by
 obtain⟨h1,hd|⟨g,cur,h3,h4,h5,h6,h7,h8⟩⟩:=h
 ·rw[hd]at ha;exact absurd rfl ha
 ·have hm:n * sz<=s.len * sz:=Nat.mul_le_mul_right _ hn
  refine⟨by rw[List.length_take,h1];exact Nat.min_eq_left hm,.inr ⟨g,cur,h3,h4,Nat.le_trans hn h5,h6,h7,?_⟩⟩
  rw[←h8,List.take_take,Nat.min_eq_left hm]
theorem yQS {α:Type} {l:List α} (h:l ≠ []):∃l0 x,l=l0 ++ [x]:=⟨l.dropLast,l.getLast h,(List.dropLast_concat_getLast h).symm⟩
structure yKc(L:SL)(d:Dat)(l0:List HT)(x:HT)(v0:List Tbl)(t:Tbl):Prop where
 lh:L.lh=l0 ++ [x]
 lev:d.σ.lev=v0 ++ [t]
def SL.pop(L:SL)(l0:List HT):SL:={ L with lv:=⟨L.lv.a,L.lv.len - 1,L.lv.cap⟩,lh:=l0 }
theorem yYK {l0:List HT} {x:HT} (h:L.lh=l0 ++ [x]) {b:Nat} (hb:(L.pop l0).own b):L.own b:=by
 rcases hb with hb|hb|hb|hb|hb|⟨z,hz,hb⟩
 ·exact .inl hb
 ·exact .inr (.inl hb)
 ·exact .inr (.inr (.inl hb))
 ·exact .inr (.inr (.inr (.inl hb)))
 ·exact .inr (.inr (.inr (.inr (.inl hb))))
 ·refine .inr (.inr (.inr (.inr (.inr ⟨z,?_,hb⟩))))
  have hz:z ∈ L.now :: l0:=hz
  rcases List.mem_cons.1 hz with rfl|hz
  ·exact List.mem_cons_self
  ·rw[h];exact List.mem_cons_of_mem _ (List.mem_append_left _ hz)
theorem pop_row(h:zQF X w L d mu){l0:List HT}{x:HT}{v0:List Tbl}{t:Tbl}(hP:yKc L d l0 x v0 t):zQl w 35 3 ⟨L.lv.a,L.lv.len - 1,L.lv.cap⟩ (l0.flatMap zVE):=by
 have hl:=h.lv.len zQt (by decide)
 have hll:L.lh.length=l0.length+1:=by rw[hP.lh];simp
 have ha:L.lv.a ≠ none:=by
  obtain⟨_,hd|⟨g,cur,h3,_⟩⟩:=h.lv
  ·rw[hd]at hl
   have hl:0=L.lh.length:=hl
   omega
  ·rw[h3];simp
 have h1:=yZw h.lv (n:=L.lv.len - 1) (by omega) ha
 rw[hP.lh,List.flatMap_append,show L.lv.len - 1=l0.length by omega]at h1
 have e:(l0.flatMap zVE).length=l0.length * 3:=zQ3 zQt l0
 rw[←e,List.take_left]at h1
 rw[show L.lv.len - 1=l0.length by omega]
 exact h1
theorem zQF.pop (h:zQF X w L d mu) {l0:List HT} {x:HT} {v0:List Tbl} {t:Tbl} (hP:yKc L d l0 x v0 t) (hf:Fr (·=L.S) w w') {mu':Int} (hst:w'.heap[L.S]?=some (.cells (zJX mu' (L.pop l0)) 108)):zQF X w' (L.pop l0) { d with σ:={ d.σ with lev:=v0 } } mu':=by
 have hr:=pop_row h hP
 have hll:l0.length=v0.length:=by
  have:=h.ll
  rw[hP.lh,hP.lev]at this;simpa using this
 have at0:∀{i:Nat} {y:HT},l0[i]?=some y->L.lh[i]?=some y:=λ{i y} hy=>by rw[hP.lh,List.getElem?_append_left (List.getElem?_eq_some_iff.1 hy).1];exact hy
 have wZ:∀{i:Nat} {y:Tbl},v0[i]?=some y->d.σ.lev[i]?=some y:=λ{i y} hy=>by rw[hP.lev,List.getElem?_append_left (List.getElem?_eq_some_iff.1 hy).1];exact hy
 refine⟨hst,hr.fr hf λb hb e=>hr.other h.st (by decide) (by rw[←show b=L.S from e];exact hb),h.dn.fr hf λb hb e=>h.dn.other h.st (by decide) (by rw[←show b=L.S from e];exact hb),h.wr.fr hf λb hb e=>h.wr.other h.st (by decide) (by rw[←show b=L.S from e];exact hb),h.pt.fr hf λb hb e=>h.pt.other h.st (by decide) (by rw[←show b=L.S from e];exact hb),
  h.now.fr hf λb hb e=>h.now.other h.st (by decide) (by decide) (by rw[←show b=L.S from e];exact hb),hll,h.dl,h.wl,λi y u hy hu=>(h.lvs i y u (at0 hy) (wZ hu)).fr hf λb hb e=>(h.lvs i y u (at0 hy) (wZ hu)).other h.st (by decide) (by decide) (by rw[←show b=L.S from e];exact hb),h.ld,λy hy=>h.dj y (by rw[hP.lh];exact List.mem_append_left _ hy),λi j y z hij hy hz=>h.djl i j y z hij (at0 hy) (at0 hz),λb hb=>Nat.lt_of_lt_of_le (h.xl b hb) hf.size,λw2 h2=>?_⟩
 have k:=h.kp w2 ((hf.mono λb hb _=>.inl (.inl hb)).trans h2 λb hb _=>hb.imp (yYK hP.lh) id)
 exact⟨k.nf,λi y u hy hu=>k.lf i y u (at0 hy) (wZ hu),k.dt,k.fi,k.la,k.wb⟩
def SL.undo(L:SL)(l0:List HT)(x:HT):SL:={ L with lv:=⟨L.lv.a,L.lv.len - 1,L.lv.cap⟩,lh:=l0,now:=x }
theorem yKf {l0:List HT} {x:HT} (h:L.lh=l0 ++ [x]) {b:Nat} (hb:(L.undo l0 x).own b):L.own b:=by
 rcases hb with hb|hb|hb|hb|hb|⟨z,hz,hb⟩
 ·exact .inl hb
 ·exact .inr (.inl hb)
 ·exact .inr (.inr (.inl hb))
 ·exact .inr (.inr (.inr (.inl hb)))
 ·exact .inr (.inr (.inr (.inr (.inl hb))))
 ·refine .inr (.inr (.inr (.inr (.inr ⟨z,?_,hb⟩))))
  have hz:z ∈ x :: l0:=hz
  rw[h]
  rcases List.mem_cons.1 hz with rfl|hz
  ·exact List.mem_cons_of_mem _ (List.mem_append_right _ (List.mem_singleton.2 rfl))
  ·exact List.mem_cons_of_mem _ (List.mem_append_left _ hz)
theorem zQF.undo (h:zQF X w L d mu) {l0:List HT} {x:HT} {v0:List Tbl} {t:Tbl} (hP:yKc L d l0 x v0 t) (hf:Fr (·=L.S) w w') {mu':Int} (hst:w'.heap[L.S]?=some (.cells (zJX mu' (L.undo l0 x)) 108)):zQF X w' (L.undo l0 x) { d with σ:={ d.σ with t:=t,lev:=v0 } } mu':=by
 have hr:=pop_row h hP
 have hll:l0.length=v0.length:=by
  have:=h.ll
  rw[hP.lh,hP.lev]at this;simpa using this
 have at0:∀{i:Nat} {y:HT},l0[i]?=some y->L.lh[i]?=some y:=λ{i y} hy=>by rw[hP.lh,List.getElem?_append_left (List.getElem?_eq_some_iff.1 hy).1];exact hy
 have wZ:∀{i:Nat} {y:Tbl},v0[i]?=some y->d.σ.lev[i]?=some y:=λ{i y} hy=>by rw[hP.lev,List.getElem?_append_left (List.getElem?_eq_some_iff.1 hy).1];exact hy
 have lx:L.lh[l0.length]?=some x:=by rw[hP.lh,List.getElem?_append_right (Nat.le_refl _),Nat.sub_self];rfl
 have lt:d.σ.lev[l0.length]?=some t:=by rw[hP.lev,hll,List.getElem?_append_right (Nat.le_refl _),Nat.sub_self];rfl
 have hx:=h.lvs _ x t lx lt
 refine⟨hst,hr.fr hf λb hb e=>hr.other h.st (by decide) (by rw[←show b=L.S from e];exact hb),h.dn.fr hf λb hb e=>h.dn.other h.st (by decide) (by rw[←show b=L.S from e];exact hb),h.wr.fr hf λb hb e=>h.wr.other h.st (by decide) (by rw[←show b=L.S from e];exact hb),h.pt.fr hf λb hb e=>h.pt.other h.st (by decide) (by rw[←show b=L.S from e];exact hb),
  hx.fr hf λb hb e=>hx.other h.st (by decide) (by decide) (by rw[←show b=L.S from e];exact hb),hll,h.dl,h.wl,λi y u hy hu=>(h.lvs i y u (at0 hy) (wZ hu)).fr hf λb hb e=>(h.lvs i y u (at0 hy) (wZ hu)).other h.st (by decide) (by decide) (by rw[←show b=L.S from e];exact hb),h.ld,λy hy b hb hyb=>?_,λi j y z hij hy hz=>h.djl i j y z hij (at0 hy) (at0 hz),λb hb=>Nat.lt_of_lt_of_le (h.xl b hb) hf.size,λw2 h2=>?_⟩
 ·obtain⟨i,hi⟩:=List.getElem?_of_mem (show y ∈ l0 from hy)
  have:=(List.getElem?_eq_some_iff.1 hi).1
  exact h.djl l0.length i x y (by omega) lx (at0 hi) b hb hyb
 ·have k:=h.kp w2 ((hf.mono λb hb _=>.inl (.inl hb)).trans h2 λb hb _=>hb.imp (yKf hP.lh) id)
  exact⟨k.lf _ x t lx lt,λi y u hy hu=>k.lf i y u (at0 hy) (wZ hu),k.dt,k.fi,k.la,k.wb⟩
theorem yKu(h:zQF X w L d 1)(hn:d.σ.lev.length<=1000000):Calls prog 80 #[L.ptr] w λe w'=>(d.σ.lev=[]/\e=.returned (.tuple #[.agg #[.int .i64 0,.slice none 0 0,.slice none 0 0],.int .i64 9])/\Pu w w') ∨
  ∃l0 x v0 t,yKc L d l0 x v0 t/\e=.returned (.tuple #[.agg #[.int .i64 x.page,slV x.f,slV x.r],.int .i64 0])/\Fr (·=L.S) w w'/\w'.heap[L.S]?=some (.cells (zJX 1 (L.pop l0)) 108):=by
 have hlv:=h.lv.len zQt (by decide)
 have hll:=h.ll
 have hS:=h.S_lt
 refine xX3 _ w _ (alB λw1 ar aA=>?_)
 have h1:=h.pu ar
 refine⟨L.lv,h1.cellA 5,Br.of (λc=>?_) (λc=>?_)⟩
 ·have c:L.lv.len=0:=by simpa using c
  refine zQg aA zK8.symm rfl rfl λw3 bo fS _=>⟨_,cl bo 0,⟨none,0,0⟩,cl bo 1,⟨none,0,0⟩,cl bo 2,.inl ⟨List.eq_nil_of_length_eq_zero (by omega),rfl,ar.andNew fS λi hi=>by rw[show i=_ from hi];exact Nat.le_refl _⟩⟩
 ·have c:¬L.lv.len=0:=by simpa using c
  obtain⟨l0,x,hlh⟩:=yQS (l:=L.lh) (λe=>by rw[e]at hlv;simp at hlv;omega)
  obtain⟨v0,t,mN⟩:=yQS (l:=d.σ.lev) (λe=>by rw[e]at hll;simp at hll;rw[hll]at hlv;simp at hlv;omega)
  have hlen:L.lh.length=l0.length+1:=by rw[hlh];simp
  have hx:L.lh[L.lv.len - 1]?=some x:=by rw[hlh,List.getElem?_append_right (by omega),show L.lv.len - 1 - l0.length=0 by omega];rfl
  obtain⟨a,ha,hk,c0⟩:=h1.lv.elem zQt hx (o:=0) rfl
  obtain⟨a',ha',_,c1⟩:=h1.lv.elem zQt hx (o:=1) rfl
  obtain⟨a'',ha'',_,c2⟩:=h1.lv.elem zQt hx (o:=2) rfl
  rw[ha]at ha' ha'';cases ha';cases ha''
  rw[zQa (n:=((L.lv.len:Nat):Int) - 1) (by omega) (by omega),show((L.lv.len:Nat):Int) - 1=((L.lv.len - 1:Nat):Int)by omega,zXn]
  have hcap:=h1.lv.le_cap.1
  refine⟨L.lv,h1.cellA 5,a,ha,by omega,by omega,_,c0,x.f,c1,x.r,c2,alB λw7 cy ko=>zQg ko zK8.symm rfl rfl λw8 kw oa _=>?_⟩
  have mQ:Pu w1 w8:=cy.andNew oa λi hi=>by rw[show i=_ from hi];exact Nat.le_refl _
  have dP:=ar.trans mQ
  have h8:=h.pu dP
  have nX:w.heap.size<w1.heap.size:=zQy aA
  refine⟨L.lv,h8.cellA 5,by omega,by omega,by omega,?_⟩
  have esl:(if L.lv.cap=0 then L.lv.a else L.lv.a.map (λx=>x.add (0 * 3)))=L.lv.a:=by rw[if_neg (by omega),ha];show some (a.add (0 * 3))=_;rw[Nat.zero_mul,yVM]
  rw[esl,Nat.sub_zero,Nat.sub_zero]
  rw[zZc]
  refine h8.st1S (by decide) λaU il mR=>?_
  have xa:=mR.blk kw (show ¬w1.heap.size=L.S by omega)
  have b111:=mR.blk (mQ.blk aA) (show ¬w.heap.size=L.S by omega)
  refine⟨_,cl xa 0,x.f,cl xa 1,x.r,cl xa 2,zQg b111 zK8.symm rfl rfl λaQ kM eH _=>⟨_,cl kM 0,x.f,cl kM 1,x.r,cl kM 2,.inr ⟨l0,x,v0,t,⟨hlh,mN⟩,rfl,?_,?_⟩⟩⟩
  ·exact((Fr.pu dP:Fr (·=L.S) w w8).trans mR λ_ h _=>h).trans eH λb hb hlt=>by have hb:b=w.heap.size:=hb;omega
  ·exact eH.blk il (show ¬L.S=w.heap.size by omega)
theorem end_c(h:zQF X w L d 0)(hi:Inv p f d)(hs:Fit d):Calls prog 36 #[L.ptr] w (yXg X w L (.int .i64 (zJg d.σ)) d.end_):=by
 have hS:=h.S_lt
 have sK:=hi.l8
 refine xXP _ w _ ((zXd h (Pu.refl w)).mono ?_)
 rintro e w1 ⟨rfl,hI,hf,hsz⟩
 have h1:=hI.at_ h
 refine⟨_,_,rfl,zZT (Br.of (λc=>by cases c) λ_=>(yKu h1 (by omega)).mono ?_)⟩
 rintro e w3 (⟨hnil,rfl,au⟩|⟨l0,x,v0,t,hP,rfl,fS,xb⟩)
 ·refine⟨0,⟨none,0,0⟩,⟨none,0,0⟩,9,rfl,alB λw4 aK cI=>zQg cI zK8.symm rfl rfl λw5 bq dq _=>Br.of (λ_=>?_) (λc=>by cases c)⟩
  have fg:Pu w1 w5:=(au.trans aK).andNew dq λi hi=>by rw[show i=_ from hi];exact au.size
  have e1:zJg d.σ=9:=by unfold zJg;rw[if_pos hnil]
  have e2:d.end_=d:=by unfold Dat.end_;rw[if_pos hnil]
  rw[e1,e2]
  exact zXK (h1.pu fg) (hI.left.trans (zXY.pu fg L))
 ·have h3:=h1.pop hP fS xb
  have hlne:d.σ.lev ≠ []:=by rw[hP.lev];simp
  have e1:zJg d.σ=0:=by unfold zJg;rw[if_neg hlne]
  have e2:d.end_=({ d with σ:={ d.σ with lev:=v0 } }:Dat).commit:=by unfold Dat.end_ Dat.to;rw[if_neg hlne,hP.lev,List.dropLast_concat]
  have hW:InvW p f { d with σ:={ d.σ with lev:=v0 } }:=by
   have:=yXn hi
   unfold Dat.to at this
   rw[hP.lev,List.dropLast_concat]at this;exact this
  have hL3:zXY w1 w3 L (L.pop l0):=⟨fS.mono λb hb _=>.inl hb,λb hb=>.inl (yYK hP.lh hb),rfl⟩
  refine⟨x.page,x.f,x.r,0,rfl,alB λw4 aK cI=>zQg cI zK8.symm rfl rfl λw5 bq dq _=>Br.of (λc=>by cases c) (λ_=>?_)⟩
  have cx:Pu w3 w5:=aK.andNew dq λi hi=>by rw[show i=_ from hi];exact Nat.le_refl _
  refine Calls.mono (yKg (L:=L.pop l0) (h3.pu cx) hW ⟨hs.l1,hs.l2,hs.wn,hs.dn⟩) ?_
  rintro e w7 ⟨rfl,L2,h7,hL7⟩
  refine⟨rfl,?_⟩
  rw[e1,e2]
  have hL:=(hI.left.trans hL3).trans ((zXY.pu cx (L.pop l0)).trans hL7)
  exact zXW h7 hL hL.ptr.symm
end Go.Proofs.YtaeecpjhfmcliaaGreatDoor
/- The log: records are put behind, replaced, marked; values are set. No condition but those stated. -/
namespace Go.Proofs.YtaeecpjhfmcliaaGreatDoor
open Go.Sh Go.RowKit Tryz
variable {w0 w w' : World} {X : Nat -> Prop} {L L' : SL} {d d' : Dat} {mu : Int} {p : Int} {f : List Fld}
theorem yQK{L1:SL}{w1:World}{d1:Dat}(h1:zQF X w1 L1 d1 1)(hl:zXY w w1 L L1)(hW:InvW p f d1)(hs:Fit d1):Calls prog 79 #[L.ptr] w1 λe w2=>e=.returned (.tuple #[])/\∃L2,zQF X w2 L2 d1.commit 1/\zXY w w2 L L2:=by
 have e:L.ptr=L1.ptr:=by unfold SL.ptr;rw[hl.ptr]
 rw[e]
 refine(yKg h1 hW hs).mono ?_
 rintro e w2 ⟨rfl,L2,h2,xK⟩
 exact⟨rfl,L2,h2,hl.trans xK⟩
theorem stA3 {c:Array Value} {S:Nat} {v0 v1 v2:Value} {K:World->Prop} (hb:w.heap[S]?=some (.cells c 108)) (hc:c.size=11) (h0:yQR v0=true) (h1:yQR v1=true) (h2:yQR v2=true)
  (hK:∀w2,w2.heap[S]?=some (.cells (((c.setIfInBounds 2 v0).setIfInBounds 3 v1).setIfInBounds 4 v2) 108)->Fr (·=S) w w2->K w2):stA prog 35 ((⟨S,0,none⟩:Addr).add 2) #[v0,v1,v2] w K:=by
 refine⟨zK8.symm,by simp[h0,h1,h2],?_⟩
 show Sh.st1 (((⟨S,0,none⟩:Addr).add 2).add 0) v0 w _
 rw[zQs,zQs]
 refine zQu hb (by omega) λwa hwa hba=>?_
 show Sh.st1 (((⟨S,0+2,none⟩:Addr)).add 1) v1 wa _
 rw[zQs]
 refine zQu hba (by simp;omega) λwb hwb hbb=>?_
 show Sh.st1 (((⟨S,0+2,none⟩:Addr)).add 2) v2 wb _
 rw[zQs]
 refine zQu hbb (by simp;omega) λwc hwc hbc=>hK wc hbc ?_
 rw[hwc,hwb,hwa]
 exact((Fr.cell w _ _ _).trans (Fr.cell _ _ _ _) λ_ h _=>h).trans (Fr.cell _ _ _ _) λ_ h _=>h
theorem xKR(h:zQF X w L d 0)(sK:d.σ.lev.length<=8):Calls prog 37 #[L.ptr] w (yXg X w L (.int .i64 (zJg d.σ)) d.back):=by
 have hS:=h.S_lt
 refine xQd _ w _ ((zXd h (Pu.refl w)).mono ?_)
 rintro e w1 ⟨rfl,hI,hf,hsz⟩
 have h1:=hI.at_ h
 refine⟨_,_,rfl,zZT (Br.of (λc=>by cases c) λ_=>(yKu h1 (by omega)).mono ?_)⟩
 rintro e w3 (⟨hnil,rfl,au⟩|⟨l0,x,v0,t,hP,rfl,fS,xb⟩)
 ·refine⟨0,⟨none,0,0⟩,⟨none,0,0⟩,9,rfl,alB λw4 aK cI=>zQg cI zK8.symm rfl rfl λw5 bq dq _=>Br.of (λ_=>?_) (λc=>by cases c)⟩
  have fg:Pu w1 w5:=(au.trans aK).andNew dq λi hi=>by rw[show i=_ from hi];exact au.size
  have e1:zJg d.σ=9:=by unfold zJg;rw[if_pos hnil]
  have e2:d.back=d:=by unfold Dat.back Dat.to zVj;rw[if_pos hnil]
  rw[e1,e2]
  exact zXK (h1.pu fg) (hI.left.trans (zXY.pu fg L))
 ·have hlne:d.σ.lev ≠ []:=by rw[hP.lev];simp
  have e1:zJg d.σ=0:=by unfold zJg;rw[if_neg hlne]
  have e2:d.back={ d with σ:={ d.σ with t:=t,lev:=v0 } }:=by
   unfold Dat.back Dat.to zVj;rw[if_neg hlne,hP.lev,List.dropLast_concat,List.getLast?_concat];rfl
  refine⟨x.page,x.f,x.r,0,rfl,alB λw4 aK cI=>zQg cI zK8.symm rfl rfl λw5 bq dq _=>Br.of (λc=>by cases c) (λ_=>⟨_,cl bq 0,x.f,cl bq 1,x.r,cl bq 2,?_⟩)⟩
  have cx:Pu w3 w5:=aK.andNew dq λi hi=>by rw[show i=_ from hi];exact Nat.le_refl _
  rw[zZc]
  refine stA3 (cx.blk xb) rfl rfl rfl rfl λw8 kw oa=>?_
  have hf18:Fr (·=L.S) w1 w8:=(fS.trans (Fr.pu cx:Fr (·=L.S) w3 w5) λ_ h _=>h).trans oa λ_ h _=>h
  have h8:=h1.undo hP hf18 (mu':=1) kw
  have hL8:zXY w1 w8 L (L.undo l0 x):=⟨hf18.mono λb hb _=>.inl hb,λb hb=>.inl (yKf hP.lh hb),rfl⟩
  rw[e1,e2]
  exact zXW h8 (hI.left.trans hL8) rfl
theorem zY7(h:zQF X w L d mu)(hn:d.σ.t.recs.length<=1000000)(k:Int):Calls prog 81 #[L.ptr,.int .i64 k] w λe w'=>e=.returned (.bool (zXc d.σ k))/\w'=w:=by
 have hrl:=h.now.rlen
 refine yYe _ _ w _ (Br.of (λc=>⟨L.now.r,h.cellB 2 2,?_,rfl⟩) (λc=>⟨?_,rfl⟩))
 ·have c:=zQj c
  unfold zXc
  rw[hrl,decide_eq_true (show 1<=k by omega),Bool.true_and]
 ·have c:=zQd c
  unfold zXc
  rw[decide_eq_false (show ¬1<=k by omega),Bool.false_and]
theorem xVO(h:zQF X w L d mu)(hv:zQh d.σ.t=0){s:SV}{r:Rec}(hr:zX3 w s r.v):Calls prog 77 #[L.ptr,.agg #[.bool r.gone,slV s]] w λe w'=>e=.returned (.int .i64 (zQ1 d.σ.t.fields d.σ.t.page r))/\Pu w w':=by
 have hR:=zQM.of hv
 refine yYQ _ _ _ w _ (alB λw1 ar aA=>zQc λw2 aq _=>?_)
 have aE:=ar.trans aq
 have h2:=h.pu aE
 have cL:=aq.blk aA
 refine⟨λu=>Pu w2 u,Pu.refl _,d.σ.t.page,λu hu=>by rw[(h2.pu hu).cellA 2,←h.now.page];rfl,L.now.f,λu hu=>(h2.pu hu).cellB 2 1,r.gone,λu hu=>cl (hu.blk cL) 0,s,λu hu=>cl (hu.blk cL) 1,alB λw5 aT bq=>⟨aT,?_⟩⟩
 have eE:=aE.trans aT
 have hrow:zX3 w5 ⟨some ⟨w2.heap.size,0,none⟩,1,1⟩ [r]:=by
  refine⟨rfl,Nat.le_refl _,by show 1<=140737488355328;omega,λi x hx=>?_⟩
  have xh:i=0:=by have:=(List.getElem?_eq_some_iff.1 hx).1;simp at this;exact this
  subst xh
  simp at hx;subst hx
  refine⟨⟨w2.heap.size,0,none⟩,rfl,[.bool r.gone,slV s],⟨s,rfl,hr.pu eE⟩,λj v hv=>?_⟩
  rcases j with _|_|j <;> simp at hv
  ·subst hv;exact cl bq 0
  ·subst hv;exact cl bq 1
 refine(zZq (t:=⟨d.σ.t.page,d.σ.t.fields,[r]⟩) ⟨(zXz hv).page,((h.pu eE).kp0).nf,hrow⟩ (show Lim.ok d.σ.t.fields from zXH hv)).mono ?_
 rintro e w6 ⟨rfl,bE⟩
 refine⟨_,rfl,?_,eE.trans bE⟩
 congr 2
 unfold zQh
 rw[if_pos hR.page,if_neg (by rw[hR.vf];simp),if_neg (by show ¬300<1;omega)]
 show zXu d.σ.t.fields d.σ.t.page [r]=_
 unfold zXu
 split
 ·rfl
 ·rename_i hx
  have:zQ1 d.σ.t.fields d.σ.t.page r=0:=by simpa using hx
  rw[this];rfl
def RecK(w:World)(L:SL)(s:SV)(r:Rec):Prop:=∀w2,Fr L.own w w2->zX3 w2 s r.v
theorem xXq{b:Nat}(h:b ∈ zQe L.now.r∨b ∈ vBl L.now.hs):L.own b:=.inr (.inr (.inr (.inr (.inr ⟨L.now,List.mem_cons_self,h⟩))))
theorem app_c(h:zQF X w L d 0)(hi:Inv p f d)(hs:Fit d){s:SV}{r:Rec}(hr:RecK w L s r):Calls prog 34 #[L.ptr,.agg #[.bool r.gone,slV s]] w (yXg X w L (.tuple #[.int .i64 (yVO d.σ r),.int .i64 (yZJ d.σ r)]) (d.app r)):=by
 have hS:=h.S_lt
 have cJ:=(zQM.of hi.t.ok).n300
 have hrl:=h.now.rlen
 refine yY0 _ _ _ w _ (alB λw1 ar aA=>(zXd h ar).mono ?_)
 rintro e w2 ⟨rfl,hI,hf,hsz⟩
 have h2:=hI.at_ h
 have nX:w.heap.size<w1.heap.size:=zQy aA
 have b2:=hf.blk aA (show ¬w.heap.size=L.S by omega)
 have stay:∀{w3:World} (c:Int),yZJ d.σ r=c->c ≠ 0->Pu w2 w3->zQb prog [zZn L] w3 λw4=>yXg X w L (.tuple #[.int .i64 (yVO d.σ r),.int .i64 (yZJ d.σ r)]) (d.app r) (.returned (.tuple #[.int .i64 0,.int .i64 c])) w4:=λ{w3} c hc h0 hp=>by
  have e1:yVO d.σ r=0:=by unfold yVO;rw[if_neg (by rw[hc];exact h0)]
  have e2:d.app r=d:=by unfold Dat.app;rw[if_neg (by rw[hc];exact h0)]
  rw[e1,e2,hc]
  exact zXK (h2.pu hp) (hI.left.trans (zXY.pu hp L))
 refine⟨_,_,rfl,zZT (Br.of (λc=>by cases c) λ_=>⟨L.now.r,h2.cellB 2 2,Br.of (λc=>?_) (λc=>?_)⟩)⟩
 ·exact stay 3 (by unfold yZJ;rw[if_pos (by have:=zQj c;omega)]) (by decide) (Pu.refl _)
 have c:¬300<=d.σ.t.recs.length:=by have:=zQd c;omega
 have eC:yZJ d.σ r=zQ1 d.σ.t.fields d.σ.t.page r:=by unfold yZJ;rw[if_neg c]
 have jg:zX3 w2 s r.v:=hr w2 (hI.left.fr)
 refine⟨r.gone,cl b2 0,s,cl b2 1,(xVO h2 hi.t.ok jg).mono ?_⟩
 rintro e w6 ⟨rfl,bE⟩
 refine⟨_,rfl,Br.of (λc1=>stay _ eC (zQw c1) bE) (λc1=>?_)⟩
 have c1:zQ1 d.σ.t.fields d.σ.t.page r=0:=zQq c1
 have oQ:r.v.length<=1000000:=by have:=zX1 c1;have:=(zJf.of hi.t.ok).n16;omega
 refine zQc λw8 bW _=>?_
 have im:=bE.trans bW
 have h8:=h2.pu im
 have b8:=im.blk b2
 refine⟨λu=>Pu w8 u,Pu.refl _,L.now.r,λu hu=>(h8.pu hu).cellB 2 2,r.gone,λu hu=>cl0 (hu.blk b8),s,λu hu=>cl (hu.blk b8) 1,(yXy (RdV.of (jg.pu im)) oQ).mono ?_⟩
 rintro e aP ⟨q,rfl,hq,hqn,dr⟩
 refine⟨q,rfl,dr,alB λaU eG il=>⟨dr.trans eG,?_⟩⟩
 have rI:=dr.trans eG
 have pB:=h8.pu rI
 have hnl:∀b,(b ∈ zQe L.now.r∨b ∈ vBl L.now.hs)->b<w8.heap.size:=λb hb=>h8.own_lt (xXq hb)
 obtain⟨s',aQ,hra,oR,eH,hbk⟩:=pB.now.push (x:=r) (hq.pu eG) (λb hb hc=>by have:=hqn b hb;have:=hnl b (.inr hc);omega) il (by omega)
 refine⟨s',aQ,hra,?_⟩
 have kr:=eH.blk pB.st (pB.now.rw_.other pB.st (by decide))
 rw[zZc,zQs,zQs]
 refine zQu kr (by show 0+2+2<11;omega) λbB hw14 iB=>?_
 have ob:Fr (·=L.S) aQ bB:=by rw[hw14];exact Fr.cell aQ _ _ _
 have hf811:Fr (λb=>b=L.S∨b ∈ zQe L.now.r) aU bB:=(eH.mono λb hb _=>.inr hb).trans ob λb hb _=>.inl hb
 have hT14:=oR.fr ob λb hb e=>by
  have e:b=L.S:=e
  subst e
  rcases hb with hb|hb
  ·rcases hbk _ hb with hb|hb
   ·exact pB.now.rw_.other pB.st (by decide) hb
   ·have:=pB.S_lt;omega
  ·have hb:L.S ∈ vBl (L.now.hs ++ [(r.gone,q)]):=hb
   rw[zXx,List.mem_append]at hb
   rcases hb with hb|hb
   ·exact pB.now.other pB.st (by decide) (by decide) (.inr hb)
   ·have:=hqn L.S (by simpa[vBl] using hb);have:=h8.S_lt;omega
 obtain⟨h14,hL14⟩:=h8.reNow rI hf811 (λb hb=>hb.imp id .inl) (q:={ L.now with r:=s',hs:=L.now.hs ++ [(r.gone,q)] }) (t:={ d.σ.t with recs:=d.σ.t.recs ++ [r] }) iB hT14 (λb hb=>by
  rcases hb with hb|hb
  ·rcases hbk _ hb with hb|hb
   ·exact .inl (.inl hb)
   ·exact .inr (by have:=rI.size;omega)
  ·have hb:b ∈ vBl (L.now.hs ++ [(r.gone,q)]):=hb
   rw[zXx,List.mem_append]at hb
   rcases hb with hb|hb
   ·exact .inl (.inr hb)
   ·exact .inr (hqn b (by simpa[vBl] using hb))) rfl rfl
 have hLall:zXY w bB L { L with now:={ L.now with r:=s',hs:=L.now.hs ++ [(r.gone,q)] } }:=(hI.left.trans (zXY.pu im L)).trans hL14
 have hW:=zJ8 (l:=d.σ.t.recs ++ [r]) hi (by rw[List.length_append,List.length_singleton];omega) (by rw[List.length_append];omega) λx hx=>by
  rcases List.mem_append.1 hx with hx|hx
  ·exact hi.recR x hx
  ·rw[List.mem_singleton.1 hx,←hi.t.fields,←hi.t.page];exact c1
 refine(yQK h14 hLall hW ⟨hs.l1,hs.l2,hs.wn,hs.dn⟩).mono ?_
 rintro e bm ⟨rfl,L2,rJ,jS⟩
 have eA:d.app r=d.recs (d.σ.t.recs ++ [r]):=by unfold Dat.app;rw[if_pos (by rw[eC];exact c1)]
 have eN:yVO d.σ r=(d.σ.t.recs.length:Int)+1:=by unfold yVO;rw[if_pos (by rw[eC];exact c1)]
 have hlen:L2.now.r.len=d.σ.t.recs.length+1:=by
  rw[rJ.now.rlen,Dat.commit_σ]
  unfold zZt
  split <;> simp[Dat.to]
 rw[←jS.ptr]
 refine⟨rfl,L2.now.r,rJ.cellB 2 2,?_⟩
 rw[eA,eN,eC,c1,show((L2.now.r.len:Nat):Int)=(d.σ.t.recs.length:Int)+1 by omega]
 exact zXW (v:=.tuple #[.int .i64 ((d.σ.t.recs.length:Int)+1),.int .i64 0]) rJ jS jS.ptr.symm
end Go.Proofs.YtaeecpjhfmcliaaGreatDoor
/- The log: how the reference's store lies in memory. No condition but those stated. -/
namespace Go.Proofs.YtaeecpjhfmcliaaGreatDoor
open Go.Sh Go.RowKit Tryz
variable {w0 w w' : World} {X : Nat -> Prop}
structure RL where
 S:Nat
 t:HT
 cm:SV
 ch:List HT
 op:SV
 oh:List HT
def refC(R:RL):Array Value:=#[.int .i64 R.t.page,slV R.t.f,slV R.t.r,slV R.cm,slV R.op]
def RL.own(R:RL)(b:Nat):Prop:=b=R.S∨b ∈ zQe R.cm∨b ∈ zQe R.op
abbrev RL.ptr(R:RL):Value:=.pointer (some ⟨R.S,0,none⟩)
def xYU(w:World)(h:HT)(t:Tbl):Prop:=h.page=t.page/\zXi w t h.f h.r
structure RKp(w:World)(R:RL)(σ:Sto):Prop where
 t:xYU w R.t σ.t
 ch:∀(i:Nat) h t,R.ch[i]?=some h->σ.done[i]?=some t->xYU w h t
 oh:∀(i:Nat) h t,R.oh[i]?=some h->σ.lev[i]?=some t->xYU w h t
structure zQH(X:Nat->Prop)(w:World)(R:RL)(σ:Sto):Prop where
 st:w.heap[R.S]?=some (.cells (refC R) 115)
 cm:zQl w 35 3 R.cm (R.ch.flatMap zVE)
 op:zQl w 35 3 R.op (R.oh.flatMap zVE)
 cln:R.ch.length=σ.done.length
 oln:R.oh.length=σ.lev.length
 dj:∀b ∈ zQe R.cm,b ∉ zQe R.op
 xl:∀b,X b->b<w.heap.size
 kp:∀w2,Fr (λb=>R.own b∨X b) w w2->RKp w2 R σ
variable {R R' : RL} {σ σ' : Sto}
theorem zQH.kp0(h:zQH X w R σ):RKp w R σ:=h.kp w (Fr.refl _ _)
theorem zQH.own_lt(h:zQH X w R σ){b:Nat}(hb:R.own b):b<w.heap.size:=by
 rcases hb with rfl|hb|hb
 ·exact zQy h.st
 ·exact h.cm.lt b hb
 ·exact h.op.lt b hb
theorem zQH.S_lt(h:zQH X w R σ):R.S<w.heap.size:=h.own_lt (.inl rfl)
theorem zQH.fr{B:Nat->Prop}(h:zQH X w R σ)(hf:Fr B w w')(hn:∀b,R.own b->¬B b)(hx:∀b,B b->b<w.heap.size->X b):zQH X w' R σ where
 st:=hf.blk h.st (hn _ (.inl rfl))
 cm:=h.cm.fr hf λb hb=>hn b (.inr (.inl hb))
 op:=h.op.fr hf λb hb=>hn b (.inr (.inr hb))
 cln:=h.cln
 oln:=h.oln
 dj:=h.dj
 xl:=λb hb=>Nat.lt_of_lt_of_le (h.xl b hb) hf.size
 kp:=λw2 h2=>h.kp w2 ((hf.mono λb hb hlt=>.inr (hx b hb hlt)).trans h2 λb hb _=>hb)
theorem zQH.pu(h:zQH X w R σ)(hp:Pu w w'):zQH X w' R σ:=h.fr (Fr.pu hp:Fr (λ_=>False) w w') (λ_ _ h=>h) (λ_ h=>h.elim)
theorem zQH.cell(h:zQH X w R σ)(o:Nat):w.cell? ((⟨R.S,0,none⟩:Addr).add o)=(refC R)[o]?:=by rw[zQs,Nat.zero_add];exact zQE h.st o
theorem zQH.cell0(h:zQH X w R σ):w.cell? (⟨R.S,0,none⟩:Addr)=some (.int .i64 R.t.page):=zQE h.st 0
structure zXt(w w':World)(R R':RL):Prop where
 fr:Fr R.own w w'
 own:∀b,R'.own b->R.own b∨w.heap.size<=b
 ptr:R'.S=R.S
theorem zXt.refl(w:World)(R:RL):zXt w w R R:=⟨Fr.refl _ _,λ_ h=>.inl h,rfl⟩
theorem zXt.pu(hp:Pu w w')(R:RL):zXt w w' R R:=⟨Fr.pu hp,λ_ h=>.inl h,rfl⟩
theorem zXt.trans{w'':World}{R'':RL}(h:zXt w w' R R')(k:zXt w' w'' R' R''):zXt w w'' R R'':=by
 refine⟨h.fr.trans k.fr λb hb hlt=>(h.own b hb).resolve_right (by omega),λb hb=>?_,k.ptr.trans h.ptr⟩
 rcases k.own b hb with h1|h1
 ·exact h.own b h1
 ·exact .inr (Nat.le_trans h.fr.size h1)
theorem zXt.keep {Q:World->Prop} (h:zXt w w' R R') (hq:∀w2,Fr (λb=>R.own b∨X b) w w2->Q w2) (hxl:∀b,X b->b<w.heap.size):∀w2,Fr (λb=>R'.own b∨X b) w' w2->Q w2:=λw2 h2=>
 hq w2 ((h.fr.mono λb hb _=>.inl hb).trans h2 λb hb hlt=>by
  rcases hb with hb|hb
  ·exact .inl ((h.own b hb).resolve_right (by omega))
  ·exact .inr hb)
def zJ6(X:Nat->Prop)(w:World)(R:RL)(v:Value)(σ':Sto):Rt:=λe w'=>e=.returned v/\∃R',zQH X w' R' σ'/\zXt w w' R R'
theorem zZJ.keepR{t:Tbl}{f r:SV}(ho:zZJ w0 w t f r)(hv:zQh t=0)(hro:∀b,R.own b->b<w0.heap.size)(hx:∀b,X b->b<w0.heap.size):∀w2,Fr (λb=>R.own b∨X b) w w2->zXi w2 t f r:=λw2 h2=>by
 have nb:∀k,w0.heap.size<=k->¬(R.own k∨X k):=λk hk e=>e.elim (λe=>by have:=hro k e;omega) (λe=>by have:=hx k e;omega)
 refine zZJ.rd (w0:=w0) ⟨ho.fs.fr h2 λk hk=>nb k (ho.fs.2 k hk),?_⟩ (zXz hv)
 obtain⟨qs,k1,k2,k3,k4⟩:=ho.rs
 exact⟨qs,k1.fr h2 λk hk=>nb k (k2 k hk),k2,k3,λi r x hr hx=>⟨(k4 i r x hr hx).1,(k4 i r x hr hx).2.fr h2 λk hk=>nb k ((k4 i r x hr hx).2.2 k hk)⟩⟩
theorem zQH.pushC (h:zQH X w R σ) {q:HT} {t:Tbl} (hp:q.page=t.page) (hq:∀w2,Fr (λb=>R.own b∨X b) w w2->zXi w2 t q.f q.r) {r:Nat} (hr:w.heap[r]?=some (.cells (zVE q).toArray 35)) (hn:σ.done.length<=1000000)
  {K:World->Prop} (hK:∀w' R',zQH X w' R' { σ with done:=σ.done ++ [t] }->zXt w w' R R'->K w') :
  ∃s:SV,∃w1:World,(Builtin.append_ #[106,106] 106 #[slV R.cm,.slice (some ⟨r,0,none⟩) 1 1]).run prog w=.ok (slV s) w1/\st1 ((⟨R.S,0,none⟩:Addr).add 3) (slV s) w1 K:=by
 have hl:=h.cm.len zQt (by decide)
 have hcl:=h.cln
 obtain⟨s,w1,hra,hrow,dZ,hblk,hsl⟩:=zQz (P:=prog) (ty:=106) xJc vi35 rfl (by decide) h.cm (A:=some ⟨r,0,none⟩) (m:=1) (c:=1) (news:=zVE q) rfl (λj u hu=>⟨_,rfl,by rw[cl hr];simpa using hu⟩) (λu hu=>by simp[zVE]at hu;rcases hu with rfl|rfl|rfl <;> rfl) (by show(R.cm.len+1) * (56+1)<=_;omega)
 refine⟨s,w1,hra,?_⟩
 have hnS:R.S ∉ zQe R.cm:=h.cm.other h.st (by decide)
 have rE:=dZ.blk h.st hnS
 rw[zQs,Nat.zero_add]
 refine zQu rE (by show 3<5;omega) λw2 mP aN=>?_
 have fW:Fr (·=R.S) w1 w2:=by rw[mP];exact Fr.cell w1 _ _ _
 have hf:Fr (λb=>b=R.S∨b ∈ zQe R.cm) w w2:=(dZ.mono λb hb _=>.inr hb).trans fW λb hb _=>.inl hb
 have hsn:∀b ∈ zQe s,b ≠ R.S:=λb hb e=>by
  rcases hblk b hb with h1|h1
  ·exact hnS (by rw[←e];exact h1)
  ·have:=zQy h.st;omega
 have oc:zQl w2 35 3 s ((R.ch ++ [q]).flatMap zVE):=by
  rw[List.flatMap_append,List.flatMap_singleton]
  exact hrow.fr fW λb hb e=>hsn b hb e
 have hleft:zXt w w2 R { R with cm:=s,ch:=R.ch ++ [q] }:=by
  refine⟨hf.mono λb hb _=>hb.elim .inl λhb=>.inr (.inl hb),λb hb=>?_,rfl⟩
  rcases hb with hb|hb|hb
  ·exact .inl (.inl hb)
  ·rcases hblk b hb with h1|h1
   ·exact .inl (.inr (.inl h1))
   ·exact .inr h1
  ·exact .inl (.inr (.inr hb))
 refine hK w2 { R with cm:=s,ch:=R.ch ++ [q] } ⟨aN,oc,h.op.fr hf λb hb hx=>?_,by simp[hcl],h.oln,λb hb hx=>?_,λb hb=>Nat.lt_of_lt_of_le (h.xl b hb) hf.size,λw3 h3=>?_⟩ hleft
 ·rcases hx with rfl|hx
  ·exact h.op.other h.st (by decide) hb
  ·exact h.dj b hx hb
 ·rcases hblk b hb with h1|h1
  ·exact h.dj b h1 hx
  ·have hx:b ∈ zQe R.op:=hx
   have:=h.op.lt b hx;omega
 ·obtain⟨a1,a2,a3⟩:=hleft.keep (X:=X) h.kp h.xl w3 h3
  refine⟨a1,λi x u hx hu=>?_,a3⟩
  have hx:(R.ch ++ [q])[i]?=some x:=hx
  have hu:(σ.done ++ [t])[i]?=some u:=hu
  rcases Nat.lt_trichotomy i σ.done.length with hi|hi|hi
  ·rw[List.getElem?_append_left (by omega)]at hx hu
   exact a2 i x u hx hu
  ·rw[List.getElem?_append_right (by omega),hcl,hi,Nat.sub_self]at hx
   rw[List.getElem?_append_right (by omega),hi,Nat.sub_self]at hu
   simp at hx hu;subst hx hu
   exact⟨hp,hleft.keep (X:=X) hq h.xl w3 h3⟩
  ·rw[List.getElem?_eq_none (by rw[List.length_append,List.length_singleton];omega)]at hu;cases hu
theorem zQH.pushO (h:zQH X w R σ) {q:HT} {t:Tbl} (hp:q.page=t.page) (hq:∀w2,Fr (λb=>R.own b∨X b) w w2->zXi w2 t q.f q.r) {r:Nat} (hr:w.heap[r]?=some (.cells (zVE q).toArray 35)) (hn:σ.lev.length<=1000000)
  {K:World->Prop} (hK:∀w' R',zQH X w' R' { σ with lev:=σ.lev ++ [t] }->zXt w w' R R'->K w') :
  ∃s:SV,∃w1:World,(Builtin.append_ #[106,106] 106 #[slV R.op,.slice (some ⟨r,0,none⟩) 1 1]).run prog w=.ok (slV s) w1/\st1 ((⟨R.S,0,none⟩:Addr).add 4) (slV s) w1 K:=by
 have hl:=h.op.len zQt (by decide)
 have hcl:=h.oln
 obtain⟨s,w1,hra,hrow,dZ,hblk,hsl⟩:=zQz (P:=prog) (ty:=106) xJc vi35 rfl (by decide) h.op (A:=some ⟨r,0,none⟩) (m:=1) (c:=1) (news:=zVE q) rfl (λj u hu=>⟨_,rfl,by rw[cl hr];simpa using hu⟩) (λu hu=>by simp[zVE]at hu;rcases hu with rfl|rfl|rfl <;> rfl) (by show(R.op.len+1) * (56+1)<=_;omega)
 refine⟨s,w1,hra,?_⟩
 have hnS:R.S ∉ zQe R.op:=h.op.other h.st (by decide)
 have rE:=dZ.blk h.st hnS
 rw[zQs,Nat.zero_add]
 refine zQu rE (by show 4<5;omega) λw2 mP aN=>?_
 have fW:Fr (·=R.S) w1 w2:=by rw[mP];exact Fr.cell w1 _ _ _
 have hf:Fr (λb=>b=R.S∨b ∈ zQe R.op) w w2:=(dZ.mono λb hb _=>.inr hb).trans fW λb hb _=>.inl hb
 have hsn:∀b ∈ zQe s,b ≠ R.S:=λb hb e=>by
  rcases hblk b hb with h1|h1
  ·exact hnS (by rw[←e];exact h1)
  ·have:=zQy h.st;omega
 have oc:zQl w2 35 3 s ((R.oh ++ [q]).flatMap zVE):=by
  rw[List.flatMap_append,List.flatMap_singleton]
  exact hrow.fr fW λb hb e=>hsn b hb e
 have hleft:zXt w w2 R { R with op:=s,oh:=R.oh ++ [q] }:=by
  refine⟨hf.mono λb hb _=>hb.elim .inl λhb=>.inr (.inr hb),λb hb=>?_,rfl⟩
  rcases hb with hb|hb|hb
  ·exact .inl (.inl hb)
  ·exact .inl (.inr (.inl hb))
  ·rcases hblk b hb with h1|h1
   ·exact .inl (.inr (.inr h1))
   ·exact .inr h1
 refine hK w2 { R with op:=s,oh:=R.oh ++ [q] } ⟨aN,h.cm.fr hf λb hb hx=>?_,oc,h.cln,by simp[hcl],λb hb hx=>?_,λb hb=>Nat.lt_of_lt_of_le (h.xl b hb) hf.size,λw3 h3=>?_⟩ hleft
 ·rcases hx with rfl|hx
  ·exact h.cm.other h.st (by decide) hb
  ·exact h.dj b hb hx
 ·rcases hblk b hx with h1|h1
  ·exact h.dj b hb h1
  ·have hb:b ∈ zQe R.cm:=hb
   have:=h.cm.lt b hb;omega
 ·obtain⟨a1,a2,a3⟩:=hleft.keep (X:=X) h.kp h.xl w3 h3
  refine⟨a1,a2,λi x u hx hu=>?_⟩
  have hx:(R.oh ++ [q])[i]?=some x:=hx
  have hu:(σ.lev ++ [t])[i]?=some u:=hu
  rcases Nat.lt_trichotomy i σ.lev.length with hi|hi|hi
  ·rw[List.getElem?_append_left (by omega)]at hx hu
   exact a3 i x u hx hu
  ·rw[List.getElem?_append_right (by omega),hcl,hi,Nat.sub_self]at hx
   rw[List.getElem?_append_right (by omega),hi,Nat.sub_self]at hu
   simp at hx hu;subst hx hu
   exact⟨hp,hleft.keep (X:=X) hq h.xl w3 h3⟩
  ·rw[List.getElem?_eq_none (by rw[List.length_append,List.length_singleton];omega)]at hu;cases hu
theorem zQH.reT (h:zQH X w R σ) (hf:Fr (·=R.S) w w') {q:HT} {t:Tbl} (hst:w'.heap[R.S]?=some (.cells (refC { R with t:=q }) 115)) (hq:∀w2,Fr (λb=>R.own b∨X b) w w2->xYU w2 q t):zQH X w' { R with t:=q } { σ with t:=t }:=by
 refine⟨hst,h.cm.fr hf λb hb e=>h.cm.other h.st (by decide) (by rw[←show b=R.S from e];exact hb),h.op.fr hf λb hb e=>h.op.other h.st (by decide) (by rw[←show b=R.S from e];exact hb),h.cln,h.oln,h.dj,λb hb=>Nat.lt_of_lt_of_le (h.xl b hb) hf.size,λw2 h2=>?_⟩
 have h3:Fr (λb=>R.own b∨X b) w w2:=(hf.mono λb hb _=>.inl (.inl hb)).trans h2 λb hb _=>hb
 exact⟨hq w2 h3,(h.kp w2 h3).ch,(h.kp w2 h3).oh⟩
theorem zQH.setT (h:zQH X w R σ) {q:HT} {t:Tbl} (hq:∀w2,Fr (λb=>R.own b∨X b) w w2->xYU w2 q t) {K:World->Prop} (hK:∀w',zQH X w' { R with t:=q } { σ with t:=t }->zXt w w' R { R with t:=q }->K w') :
  stA prog 35 (⟨R.S,0,none⟩:Addr) #[.int .i64 q.page,slV q.f,slV q.r] w K:=by
 refine⟨zK8.symm,rfl,?_⟩
 show Sh.st1 ((⟨R.S,0,none⟩:Addr).add 0) _ w _
 rw[zQs]
 refine zQu h.st (by show 0+0<5;omega) λwa hwa hba=>?_
 show Sh.st1 ((⟨R.S,0,none⟩:Addr).add 1) _ wa _
 rw[zQs]
 refine zQu hba (by show 0+1<5;omega) λwb hwb hbb=>?_
 show Sh.st1 ((⟨R.S,0,none⟩:Addr).add 2) _ wb _
 rw[zQs]
 refine zQu hbb (by show 0+2<5;omega) λwc hwc hbc=>?_
 have hf:Fr (·=R.S) w wc:=by
  rw[hwc,hwb,hwa]
  exact((Fr.cell w _ _ _).trans (Fr.cell _ _ _ _) λ_ h _=>h).trans (Fr.cell _ _ _ _) λ_ h _=>h
 exact hK wc (h.reT hf hbc hq) ⟨hf.mono λb hb _=>.inl hb,λ_ h=>.inl h,rfl⟩
theorem zQH.popO (h:zQH X w R σ) {l0:List HT} {x:HT} {v0:List Tbl} {t:Tbl} (hoh:R.oh=l0 ++ [x]) (hlev:σ.lev=v0 ++ [t]) {K:World->Prop} (hK:∀w' R',zQH X w' R' { σ with lev:=v0 }->zXt w w' R R'->R'.t=R.t->K w') :
  st1 ((⟨R.S,0,none⟩:Addr).add 4) (.slice R.op.a (R.op.len - 1) R.op.cap) w K:=by
 have hl:=h.op.len zQt (by decide)
 have hll:R.oh.length=l0.length+1:=by rw[hoh];simp
 have hol:=h.oln
 have hlv:σ.lev.length=v0.length+1:=by rw[hlev];simp
 have ha:R.op.a ≠ none:=by
  obtain⟨_,hd|⟨g,cur,h3,_⟩⟩:=h.op
  ·rw[hd]at hl
   have hl:0=R.oh.length:=hl
   omega
  ·rw[h3];simp
 have hrow:zQl w 35 3 ⟨R.op.a,R.op.len - 1,R.op.cap⟩ (l0.flatMap zVE):=by
  have h1:=yZw h.op (n:=R.op.len - 1) (by omega) ha
  rw[hoh,List.flatMap_append,show R.op.len - 1=l0.length by omega]at h1
  have e:(l0.flatMap zVE).length=l0.length * 3:=zQ3 zQt l0
  rw[←e,List.take_left]at h1
  rw[show R.op.len - 1=l0.length by omega]
  exact h1
 rw[zQs,Nat.zero_add]
 refine zQu h.st (by show 4<5;omega) λw2 mP aN=>?_
 have hf:Fr (·=R.S) w w2:=by rw[mP];exact Fr.cell w _ _ _
 have hleft:zXt w w2 R { R with op:=⟨R.op.a,R.op.len - 1,R.op.cap⟩,oh:=l0 }:=⟨hf.mono λb hb _=>.inl hb,λb hb=>.inl hb,rfl⟩
 refine hK w2 { R with op:=⟨R.op.a,R.op.len - 1,R.op.cap⟩,oh:=l0 } ⟨aN,h.cm.fr hf λb hb e=>h.cm.other h.st (by decide) (by rw[←show b=R.S from e];exact hb),hrow.fr hf λb hb e=>hrow.other h.st (by decide) (by rw[←show b=R.S from e];exact hb),h.cln,by show l0.length=v0.length;omega,h.dj,λb hb=>Nat.lt_of_lt_of_le (h.xl b hb) hf.size,λw3 h3=>?_⟩ hleft rfl
 obtain⟨a1,a2,a3⟩:=hleft.keep (X:=X) h.kp h.xl w3 h3
 refine⟨a1,a2,λi y u hy hu=>a3 i y u ?_ ?_⟩
 ·have hy:l0[i]?=some y:=hy
  rw[hoh,List.getElem?_append_left (List.getElem?_eq_some_iff.1 hy).1];exact hy
 ·have hu:v0[i]?=some u:=hu
  rw[hlev,List.getElem?_append_left (List.getElem?_eq_some_iff.1 hu).1];exact hu
theorem zQH.lastC (h:zQH X w R σ) (hne:σ.done ≠ []) (hn:σ.done.length<=1000000):∃x a,R.cm.a=some a/\R.cm.len=σ.done.length/\0<R.cm.len/\IntKind.i64.wrap (((R.cm.len:Nat):Int) - 1)=((R.cm.len - 1:Nat):Int)/\
  w.cell? ((a.add ((R.cm.len - 1) * 3)).add 0)=some (.int .i64 x.page)/\w.cell? ((a.add ((R.cm.len - 1) * 3)).add 1)=some (slV x.f)/\w.cell? ((a.add ((R.cm.len - 1) * 3)).add 2)=some (slV x.r)/\xYU w x σ.last:=by
 have hl:=h.cm.len zQt (by decide)
 have hcl:=h.cln
 have hpos:0<σ.done.length:=List.length_pos_iff.2 hne
 obtain⟨x,hx⟩:=zQK (l:=R.ch) (k:=R.cm.len - 1) (by omega)
 obtain⟨a,ha,hk,c0⟩:=h.cm.elem zQt hx (o:=0) rfl
 obtain⟨a',ha',_,c1⟩:=h.cm.elem zQt hx (o:=1) rfl
 obtain⟨a'',ha'',_,c2⟩:=h.cm.elem zQt hx (o:=2) rfl
 rw[ha]at ha' ha'';cases ha';cases ha''
 refine⟨x,a,ha,by omega,by omega,by rw[zQa (by omega) (by omega)];omega,c0,c1,c2,h.kp0.ch _ x _ hx ?_⟩
 have h1:=zZ9 hne
 rw[List.getLast?_eq_getElem?]at h1
 rw[show R.cm.len - 1=σ.done.length - 1 by omega];exact h1
end Go.Proofs.YtaeecpjhfmcliaaGreatDoor
/- The log: what the reference's store does, without its records' methods. No condition but those stated. -/
namespace Go.Proofs.YtaeecpjhfmcliaaGreatDoor
open Go.Sh Go.RowKit Tryz
variable {w0 w w' : World} {X : Nat -> Prop} {R R' : RL} {σ σ' : Sto}
theorem zXt.toPtr(h:zXt w w' R R'):R.ptr=R'.ptr:=by unfold RL.ptr;rw[h.ptr]
def NewRf(X:Nat->Prop)(w w':World)(p:Option Addr)(σ:Sto):Prop:=∃R:RL,p=some ⟨R.S,0,none⟩/\zQH X w' R σ/\∀b,R.own b->w.heap.size<=b
theorem xJS{t:Tbl}{f r:SV}(h:zXi w t f r)(hX:∀b,X b->b<w.heap.size) :
  Calls prog 42 #[zKQ t f r] w λe w'=>Pu w w'/\((zQh t ≠ 0/\e=.returned (.tuple #[.pointer none,.int .i64 (zQh t)]))∨zQh t=0/\∃p,e=.returned (.tuple #[.pointer p,.int .i64 0])/\NewRf X w w' p (Sto.new t)):=by
 refine xQ2 _ _ _ w _ (alB λw1 ar aA=>⟨_,cl aA 0,f,cl aA 1,r,cl aA 2,(zWn (h.pu ar)).mono ?_⟩)
 rintro e w2 ⟨rfl,aq⟩
 have aE:=ar.trans aq
 have cL:=aq.blk aA
 refine⟨_,rfl,Br.of (λc=>⟨aE,.inl ⟨zQw c,rfl⟩⟩) (λc=>zQc λw4 aK _=>?_)⟩
 have hv:zQh t=0:=zQq c
 have ct:=aE.trans aK
 have iy:=aK.blk cL
 refine⟨λu=>Pu w4 u,Pu.refl _,_,λu hu=>cl (hu.blk iy) 0,f,λu hu=>cl (hu.blk iy) 1,r,λu hu=>cl (hu.blk iy) 2,_,λu hu=>cl (hu.blk iy) 0,f,λu hu=>cl (hu.blk iy) 1,r,λu hu=>cl (hu.blk iy) 2,(zWf (h.pu ct) hv).mono ?_⟩
 rintro e w5 ⟨f1,r1,rfl,hO1,aT⟩
 refine⟨_,f1,r1,rfl,aT,(zWf (h.pu (ct.trans aT)) hv).mono ?_⟩
 rintro e w6 ⟨f2,r2,rfl,hO2,bE⟩
 refine⟨_,f2,r2,rfl,alB λw7 cy ko=>alB λw8 bW kw=>?_⟩
 have oM:=((aT.trans bE).trans cy).trans bW
 have dP:=ct.trans oM
 have z4:=ct.size
 have z5:=aT.size
 have z6:=bE.size
 have lt6:w6.heap.size<w7.heap.size:=zQy ko
 have lt7:w7.heap.size<w8.heap.size:=zQy kw
 have hO1':zZJ w4 w8 t f1 r1:=((hO1.pu bE).pu cy).pu bW
 have hO2':zZJ w5 w8 t f2 r2:=(hO2.pu cy).pu bW
 obtain⟨R,hR⟩:∃R:RL,R=⟨w7.heap.size,⟨t.page,f1,r1,[]⟩,⟨some ⟨w6.heap.size,0,none⟩,1,1⟩,[⟨t.page,f2,r2,[]⟩],⟨none,0,0⟩,[]⟩:=⟨_,rfl⟩
 have own:∀b,R.own b->b=w7.heap.size∨b=w6.heap.size:=λb hb=>by
  rw[hR]at hb
  rcases hb with hb|hb|hb
  ·exact .inl hb
  ·simp[zQe]at hb;exact .inr hb
  ·simp[zQe]at hb
 have keep:∀{wz:World} {f r:SV},w4.heap.size<=wz.heap.size->wz.heap.size<=w6.heap.size->zZJ wz w8 t f r->(∀b,b=w7.heap.size∨b=w6.heap.size->¬(b ∈ zQe f))->True:=λ_ _ _ _=>trivial
 have kp:∀{wz:World} {f r:SV},w.heap.size<=wz.heap.size->zZJ wz w6 t f r->∀w3,Fr (λb=>R.own b∨X b) w8 w3->zXi w3 t f r:=λ{wz f r} hz ho w3 h3=>by
  have hf:Fr (λb=>X b∨w6.heap.size<=b) w6 w3:=((Fr.pu (cy.trans bW):Fr (λb=>X b∨w6.heap.size<=b) w6 w8)).trans h3 λb hb _=>hb.elim (λhb=>by rcases own b hb with rfl|rfl <;> exact .inr (by omega)) .inl
  have nb:∀k,wz.heap.size<=k->k<w6.heap.size->¬(X k∨w6.heap.size<=k):=λk hk hlt e=>e.elim (λe=>by have:=hX k e;omega) (λe=>by omega)
  refine zZJ.rd (w0:=wz) ⟨ho.fs.fr hf λk hk=>nb k (ho.fs.2 k hk) (ho.fs.1.lt k hk),?_⟩ (zXz hv)
  obtain⟨qs,k1,k2,k3,k4⟩:=ho.rs
  exact⟨qs,k1.fr hf λk hk=>nb k (k2 k hk) (k1.lt k hk),k2,k3,λi r x hr hx=>⟨(k4 i r x hr hx).1,(k4 i r x hr hx).2.fr hf λk hk=>nb k ((k4 i r x hr hx).2.2 k hk) ((k4 i r x hr hx).2.1.lt k hk)⟩⟩
 refine⟨dP,.inr ⟨hv,_,rfl,R,by rw[hR],⟨?_,?_,?_,?_,?_,?_,λb hb=>Nat.lt_of_lt_of_le (hX b hb) dP.size,λw3 h3=>?_⟩,λb hb=>by rcases own b hb with rfl|rfl <;> omega⟩⟩
 ·rw[hR];exact kw
 ·rw[hR];exact⟨rfl,.inr ⟨_,_,rfl,bW.blk ko,Nat.le_refl _,by show 1<=maxLen;unfold maxLen;omega,rfl,rfl⟩⟩
 ·rw[hR];exact zQl.nil _ _ _
 ·rw[hR];rfl
 ·rw[hR];rfl
 ·rw[hR];intro b hb;simp[zQe]
 ·have k1:=kp (by omega) (hO1.pu bE) w3 h3
  have k2:=kp (by omega) hO2 w3 h3
  rw[hR]
  refine⟨⟨rfl,k1⟩,λi x u hx hu=>?_,λi x u hx hu=>by simp at hx⟩
  rcases i with _|i
  ·simp[Sto.new]at hx hu;subst hx hu;exact⟨rfl,k2⟩
  ·simp at hx
theorem yXO (h:zQH X w R σ) (hv:zQh σ.t=0) (hne:σ.done ≠ []) (hn:σ.done.length<=1000000):Calls prog 99 #[R.ptr] w (zJ6 X w R (.tuple #[]) (zZt σ)):=by
 have hol:=h.op.len zQt (by decide)
 have holn:=h.oln
 refine yYH _ w _ (zQc λw1 ar _=>?_)
 have h1:=h.pu ar
 refine⟨R.op,h1.cell 4,Br.of (λc=>?_) (λc=>?_)⟩
 ·have c:R.op.len=0:=by simpa using c
  have hlev:σ.lev=[]:=List.eq_nil_of_length_eq_zero (by omega)
  obtain⟨x,a,ha,hcl,hpos,hwr,c0,c1,c2,hK⟩:=h1.lastC hne hn
  refine⟨R.t.page,h1.cell 0,R.t.f,h1.cell 1,R.t.r,h1.cell 2,R.cm,h1.cell 3,R.cm,h1.cell 3,a,ha,?_⟩
  rw[hwr,zXn]
  refine⟨by omega,by omega,x.page,c0,x.f,c1,x.r,c2,?_⟩
  rw[hK.1,h1.kp0.t.1]
  refine(zYh h1.kp0.t.2 hK.2).mono ?_
  rintro e w7 ⟨rfl,cy⟩
  refine⟨_,rfl,Br.of (λc1=>?_) (λc1=>?_)⟩
  ·have c1:σ.t ≠ σ.last:=by simpa using c1
   have eC:zZt σ={ σ with done:=σ.done ++ [σ.t] }:=by unfold zZt;rw[if_pos ⟨hlev,c1⟩]
   refine zQc λw8 bW _=>?_
   have dP:=(ar.trans cy).trans bW
   have h8:=h.pu dP
   refine⟨λu=>Pu w8 u,Pu.refl _,R.cm,λu hu=>(h8.pu hu).cell 3,R.t.page,λu hu=>(h8.pu hu).cell 0,R.t.f,λu hu=>(h8.pu hu).cell 1,R.t.r,λu hu=>(h8.pu hu).cell 2,?_⟩
   rw[h8.kp0.t.1]
   refine(zWf h8.kp0.t.2 hv).mono ?_
   rintro e aU ⟨f,r,rfl,hO,eG⟩
   refine⟨_,f,r,rfl,eG,alB λaQ dO kM=>⟨eG.trans dO,?_⟩⟩
   have vV:=eG.trans dO
   refine(h8.pu vV).pushC (q:=⟨σ.t.page,f,r,[]⟩) (t:=σ.t) rfl ((hO.pu dO).keepR hv (λb hb=>h8.own_lt hb) h8.xl) kM hn λw2 R2 h2 pV=>?_
   rw[eC]
   exact⟨rfl,R2,h2,(zXt.pu (dP.trans vV) R).trans pV⟩
  ·have c1:σ.t=σ.last:=by simpa using c1
   have eC:zZt σ=σ:=by unfold zZt;rw[if_neg (λe=>e.2 c1)]
   rw[eC]
   exact⟨rfl,R,h.pu (ar.trans cy),zXt.pu (ar.trans cy) R⟩
 ·have c:¬R.op.len=0:=by simpa using c
  have eC:zZt σ=σ:=by unfold zZt;rw[if_neg (λe=>by rw[e.1]at holn;simp at holn;rw[holn]at hol;simp at hol;exact c hol)]
  rw[eC]
  exact⟨rfl,R,h1,zXt.pu ar R⟩
theorem xZ2(h:zQH X w R σ)(hv:zQh σ.t=0):Calls prog 59 #[R.ptr] w (zJ6 X w R (.int .i64 (zKa σ)) (zZU σ)):=by
 have hol:=h.op.len zQt (by decide)
 have holn:=h.oln
 refine xXU _ w _ ⟨R.op,h.cell 4,Br.of (λc=>?_) (λc=>?_)⟩
 ·have c:8<=σ.lev.length:=by have:=zQj c;omega
  have e1:zKa σ=3:=by unfold zKa;rw[if_pos c]
  have e2:zZU σ=σ:=by unfold zZU;rw[if_pos c]
  rw[e1,e2]
  exact⟨rfl,R,h,zXt.refl w R⟩
 ·have c:¬8<=σ.lev.length:=by have:=zQd c;omega
  have e1:zKa σ=0:=by unfold zKa;rw[if_neg c]
  have e2:zZU σ={ σ with lev:=σ.lev ++ [σ.t] }:=by unfold zZU;rw[if_neg c]
  rw[e1,e2]
  refine zQc λw3 au _=>?_
  have h3:=h.pu au
  refine⟨λu=>Pu w3 u,Pu.refl _,R.op,λu hu=>(h3.pu hu).cell 4,R.t.page,λu hu=>(h3.pu hu).cell 0,R.t.f,λu hu=>(h3.pu hu).cell 1,R.t.r,λu hu=>(h3.pu hu).cell 2,?_⟩
  rw[h3.kp0.t.1]
  refine(zWf h3.kp0.t.2 hv).mono ?_
  rintro e w6 ⟨f,r,rfl,hO,bE⟩
  refine⟨_,f,r,rfl,bE,alB λw7 cy ko=>⟨bE.trans cy,?_⟩⟩
  have hp37:=bE.trans cy
  refine(h3.pu hp37).pushO (q:=⟨σ.t.page,f,r,[]⟩) (t:=σ.t) rfl ((hO.pu cy).keepR hv (λb hb=>h3.own_lt hb) h3.xl) ko (by omega) λw2 R2 h2 pV=>?_
  exact⟨rfl,R2,h2,(zXt.pu (au.trans hp37) R).trans pV⟩
theorem zYB (h:zQH X w R σ) (hn:σ.lev.length<=1000000) (hne:σ.lev ≠ []):∃l0 x v0 t a,R.oh=l0 ++ [x]/\σ.lev=v0 ++ [t]/\R.op.a=some a/\0<R.op.len/\R.op.len<=R.op.cap/\IntKind.i64.wrap (((R.op.len:Nat):Int) - 1)=((R.op.len - 1:Nat):Int)/\
  w.cell? ((a.add ((R.op.len - 1) * 3)).add 0)=some (.int .i64 x.page)/\w.cell? ((a.add ((R.op.len - 1) * 3)).add 1)=some (slV x.f)/\w.cell? ((a.add ((R.op.len - 1) * 3)).add 2)=some (slV x.r)/\(∀w2,Fr (λb=>R.own b∨X b) w w2->xYU w2 x t)/\
  (.slice (if R.op.cap=0 then R.op.a else R.op.a.map (λx=>x.add (0 * 3))) (R.op.len - 1 - 0) (R.op.cap - 0):Value)=.slice R.op.a (R.op.len - 1) R.op.cap:=by
 have hol:=h.op.len zQt (by decide)
 have holn:=h.oln
 have hpos:0<σ.lev.length:=List.length_pos_iff.2 hne
 obtain⟨l0,x,hoh⟩:=yQS (l:=R.oh) (λe=>by rw[e]at holn;simp at holn;omega)
 obtain⟨v0,t,hlev⟩:=yQS hne
 have xO:R.oh.length=l0.length+1:=by rw[hoh];simp
 have mN:σ.lev.length=v0.length+1:=by rw[hlev];simp
 have hx:R.oh[R.op.len - 1]?=some x:=by rw[hoh,List.getElem?_append_right (by omega),show R.op.len - 1 - l0.length=0 by omega];rfl
 have ht:σ.lev[R.op.len - 1]?=some t:=by rw[hlev,List.getElem?_append_right (by omega),show R.op.len - 1 - v0.length=0 by omega];rfl
 obtain⟨a,ha,hk,c0⟩:=h.op.elem zQt hx (o:=0) rfl
 obtain⟨a',ha',_,c1⟩:=h.op.elem zQt hx (o:=1) rfl
 obtain⟨a'',ha'',_,c2⟩:=h.op.elem zQt hx (o:=2) rfl
 rw[ha]at ha' ha'';cases ha';cases ha''
 have hcap:=h.op.le_cap.1
 refine⟨l0,x,v0,t,a,hoh,hlev,ha,by omega,hcap,by rw[zQa (by omega) (by omega)];omega,c0,c1,c2,λw2 h2=>(h.kp w2 h2).oh _ x t hx ht,?_⟩
 have esl:(if R.op.cap=0 then R.op.a else R.op.a.map (λx=>x.add (0 * 3)))=R.op.a:=by rw[if_neg (by omega),ha];show some (a.add (0 * 3))=_;rw[Nat.zero_mul,yVM]
 rw[esl,Nat.sub_zero,Nat.sub_zero]
theorem rend_c (h:zQH X w R σ) (hv:zQh σ.t=0) (hne:σ.done ≠ []) (hn:σ.done.length<=1000000) (hl:σ.lev.length<=1000000):Calls prog 60 #[R.ptr] w (zJ6 X w R (.int .i64 (zJg σ)) (xKX σ)):=by
 have hol:=h.op.len zQt (by decide)
 have holn:=h.oln
 refine xXe _ w _ ⟨R.op,h.cell 4,Br.of (λc=>?_) (λc=>?_)⟩
 ·have c:R.op.len=0:=by simpa using c
  have hlev:σ.lev=[]:=List.eq_nil_of_length_eq_zero (by omega)
  have e1:zJg σ=9:=by unfold zJg;rw[if_pos hlev]
  have e2:xKX σ=σ:=by unfold xKX;rw[if_pos hlev]
  rw[e1,e2]
  exact⟨rfl,R,h,zXt.refl w R⟩
 ·have c:¬R.op.len=0:=by simpa using c
  have hlne:σ.lev ≠ []:=λe=>by rw[e]at holn;simp at holn;rw[holn]at hol;simp at hol;exact c hol
  have e1:zJg σ=0:=by unfold zJg;rw[if_neg hlne]
  refine zQc λw3 au _=>?_
  have h3:=h.pu au
  obtain⟨l0,x,v0,t,a,hoh,hlev,ha,hpos,hcap,hwr,c0,c1,c2,hK,esl⟩:=zYB h3 hl hlne
  have e2:xKX σ=zZt { σ with lev:=v0 }:=by unfold xKX;rw[if_neg hlne,hlev,List.dropLast_concat]
  refine⟨R.op,h3.cell 4,R.op,h3.cell 4,?_⟩
  rw[hwr,zXn,esl]
  refine⟨by omega,by omega,by omega,?_⟩
  rw[zZc]
  refine h3.popO hoh hlev λw7 R7 h7 hl7 _=>?_
  rw[show(Value.pointer (some ⟨R.S,0,none⟩))=R7.ptr from hl7.toPtr]
  refine(yXO h7 hv hne hn).mono ?_
  rintro e w8 ⟨rfl,R8,h8,sK⟩
  refine⟨rfl,?_⟩
  rw[e1,e2]
  exact⟨rfl,R8,h8,((zXt.pu au R).trans hl7).trans sK⟩
theorem xYP(h:zQH X w R σ)(hl:σ.lev.length<=1000000):Calls prog 61 #[R.ptr] w (zJ6 X w R (.int .i64 (zJg σ)) (zVj σ)):=by
 have hol:=h.op.len zQt (by decide)
 have holn:=h.oln
 refine yYp _ w _ ⟨R.op,h.cell 4,Br.of (λc=>?_) (λc=>?_)⟩
 ·have c:R.op.len=0:=by simpa using c
  have hlev:σ.lev=[]:=List.eq_nil_of_length_eq_zero (by omega)
  have e1:zJg σ=9:=by unfold zJg;rw[if_pos hlev]
  have e2:zVj σ=σ:=by unfold zVj;rw[if_pos hlev]
  rw[e1,e2]
  exact⟨rfl,R,h,zXt.refl w R⟩
 ·have c:¬R.op.len=0:=by simpa using c
  have hlne:σ.lev ≠ []:=λe=>by rw[e]at holn;simp at holn;rw[holn]at hol;simp at hol;exact c hol
  have e1:zJg σ=0:=by unfold zJg;rw[if_neg hlne]
  refine zQc λw3 au _=>?_
  have h3:=h.pu au
  obtain⟨l0,x,v0,t,a,hoh,hlev,ha,hpos,hcap,hwr,c0,c1,c2,hK,esl⟩:=zYB h3 hl hlne
  have e2:zVj σ={ σ with t:=t,lev:=v0 }:=by unfold zVj;rw[if_neg hlne,hlev,List.dropLast_concat,List.getLast?_concat];rfl
  refine⟨R.op,h3.cell 4,R.op,h3.cell 4,a,ha,?_⟩
  rw[hwr,zXn]
  refine⟨by omega,by omega,x.page,c0,x.f,c1,x.r,c2,?_⟩
  rw[zZc]
  refine h3.setT hK λw8 h8 sK=>zQc λw9 cE _=>?_
  have h9:=h8.pu cE
  refine⟨R.op,h9.cell 4,R.op,h9.cell 4,?_⟩
  rw[hwr,zXn,esl]
  refine⟨by omega,by omega,by omega,?_⟩
  rw[zZc]
  refine h9.popO hoh hlev λw7 R7 h7 hl7 _=>?_
  rw[e1,e2]
  exact⟨rfl,R7,h7,(((zXt.pu au R).trans sK).trans (zXt.pu cE _)).trans hl7⟩
theorem xZ9(h:zQH X w R σ):Calls prog 21 #[R.ptr] w λe w'=>e=.returned (.int .i64 (σ.lev.length:Nat))/\Pu w w':=by
 have hol:=h.op.len zQt (by decide)
 have holn:=h.oln
 refine yYF _ w _ ⟨R.op,h.cell 4,?_,Pu.refl _⟩
 rw[hol,holn]
theorem zWV(h:zQH X w R σ)(hn:σ.done.length<=1000000):Calls prog 23 #[R.ptr] w λe w'=>e=.returned (.int .i64 ((σ.done.length:Nat) - 1))/\Pu w w':=by
 have hol:=h.cm.len zQt (by decide)
 have holn:=h.cln
 refine xQX _ w _ ⟨R.cm,h.cell 3,?_,Pu.refl _⟩
 rw[zQa (by omega) (by omega),hol,holn]
theorem xJa(h:zQH X w R σ):Calls prog 68 #[R.ptr] w λe w'=>e=.returned (.int .i64 (zVy σ))/\Pu w w':=by
 have hol:=h.op.len zQt (by decide)
 have holn:=h.oln
 refine xQz _ w _ ⟨R.op,h.cell 4,Br.of (λc=>⟨?_,Pu.refl _⟩) (λc=>⟨?_,Pu.refl _⟩)⟩
 ·unfold zVy;rw[if_neg (λe=>by have:=zQj c;rw[e]at holn;simp at holn;rw[holn]at hol;simp at hol;omega)]
 ·unfold zVy;rw[if_pos (List.eq_nil_of_length_eq_zero (by have:=zQd c;omega))]
theorem yXs(h:zQH X w R σ)(k:Int):Calls prog 101 #[R.ptr,.int .i64 k] w λe w'=>e=.returned (.bool (zXc σ k))/\w'=w:=by
 have hrl:=h.kp0.t.2.recs.len
 refine yWG _ _ w _ (Br.of (λc=>⟨R.t.r,h.cell 2,?_,rfl⟩) (λc=>⟨?_,rfl⟩))
 ·have c:=zQj c
  unfold zXc
  rw[hrl,decide_eq_true (show 1<=k by omega),Bool.true_and]
 ·have c:=zQd c
  unfold zXc
  rw[decide_eq_false (show ¬1<=k by omega),Bool.false_and]
theorem xZo(h:zQH X w R σ)(hv:zQh σ.t=0):Calls prog 19 #[R.ptr] w λe w'=>∃f r:SV,e=.returned (zKQ σ.t f r)/\zZJ w w' σ.t f r/\Pu w w':=by
 refine yYJ _ w _ (alB λw1 ar aA=>?_)
 have h1:=h.pu ar
 refine⟨R.t.page,h1.cell 0,R.t.f,h1.cell 1,R.t.r,h1.cell 2,?_⟩
 rw[h1.kp0.t.1]
 refine(zWf h1.kp0.t.2 hv).mono ?_
 rintro e w3 ⟨f,r,rfl,hO,au⟩
 refine⟨_,f,r,rfl,zQg (au.blk aA) zK8.symm rfl rfl λw4 cI fe _=>⟨_,cl cI 0,f,cl cI 1,r,cl cI 2,f,r,rfl,(hO.other fe (au.blk aA)).low ar.size,(ar.trans au).andNew fe λi hi=>by rw[show i=_ from hi];exact Nat.le_refl _⟩⟩
theorem yZC(h:zQH X w R σ)(hv:∀t ∈ σ.done,zQh t=0)(n:Int):Calls prog 28 #[R.ptr,.int .i64 n] w λe w'=>∃f r:SV,e=.returned (.tuple #[zKQ (zZ8 σ n) f r,.int .i64 (zVJ σ n)])/\zZJ w w' (zZ8 σ n) f r/\Pu w w':=by
 have hcm:=h.cm.len zQt (by decide)
 have hcln:=h.cln
 refine xXI _ _ w _ (alB λw1 ar aA=>?_)
 have h1:=h.pu ar
 have bad:¬(0<=n/\n<σ.done.length)->stA prog 35 (⟨w.heap.size,0,none⟩:Addr) #[.int .i64 0,.slice none 0 0,.slice none 0 0] w1 λw5=>zQb prog [] w5 λw6=>
   ∃ag:Int,w6.cell? ((⟨w.heap.size,0,none⟩:Addr).add 0)=some (.int .i64 ag)/\∃ab:SV,w6.cell? ((⟨w.heap.size,0,none⟩:Addr).add 1)=some (.slice ab.a ab.len ab.cap)/\∃ae:SV,w6.cell? ((⟨w.heap.size,0,none⟩:Addr).add 2)=some (.slice ae.a ae.len ae.cap)/\
   ∃f r:SV,Ending.returned (.tuple #[.agg #[.int .i64 ag,.slice ab.a ab.len ab.cap,.slice ae.a ae.len ae.cap],.int .i64 1])=.returned (.tuple #[zKQ (zZ8 σ n) f r,.int .i64 (zVJ σ n)])/\zZJ w w6 (zZ8 σ n) f r/\Pu w w6:=λhn=>by
  refine zQg aA zK8.symm rfl rfl λw4 cI fe _=>⟨_,cl cI 0,⟨none,0,0⟩,cl cI 1,⟨none,0,0⟩,cl cI 2,⟨none,0,0⟩,⟨none,0,0⟩,?_,?_,ar.andNew fe λi hi=>by rw[show i=_ from hi];exact Nat.le_refl _⟩
  ·unfold zVJ zZ8;rw[if_neg hn,if_neg hn];rfl
  ·have e:zZ8 σ n=zYt:=by unfold zZ8;rw[if_neg hn]
   rw[e]
   exact⟨zKz.nil _ _,zJY.nil _ _⟩
 refine Br.of (λc=>bad (by have:=zQj c;omega)) (λc=>⟨R.cm,h1.cell 3,Br.of (λc1=>bad (by have:=zQj c1;omega)) (λc1=>?_)⟩)
 have c:=zQd c
 have c1:=zQd c1
 have hn:0<=n/\n<σ.done.length:=by omega
 obtain⟨k,rfl⟩:∃k:Nat,n=(k:Int):=⟨n.toNat,by omega⟩
 obtain⟨t,ht⟩:=zQK (l:=σ.done) (k:=k) (by omega)
 obtain⟨x,hx⟩:=zQK (l:=R.ch) (k:=k) (by omega)
 obtain⟨ep,hR⟩:=h1.kp0.ch k x t hx ht
 obtain⟨a,ha,hk,c0⟩:=h1.cm.elem zQt hx (o:=0) rfl
 obtain⟨a',ha',_,nS⟩:=h1.cm.elem zQt hx (o:=1) rfl
 obtain⟨a'',ha'',_,c2⟩:=h1.cm.elem zQt hx (o:=2) rfl
 rw[ha]at ha' ha'';cases ha';cases ha''
 refine⟨R.cm,h1.cell 3,a,ha,by omega,by omega,x.page,by rw[zXn];exact c0,x.f,by rw[zXn];exact nS,x.r,by rw[zXn];exact c2,?_⟩
 have hvt:=hv t (List.mem_of_getElem? ht)
 have e:zZ8 σ (k:Int)=t:=by unfold zZ8;rw[if_pos hn,zXn,List.getD_eq_getElem?_getD,ht];rfl
 have e2:zVJ σ (k:Int)=0:=by unfold zVJ;rw[if_pos hn]
 rw[ep]
 refine(zWf hR hvt).mono ?_
 rintro e3 w3 ⟨f,r,rfl,hO,au⟩
 refine⟨_,f,r,rfl,zQg (au.blk aA) zK8.symm rfl rfl λw4 cI fe _=>⟨_,cl cI 0,f,cl cI 1,r,cl cI 2,f,r,?_,?_,(ar.trans au).andNew fe λi hi=>by rw[show i=_ from hi];exact Nat.le_refl _⟩⟩
 ·rw[e,e2]
 ·rw[e];exact(hO.other fe (au.blk aA)).low ar.size
end Go.Proofs.YtaeecpjhfmcliaaGreatDoor
/- The log: the reference puts a record. No condition but those stated. -/
namespace Go.Proofs.YtaeecpjhfmcliaaGreatDoor
open Go.Sh Go.RowKit Tryz
variable {w0 w w' : World} {X : Nat -> Prop} {R R' : RL} {σ σ' : Sto}
def xYf(R:Rt)(p0:Option Addr)(n1:Int)(r5 r6:Nat)(ds:Ds)(w8:World):Prop:=
 dwE w8 λw9=>
 ∃S1:World->Prop,S1 w9/\
 ∃bZ:SV,(∀w',S1 w'->w'.cell? ((⟨r6,0,none⟩:Addr).add 2)=some (.slice bZ.a bZ.len bZ.cap))/\
 ∃gN:Bool,(∀w',S1 w'->w'.cell? ((⟨r5,0,none⟩:Addr).add 0)=some (.bool gN))/\
 ∃bA:SV,(∀w',S1 w'->w'.cell? ((⟨r5,0,none⟩:Addr).add 1)=some (.slice bA.a bA.len bA.cap))/\
 Calls prog 102 #[.agg #[.bool gN,.slice bA.a bA.len bA.cap]] w9 λe aP=>
 ∃dJ:Bool,∃bg:SV,e=.returned (.agg #[.bool dJ,.slice bg.a bg.len bg.cap])/\
 S1 aP/\
 ∃dI:Addr,bZ.a=some dI/\0<=(IntKind.i64.wrap (n1 - 1))/\(IntKind.i64.wrap (n1 - 1))<((bZ.len:Nat):Int)/\
 stA prog 67 (dI.add ((IntKind.i64.wrap (n1 - 1)).toNat * 2)) #[.bool dJ,.slice bg.a bg.len bg.cap] aP λaQ=>
 ∃bC:Int,aQ.cell? ((⟨r6,0,none⟩:Addr).add 0)=some (.int .i64 bC)/\
 ∃aL:SV,aQ.cell? ((⟨r6,0,none⟩:Addr).add 1)=some (.slice aL.a aL.len aL.cap)/\
 ∃aM:SV,aQ.cell? ((⟨r6,0,none⟩:Addr).add 2)=some (.slice aM.a aM.len aM.cap)/\
 zQf p0 λkN=>
 stA prog 35 kN #[.int .i64 bC,.slice aL.a aL.len aL.cap,.slice aM.a aM.len aM.cap] aQ λbB=>
 Calls prog 99 #[.pointer p0] bB λe bm=>
 e=.returned (.tuple #[])/\
 zQb prog ds bm λbF=>
 R (.returned (.tuple #[])) bF
theorem zJ6.behind{v:Value}{wa:World}(hl:zXt w wa R R'){e:Ending}{wb:World}(h:zJ6 X wa R' v σ' e wb):zJ6 X w R v σ' e wb:=by
 obtain⟨rfl,R2,h2,pV⟩:=h
 exact⟨rfl,R2,h2,hl.trans pV⟩
theorem yZx (h0:zQH X w0 R σ) (hp:Pu w0 w) (hne:σ.done ≠ []) (hn:σ.done.length<=1000000) {l:List Rec} {qf s q:SV} {r5 r6 j:Nat} {x:Rec} (h5:w.heap[r5]?=some (.cells #[.bool x.gone,slV q] 67)) (hr:RdV w q x.v) (hx:x.v.length<=1000000)
  (h6:w.heap[r6]?=some (.cells #[.int .i64 σ.t.page,slV qf,slV s] 35)) (ho:zZJ w0 w { σ.t with recs:=l } qf s) (hj:j<l.length) (hl:l.length<=1000000) (hv:zQh { σ.t with recs:=l.set j x }=0) :
  xYf (zJ6 X w0 R (.tuple #[]) (zXE σ (l.set j x))) (some ⟨R.S,0,none⟩) ((j:Int)+1) r5 r6 [] w:=by
 refine zQc λw9 cE _=>?_
 have b5:=cE.blk h5
 have b6:=cE.blk h6
 have hsl:=ho.rs.len
 have hsl:s.len=l.length:=hsl
 refine⟨λu=>Pu w9 u,Pu.refl _,s,λu hu=>cl (hu.blk b6) 2,x.gone,λu hu=>cl (hu.blk b5) 0,q,λu hu=>cl (hu.blk b5) 1,(zKI (hr.pu cE) hx).mono ?_⟩
 rintro e aP ⟨q',rfl,hq',dr⟩
 have hp010:=(hp.trans cE).trans dr
 have pU:=(ho.pu cE).pu dr
 have b610:=dr.blk b6
 rw[show(j:Int)+1 - 1=(j:Int)by omega,zQa (by omega) (by omega)]
 obtain⟨a,ha,hst⟩:=(show zJY w0 aP s l from pU.rs).set (k:=j) hj (x:=x) (hq'.low (hp.trans cE).size) (K:=λaQ=>
   ∃bC:Int,aQ.cell? ((⟨r6,0,none⟩:Addr).add 0)=some (.int .i64 bC)/\
   ∃aL:SV,aQ.cell? ((⟨r6,0,none⟩:Addr).add 1)=some (.slice aL.a aL.len aL.cap)/\
   ∃aM:SV,aQ.cell? ((⟨r6,0,none⟩:Addr).add 2)=some (.slice aM.a aM.len aM.cap)/\
   zQf (some ⟨R.S,0,none⟩) λkN=>
   stA prog 35 kN #[.int .i64 bC,.slice aL.a aL.len aL.cap,.slice aM.a aM.len aM.cap] aQ λbB=>
   Calls prog 99 #[.pointer (some ⟨R.S,0,none⟩)] bB λe bm=>e=.returned (.tuple #[])/\zQb prog [] bm λbF=>zJ6 X w0 R (.tuple #[]) (zXE σ (l.set j x)) (.returned (.tuple #[])) bF) λaQ hN12 eH=>by
  have nk:∀{b:Nat} {c:Array Value},aP.heap[b]?=some (.cells c 35)->¬b ∈ zQe s:=λhb hk=>by obtain⟨qs,k1,_⟩:=pU.rs;exact k1.other hb (by decide) hk
  have cL:=eH.blk b610 (nk b610)
  have hF12:zKz w0 aQ qf σ.t.fields:=(show zKz w0 aP qf σ.t.fields from pU.fs).fr eH λk hk e=>by obtain⟨qs,k1,_⟩:=pU.rs;exact zQr pU.fs.1 k1 (by decide) k hk e
  have ho12:zZJ w0 aQ { σ.t with recs:=l.set j x } qf s:=⟨hF12,hN12⟩
  have vW:Pu w0 aQ:=hp010.andNew eH pU.rs.own
  have mT:=h0.pu vW
  refine⟨_,cl cL 0,qf,cl cL 1,s,cl cL 2,?_⟩
  rw[zZc]
  have hk:=ho12.keepR (R:=R) (X:=X) hv (λb hb=>h0.own_lt hb) h0.xl
  refine mT.setT (q:=⟨σ.t.page,qf,s,[]⟩) (t:={ σ.t with recs:=l.set j x }) (λw2 h2=>⟨rfl,hk w2 h2⟩) λbB h14 hl14=>?_
  refine(yXO h14 hv hne hn).mono ?_
  rintro e bm ⟨rfl,R15,rJ,hl15⟩
  exact⟨rfl,rfl,R15,rJ,((zXt.pu vW R).trans hl14).trans hl15⟩
 exact⟨x.gone,q',rfl,dr,a,ha,by omega,by omega,by rw[zXn];exact hst⟩
def yVN(l:List Rec)(j:Nat)(x:Rec):List Rec:=if j<l.length then l.set j x else l ++ [x]
theorem xJv{α:Type}(l:List α)(z x:α):(l ++ [z]).set l.length x=l ++ [x]:=by
 induction l with
 | nil=>rfl
 | cons y l ih=>simp[List.set,ih]
theorem yK6 (h:zQH X w R σ) (hv:zQh σ.t=0) (hne:σ.done ≠ []) (hn:σ.done.length<=1000000) {s:SV} {x:Rec} (hr:RdV w s x.v) (hl:x.v.length<=1000000) {j:Nat} (hj:j<=σ.t.recs.length) (hv':zQh { σ.t with recs:=yVN σ.t.recs j x }=0) :
  Calls prog 100 #[R.ptr,.int .i64 ((j:Int)+1),.agg #[.bool x.gone,slV s]] w (zJ6 X w R (.tuple #[]) (zXE σ (yVN σ.t.recs j x))):=by
 have cJ:=(zQM.of hv).n300
 refine yWR _ _ _ _ w _ (alB λw1 ar aA=>?_)
 have h1:=h.pu ar
 refine⟨R.t.page,h1.cell 0,R.t.f,h1.cell 1,R.t.r,h1.cell 2,?_⟩
 rw[h1.kp0.t.1]
 refine(zWf h1.kp0.t.2 hv).mono ?_
 rintro e w3 ⟨qf,qr,rfl,hO,au⟩
 refine⟨_,qf,qr,rfl,alB λw4 aK cI=>zQg cI zK8.symm rfl rfl λw5 bq dq _=>?_⟩
 have cx:Pu w3 w5:=aK.andNew dq λi hi=>by rw[show i=_ from hi];exact Nat.le_refl _
 have fg:=au.trans cx
 have eE:=ar.trans fg
 have z1:=ar.size
 have z3:=au.size
 have hO5:zZJ w w5 σ.t qf qr:=(((hO.pu aK).other dq cI)).low z1
 have hql:qr.len=σ.t.recs.length:=hO5.rs.len
 have iN:=fg.blk aA
 refine⟨qr,cl bq 2,Br.of (λc=>?_) (λc=>?_)⟩
 ·have c:=zQj c
  have ej:j=σ.t.recs.length:=by omega
  subst ej
  have eP:yVN σ.t.recs σ.t.recs.length x=(σ.t.recs ++ [(⟨false,[]⟩:Rec)]).set σ.t.recs.length x:=by unfold yVN;rw[if_neg (by omega),xJv]
  rw[eP]at hv' ⊢
  refine⟨qr,cl bq 2,alB λw6 bE gh=>?_⟩
  have xM:=hO5.pu bE
  obtain⟨s',w7,hra,n7,m0⟩:=xM.rs.push (g:=false) (vs:=[]) (q:=(⟨none,0,0⟩:SV)) (eE.trans bE).size (⟨zQl.nil _ 73 3,by simp[zQe]⟩:zJH w w6 ⟨none,0,0⟩ []) gh rfl (by omega)
  have b56:=bE.blk bq
  have nk:∀{b:Nat} {c:Array Value},w6.heap[b]?=some (.cells c 35)->¬b ∈ zQe qr:=λhb hk=>by obtain⟨qs,k1,_⟩:=xM.rs;exact k1.other hb (by decide) hk
  have b57:=m0.blk b56 (nk b56)
  refine⟨s',w7,hra,zQu b57 (by show 2<3;omega) λw8 hw8 kw=>?_⟩
  have oa:Fr (·=w3.heap.size) w7 w8:=by rw[hw8];exact Fr.cell w7 _ _ _
  have hF7:zKz w w7 qf σ.t.fields:=xM.fs.fr m0 λk hk e=>by obtain⟨qs,k1,_⟩:=xM.rs;exact zQr xM.fs.1 k1 (by decide) k hk e
  have hO8:zZJ w w8 { σ.t with recs:=σ.t.recs ++ [(⟨false,[]⟩:Rec)] } qf s':=zZJ.other (t:={ σ.t with recs:=σ.t.recs ++ [(⟨false,[]⟩:Rec)] }) ⟨hF7,n7⟩ oa b57
  have dP:Pu w w8:=((eE.trans bE).andNew m0 xM.rs.own).andNew oa λi hi=>by rw[show i=_ from hi];omega
  have lt0:w.heap.size<w1.heap.size:=zQy aA
  have rW:w7.heap[w.heap.size]?=some (.cells #[.bool x.gone,slV s] 67):=m0.blk (bE.blk iN) λhk=>by
   have hown:∀b ∈ zQe qr,w1.heap.size<=b:=hO.rs.own
   have:=hown _ hk;omega
  have qp:=oa.blk rW (show ¬w.heap.size=w3.heap.size by omega)
  exact yZx h dP hne hn qp (hr.pu dP) hl kw hO8 (by rw[List.length_append,List.length_singleton];omega) (by rw[List.length_append,List.length_singleton];omega) hv'
 ·have c:=zQd c
  have ej:j<σ.t.recs.length:=by omega
  have eP:yVN σ.t.recs j x=σ.t.recs.set j x:=by unfold yVN;rw[if_pos ej]
  rw[eP]at hv' ⊢
  exact yZx h eE hne hn iN (hr.pu eE) hl bq hO5 ej (by omega) hv'
end Go.Proofs.YtaeecpjhfmcliaaGreatDoor
/- The log: records are replaced and marked; values are set; the log is made clean. No condition but those stated. -/
namespace Go.Proofs.YtaeecpjhfmcliaaGreatDoor
open Go.Sh Go.RowKit Tryz
variable {w0 w w' : World} {X : Nat -> Prop} {L L' : SL} {d d' : Dat} {mu : Int} {p : Int} {f : List Fld}
theorem zJ7{σ:Sto}{k:Int}(h:zXc σ k=true)(hn:σ.t.recs.length<=300):∃j:Nat,k=(j:Int)+1/\j<σ.t.recs.length/\(k - 1).toNat=j/\IntKind.i64.wrap (k - 1)=(j:Int):=by
 unfold zXc at h
 simp only[Bool.and_eq_true,decide_eq_true_eq]at h
 refine⟨(k - 1).toNat,by omega,by omega,rfl,?_⟩
 rw[zQa (by omega) (by omega)];omega
theorem modW (hi:Inv p f d) {j:Nat} {g:Rec->Rec} (hg:∀y,d.σ.t.recs[j]?=some y->zQ1 f p (g y)=0):InvW p f (d.to { d.σ with t:={ d.σ.t with recs:=d.σ.t.recs.modify j g } }):=
 zJ8 hi (by rw[List.length_modify];exact(zQM.of hi.t.ok).n300) (by rw[List.length_modify];exact Nat.le_refl _) λx hx=>by
  rcases zVl hx with hx|⟨y,hy,rfl⟩
  ·exact hi.recR x hx
  ·exact hg y hy
theorem put_c(h:zQF X w L d 0)(hi:Inv p f d)(hs:Fit d)(k:Int){s:SV}{r:Rec}(hr:RecK w L s r):Calls prog 38 #[L.ptr,.int .i64 k,.agg #[.bool r.gone,slV s]] w (yXg X w L (.int .i64 (yZI d.σ k r)) (d.put k r)):=by
 have hS:=h.S_lt
 have cJ:=(zQM.of hi.t.ok).n300
 have hrl:=h.now.rlen
 refine xQ0 _ _ _ _ w _ (alB λw1 ar aA=>(zXd h ar).mono ?_)
 rintro e w2 ⟨rfl,hI,hf,hsz⟩
 have h2:=hI.at_ h
 have nX:w.heap.size<w1.heap.size:=zQy aA
 have b2:=hf.blk aA (show ¬w.heap.size=L.S by omega)
 have stay:∀{w3:World} (c:Int),yZI d.σ k r=c->c ≠ 0->Pu w2 w3->zQb prog [zZn L] w3 λw4=>yXg X w L (.int .i64 (yZI d.σ k r)) (d.put k r) (.returned (.int .i64 c)) w4:=λ{w3} c hc h0 hp=>by
  have e2:d.put k r=d:=by unfold Dat.put;rw[if_neg (by rw[hc];exact h0)]
  rw[e2,hc]
  exact zXK (h2.pu hp) (hI.left.trans (zXY.pu hp L))
 refine⟨_,_,rfl,zZT (Br.of (λc=>by cases c) λ_=>(zY7 h2 (by omega) k).mono ?_)⟩
 rintro e w4 ⟨rfl,rfl⟩
 refine⟨_,rfl,Br.of (λc=>?_) (λc=>?_)⟩
 ·have c:zXc d.σ k=false:=by simpa using c
  exact stay 4 (by unfold yZI;rw[if_neg (by rw[c];simp)]) (by decide) (Pu.refl _)
 have c:zXc d.σ k=true:=by simpa using c
 have eC:yZI d.σ k r=zQ1 d.σ.t.fields d.σ.t.page r:=by unfold yZI;rw[if_pos c]
 obtain⟨j,hk,hj,hjn,hwj⟩:=zJ7 c cJ
 have jg:zX3 w4 s r.v:=hr w4 (hI.left.fr)
 refine⟨r.gone,cl b2 0,s,cl b2 1,(xVO h2 hi.t.ok jg).mono ?_⟩
 rintro e w6 ⟨rfl,bE⟩
 refine⟨_,rfl,Br.of (λc1=>stay _ eC (zQw c1) bE) (λc1=>?_)⟩
 have c1:zQ1 d.σ.t.fields d.σ.t.page r=0:=zQq c1
 have oQ:r.v.length<=1000000:=by have:=zX1 c1;have:=(zJf.of hi.t.ok).n16;omega
 refine zQc λw8 bW _=>?_
 have im:=bE.trans bW
 have h8:=h2.pu im
 have b8:=im.blk b2
 refine⟨λu=>Pu w8 u,Pu.refl _,L.now.r,λu hu=>(h8.pu hu).cellB 2 2,r.gone,λu hu=>cl0 (hu.blk b8),s,λu hu=>cl (hu.blk b8) 1,(yXy (RdV.of (jg.pu im)) oQ).mono ?_⟩
 rintro e aP ⟨q,rfl,hq,hqn,dr⟩
 have mV:=h8.pu dr
 have hnl:∀b,(b ∈ zQe L.now.r∨b ∈ vBl L.now.hs)->b<w8.heap.size:=λb hb=>h8.own_lt (xXq hb)
 have eA:d.put k r=d.recs (d.σ.t.recs.set j r):=by unfold Dat.put;rw[if_pos (by rw[eC];exact c1),hjn]
 refine⟨q,rfl,dr,?_⟩
 rw[hwj]
 obtain⟨a,ha,hst⟩:=mV.now.set hj (x:=r) hq (λb hb hc=>by have:=hqn b hb;have:=hnl b (.inr hc);omega) (K:=λaQ=>Calls prog 79 #[L.ptr] aQ λe aJ=>e=.returned (.tuple #[])/\zQb prog [zZn L] aJ λbB=>yXg X w L (.int .i64 (yZI d.σ k r)) (d.put k r) (.returned (.int .i64 0)) bB) λaQ oR eH=>by
  have kr:=eH.blk mV.st (mV.now.rw_.other mV.st (by decide))
  obtain⟨mT,rK⟩:=h8.reNow dr eH (λb hb=>.inr (.inl hb)) (q:={ L.now with hs:=L.now.hs.set j (r.gone,q) }) (t:={ d.σ.t with recs:=d.σ.t.recs.set j r }) kr oR (λb hb=>by
   rcases hb with hb|hb
   ·exact .inl (.inl hb)
   ·rcases xY6 (by rw[mV.now.len];exact hj) b hb with hb|hb
    ·exact .inl (.inr hb)
    ·exact .inr (hqn b hb)) rfl rfl
  have hLall:=(hI.left.trans (zXY.pu im L)).trans rK
  have hW:=zJ8 (l:=d.σ.t.recs.set j r) hi (by rw[List.length_set];omega) (by rw[List.length_set];exact Nat.le_refl _) λx hx=>by
   rcases List.mem_or_eq_of_mem_set hx with hx|rfl
   ·exact hi.recR x hx
   ·rw[←hi.t.fields,←hi.t.page];exact c1
  refine(yQK mT hLall hW ⟨hs.l1,hs.l2,hs.wn,hs.dn⟩).mono ?_
  rintro e bm ⟨rfl,L2,rJ,jS⟩
  refine⟨rfl,?_⟩
  rw[eA,eC,c1]
  exact zXW rJ jS jS.ptr.symm
 exact⟨a,ha,by omega,by omega,by rw[zXn];exact hst⟩
theorem mark_c(h:zQF X w L d 0)(hi:Inv p f d)(hs:Fit d)(k:Int)(g:Bool):Calls prog 39 #[L.ptr,.int .i64 k,.bool g] w (yXg X w L (.int .i64 (zYL d.σ k)) (d.mark k g)):=by
 have hS:=h.S_lt
 have cJ:=(zQM.of hi.t.ok).n300
 have hrl:=h.now.rlen
 refine xQD _ _ _ w _ ((zXd h (Pu.refl w)).mono ?_)
 rintro e w2 ⟨rfl,hI,hf,hsz⟩
 have h2:=hI.at_ h
 refine⟨_,_,rfl,zZT (Br.of (λc=>by cases c) λ_=>(zY7 h2 (by omega) k).mono ?_)⟩
 rintro e w4 ⟨rfl,rfl⟩
 refine⟨_,rfl,Br.of (λc=>?_) (λc=>?_)⟩
 ·have c:zXc d.σ k=false:=by simpa using c
  have e1:zYL d.σ k=4:=by unfold zYL;rw[if_neg (by rw[c];simp)]
  have e2:d.mark k g=d:=by unfold Dat.mark;rw[if_neg (by rw[c];simp)]
  rw[e1,e2]
  exact zXK h2 hI.left
 have c:zXc d.σ k=true:=by simpa using c
 obtain⟨j,hk,hj,hjn,hwj⟩:=zJ7 c cJ
 have e1:zYL d.σ k=0:=by unfold zYL;rw[if_pos c]
 have e2:d.mark k g=d.recs (d.σ.t.recs.modify j λr=>{ r with gone:=g }):=by unfold Dat.mark;rw[if_pos c,hjn]
 refine⟨L.now.r,h2.cellB 2 2,?_⟩
 rw[hwj]
 obtain⟨a,ha,hst⟩:=h2.now.mark hj g (K:=λaQ=>Calls prog 79 #[L.ptr] aQ λe aJ=>e=.returned (.tuple #[])/\zQb prog [zZn L] aJ λbB=>yXg X w L (.int .i64 (zYL d.σ k)) (d.mark k g) (.returned (.int .i64 0)) bB) λaQ hs' oR hv12 eH=>by
  have kr:=eH.blk h2.st (h2.now.rw_.other h2.st (by decide))
  obtain⟨mT,rK⟩:=h2.reNow (Pu.refl _) eH (λb hb=>.inr (.inl hb)) (q:={ L.now with hs:=hs' }) (t:={ d.σ.t with recs:=d.σ.t.recs.modify j λr=>{ r with gone:=g } }) kr oR (λb hb=>.inl (hb.imp id λhb=>by rw[←hv12];exact hb)) rfl rfl
  have hW:=modW hi (j:=j) (g:=λr=>{ r with gone:=g }) λy hy=>hi.recR y (List.mem_of_getElem? hy)
  refine(yQK mT (hI.left.trans rK) hW ⟨hs.l1,hs.l2,hs.wn,hs.dn⟩).mono ?_
  rintro e bm ⟨rfl,L2,rJ,jS⟩
  refine⟨rfl,?_⟩
  rw[e1,e2]
  exact zXW rJ jS jS.ptr.symm
 exact⟨a,ha,by omega,by omega,by rw[zXn];exact hst⟩
theorem xYj(h:zQF X w L d 0)(hi:Inv p f d)(hs:Fit d)(k:Int)(nm:ByteArray)(v:Val):Calls prog 40 #[L.ptr,.int .i64 k,.string nm,.agg #[.int .i64 v.kind,.int .i64 v.n,.string v.s]] w (yXg X w L (.int .i64 (yX7 d.σ k nm v)) (d.set k nm v)):=by
 have hS:=h.S_lt
 have cJ:=(zQM.of hi.t.ok).n300
 have hrl:=h.now.rlen
 refine xQs _ _ _ _ _ _ w _ (alB λw1 ar aA=>(zXd h ar).mono ?_)
 rintro e w2 ⟨rfl,hI,hf,hsz⟩
 have h2:=hI.at_ h
 have nX:w.heap.size<w1.heap.size:=zQy aA
 have b2:=hf.blk aA (show ¬w.heap.size=L.S by omega)
 refine⟨_,_,rfl,zZT (Br.of (λc=>by cases c) λ_=>⟨L.now.f,h2.cellB 2 1,(xYH h2.kp0.nf nm).mono ?_⟩)⟩
 rintro e w5 ⟨rfl,aT⟩
 have h5:=h2.pu aT
 have stay:∀{w3:World} (c:Int),Ins w w3 L->yX7 d.σ k nm v=c->d.set k nm v=d->zQb prog [zZn L] w3 λw4=>yXg X w L (.int .i64 (yX7 d.σ k nm v)) (d.set k nm v) (.returned (.int .i64 c)) w4:=λ{w3} c hi3 hc hd=>by
  rw[hd,hc]
  exact zXK (hi3.at_ h) hi3.left
 refine⟨_,_,rfl,Br.of (λc=>?_) (λc=>?_)⟩
 ·have c:yQc d.σ.t.fields nm=none:=by simpa using c
  exact stay 4 (hI.pu aT) (by unfold yX7;rw[c]) (by unfold Dat.set;rw[c])
 have c:(yQc d.σ.t.fields nm).isSome=true:=by simpa using c
 obtain⟨i,hidx⟩:=Option.isSome_iff_exists.1 c
 have hil:=xQr hidx
 have eK:xZK d.σ.t.fields nm=(i:Int):=by unfold xZK;rw[hidx];rfl
 have eC:yX7 d.σ k nm v=if zXc d.σ k then(zZO (d.σ.t.fields.getD i default) d.σ.t.page v).2 else 4:=by unfold yX7;rw[hidx]
 have eS:d.set k nm v=if zXc d.σ k/\(zZO (d.σ.t.fields.getD i default) d.σ.t.page v).2=0 then d.recs (d.σ.t.recs.modify (k - 1).toNat λr=>{ r with v:=r.v.set i (zZO (d.σ.t.fields.getD i default) d.σ.t.page v).1 })else d:=by unfold Dat.set;rw[hidx]
 refine(zY7 h5 (by omega) k).mono ?_
 rintro e w7 ⟨rfl,rfl⟩
 refine⟨_,rfl,Br.of (λc1=>?_) (λc1=>zQc λw9 cE _=>?_)⟩
 ·have c1:zXc d.σ k=false:=by simpa using c1
  exact stay 4 (hI.pu aT) (by rw[eC,if_neg (by rw[c1];simp)]) (by rw[eS,if_neg (by rw[c1];simp)])
 have c1:zXc d.σ k=true:=by simpa using c1
 obtain⟨j,hk,hj,hjn,hwj⟩:=zJ7 c1 cJ
 have pQ:=aT.trans cE
 have h9:=h2.pu pQ
 have b9:=pQ.blk b2
 obtain⟨fl,hfl⟩:=zQK hil
 have efl:d.σ.t.fields.getD i default=fl:=by rw[List.getD_eq_getElem?_getD,hfl];rfl
 rw[efl]at eC eS
 obtain⟨a,ha,hia,_,_,_,f0,f1,f2,f3⟩:=zJi h9.kp0.nf hfl
 rw[eK]
 have fB:=List.all_eq_true.1 (zJf.of hi.t.ok).all fl (List.mem_of_getElem? hfl)
 refine⟨L.now.f,h9.cellB 2 1,a,ha,by omega,by omega,_,by rw[zXn];exact f0,_,by rw[zXn];exact f1,_,by rw[zXn];exact f2,_,by rw[zXn];exact f3,d.σ.t.page,by rw[h9.cellA 2,←h9.now.page];rfl,_,cl b9 0,_,cl b9 1,_,cl b9 2,(fit_c fl d.σ.t.page v (by have:=(zQZ fB).2.1;omega) w9).mono ?_⟩
 rintro e aJ ⟨rfl,bj⟩
 refine⟨_,_,_,_,rfl,zQg (bj.blk b9) xYy.symm rfl rfl λbB iB ob _=>?_⟩
 have hI14:Ins w bB L:=((hI.pu pQ).pu bj).box ob hS (Nat.le_refl _)
 refine Br.of (λc2=>?_) (λc2=>zQc λbF dQ _=>?_)
 ·have c2:(zZO fl d.σ.t.page v).2 ≠ 0:=zQw c2
  exact stay _ hI14 (by rw[eC,if_pos c1]) (by rw[eS,if_neg (λe=>c2 e.2)])
 have c2:(zZO fl d.σ.t.page v).2=0:=zQq c2
 have hI16:=hI14.pu dQ
 have iP:=hI16.at_ h
 have iQ:=dQ.blk iB
 obtain⟨y,hy⟩:=zQK (l:=L.now.hs) (k:=j) (by rw[h.now.len];exact hj)
 obtain⟨r,hrj⟩:=zQK hj
 have hvl:r.v.length=d.σ.t.fields.length:=zX1 ((zQM.of hi.t.ok).recs r (List.mem_of_getElem? hrj))
 obtain⟨e1,hV⟩:=iP.now.rec_ j y r hy hrj
 have hyl:=hV.len zX6 (by decide)
 obtain⟨aa,haa,_,g1⟩:=iP.now.rw_.elem zQL hy (o:=1) rfl
 rw[hwj,zXn]
 refine⟨L.now.r,iP.cellB 2 2,aa,haa,by omega,by omega,y.2,g1,_,cl iQ 0,_,cl iQ 1,_,cl iQ 2,?_⟩
 have eA:d.set k nm v=d.recs (d.σ.t.recs.modify j λr=>{ r with v:=r.v.set i (zZO fl d.σ.t.page v).1 }):=by rw[eS,if_pos ⟨c1,c2⟩,hjn]
 have eC2:yX7 d.σ k nm v=0:=by rw[eC,if_pos c1];exact c2
 obtain⟨av,hav,hst⟩:=iP.now.setV hrj (i:=i) (by omega) (zZO fl d.σ.t.page v).1 hy (K:=λaQ=>Calls prog 79 #[L.ptr] aQ λe aJ=>e=.returned (.tuple #[])/\zQb prog [zZn L] aJ λbB=>yXg X w L (.int .i64 (yX7 d.σ k nm v)) (d.set k nm v) (.returned (.int .i64 0)) bB) λaQ oR eH=>by
  have kr:=eH.blk iP.st (hV.other iP.st (by decide))
  obtain⟨mT,rK⟩:=iP.reNow (Pu.refl _) eH (λb hb=>.inr (.inr (zVi (List.mem_of_getElem? hy) hb))) (q:=L.now) (t:={ d.σ.t with recs:=d.σ.t.recs.modify j λr=>{ r with v:=r.v.set i (zZO fl d.σ.t.page v).1 } }) kr oR (λb hb=>.inl hb) rfl rfl
  have hW:=modW hi (j:=j) (g:=λr=>{ r with v:=r.v.set i (zZO fl d.σ.t.page v).1 }) λy hy=>zY6 (hi.recR y (List.mem_of_getElem? hy)) λg hg=>by
   have:g=fl:=by rw[←hi.t.fields,hfl]at hg;exact(Option.some.inj hg).symm
   rw[this,←hi.t.page]
   exact yX0 c2
  refine(yQK mT (hI16.left.trans rK) hW ⟨hs.l1,hs.l2,hs.wn,hs.dn⟩).mono ?_
  rintro e bm ⟨rfl,L2,rJ,jS⟩
  refine⟨rfl,?_⟩
  rw[eA,eC2]
  exact zXW rJ jS jS.ptr.symm
 exact⟨av,hav,by omega,by omega,by rw[zXn];exact hst⟩
end Go.Proofs.YtaeecpjhfmcliaaGreatDoor
/- The log: the reference puts records behind, replaces and marks them; sets values; tells what differs. No condition but those stated. -/
namespace Go.Proofs.YtaeecpjhfmcliaaGreatDoor
open Go.Sh Go.RowKit Tryz
variable {w0 w w' : World} {X : Nat -> Prop} {R R' : RL} {p : Int} {f : List Fld} {d : Dat}
def xVU(R:Rt)(p0:Option Addr)(n1 cZ cu:Int)(cq:Nat)(ds:Ds)(bT:World):Prop:=
 Br (cu != 0) (
 zQb prog ds bT λbX=>
 R (.returned (.int .i64 cu)) bX) (
 zQf p0 λpG=>
 ∃ka:SV,bT.cell? (pG.add 2)=some (.slice ka.a ka.len ka.cap)/\
 ∃oJ:Addr,ka.a=some oJ/\0<=(IntKind.i64.wrap (n1 - 1))/\(IntKind.i64.wrap (n1 - 1))<((ka.len:Nat):Int)/\
 ∃jL:Bool,bT.cell? ((oJ.add ((IntKind.i64.wrap (n1 - 1)).toNat * 2)).add 0)=some (.bool jL)/\
 ∃dd:SV,bT.cell? ((oJ.add ((IntKind.i64.wrap (n1 - 1)).toNat * 2)).add 1)=some (.slice dd.a dd.len dd.cap)/\
 Calls prog 102 #[.agg #[.bool jL,.slice dd.a dd.len dd.cap]] bT λe dw=>
 ∃jM:Bool,∃bw:SV,e=.returned (.agg #[.bool jM,.slice bw.a bw.len bw.cap])/\
 alE (.cells #[.bool false,.slice none 0 0] 67) dw λqa dH=>
 stA prog 67 (⟨qa,0,none⟩:Addr) #[.bool jM,.slice bw.a bw.len bw.cap] dH λfj=>
 xZG R p0 n1 cZ (some (⟨cq,0,none⟩:Addr)) (some (⟨qa,0,none⟩:Addr)) ds fj)
theorem yQh {α:Type} {l:List α} {j:Nat} {y:α} (hj:l[j]?=some y) (g:α->α):l.modify j g=l.set j (g y):=by
 have hlt:=(List.getElem?_eq_some_iff.1 hj).1
 apply List.ext_getElem?
 intro i
 rw[List.getElem?_modify,List.getElem?_set]
 by_cases e:j=i
 ·subst e
  rw[if_pos rfl,if_pos hlt,hj];simp
 ·rw[if_neg e];simp[e]
theorem zYF{l:List Rec}{j:Nat}(h:j<l.length)(x:Rec):yVN l j x=l.set j x:=by unfold yVN;rw[if_pos h]
theorem yK3(l:List Rec)(x:Rec):yVN l l.length x=l ++ [x]:=by unfold yVN;rw[if_neg (by omega)]
theorem xXj(hi:Inv p f d){r:Rec}(hr:zQ1 d.σ.t.fields d.σ.t.page r=0)(hn:d.σ.t.recs.length<300):zQh { d.σ.t with recs:=yVN d.σ.t.recs d.σ.t.recs.length r }=0:=by
 rw[yK3]
 exact(zJ8 (l:=d.σ.t.recs ++ [r]) hi (by rw[List.length_append,List.length_singleton];omega) (by rw[List.length_append];omega) λx hx=>by
  rcases List.mem_append.1 hx with hx|hx
  ·exact hi.recR x hx
  ·rw[List.mem_singleton.1 hx,←hi.t.fields,←hi.t.page];exact hr).t.ok
theorem zYK(hi:Inv p f d){r:Rec}{j:Nat}(hj:j<d.σ.t.recs.length)(hr:zQ1 d.σ.t.fields d.σ.t.page r=0):zQh { d.σ.t with recs:=yVN d.σ.t.recs j r }=0:=by
 rw[zYF hj]
 exact(zJ8 (l:=d.σ.t.recs.set j r) hi (by rw[List.length_set];exact(zQM.of hi.t.ok).n300) (by rw[List.length_set];exact Nat.le_refl _) λx hx=>by
  rcases List.mem_or_eq_of_mem_set hx with hx|rfl
  ·exact hi.recR x hx
  ·rw[←hi.t.fields,←hi.t.page];exact hr).t.ok
theorem rapp_c(h:zQH X w R d.σ)(hi:Inv p f d)(hn:d.σ.done.length<=1000000){s:SV}{r:Rec}(hr:zX3 w s r.v):Calls prog 63 #[R.ptr,.agg #[.bool r.gone,slV s]] w (zJ6 X w R (.tuple #[.int .i64 (yVO d.σ r),.int .i64 (yZJ d.σ r)]) (xJR d.σ r)):=by
 have cJ:=(zQM.of hi.t.ok).n300
 have hrl:=h.kp0.t.2.recs.len
 refine yYE _ _ _ w _ (alB λw1 ar aA=>?_)
 have h1:=h.pu ar
 have stay:∀{w3:World} (c:Int),yZJ d.σ r=c->c ≠ 0->Pu w w3->zJ6 X w R (.tuple #[.int .i64 (yVO d.σ r),.int .i64 (yZJ d.σ r)]) (xJR d.σ r) (.returned (.tuple #[.int .i64 0,.int .i64 c])) w3:=λ{w3} c hc h0 hp=>by
  have e1:yVO d.σ r=0:=by unfold yVO;rw[if_neg (by rw[hc];exact h0)]
  have e2:xJR d.σ r=d.σ:=by unfold xJR;rw[if_neg (by rw[hc];exact h0)]
  rw[e1,e2,hc]
  exact⟨rfl,R,h.pu hp,zXt.pu hp R⟩
 refine⟨R.t.r,h1.cell 2,?_⟩
 rw[zQa (by omega) (by omega)]
 refine Br.of (λc=>stay 3 (by unfold yZJ;rw[if_pos (by have:=zQj c;omega)]) (by decide) ar) (λc=>zQc λw4 aK _=>?_)
 have c:¬300<=d.σ.t.recs.length:=by have:=zQd c;omega
 have eC:yZJ d.σ r=zQ1 d.σ.t.fields d.σ.t.page r:=by unfold yZJ;rw[if_neg c]
 have ct:=ar.trans aK
 have h4:=h.pu ct
 have b4:=aK.blk aA
 refine⟨R.t.f,h4.cell 1,R.t.page,h4.cell0,r.gone,cl b4 0,s,cl b4 1,?_⟩
 rw[h4.kp0.t.1]
 refine(zWm d.σ.t.page h4.kp0.t.2.fields (hr.pu ct)).mono ?_
 rintro e w7 ⟨rfl,cy⟩
 have gg:=ct.trans cy
 have b7:=cy.blk b4
 refine⟨_,rfl,Br.of (λc1=>stay _ eC (zQw c1) gg) (λc1=>⟨r.gone,cl b7 0,s,cl b7 1,?_⟩)⟩
 have c1:zQ1 d.σ.t.fields d.σ.t.page r=0:=zQq c1
 have oQ:r.v.length<=1000000:=by have:=zX1 c1;have:=(zJf.of hi.t.ok).n16;omega
 have e0:((R.t.r.len:Nat):Int)+1=(d.σ.t.recs.length:Int)+1:=by omega
 rw[e0]
 refine(yK6 (h.pu gg) hi.t.ok hi.ne hn (RdV.of (hr.pu gg)) oQ (Nat.le_refl _) (xXj hi c1 (by omega))).mono ?_
 rintro e w9 ⟨rfl,R9,h9,xc⟩
 have e1:yVO d.σ r=(d.σ.t.recs.length:Int)+1:=by unfold yVO;rw[if_pos (by rw[eC];exact c1)]
 have e2:xJR d.σ r=zXE d.σ (d.σ.t.recs ++ [r]):=by unfold xJR;rw[if_pos (by rw[eC];exact c1)]
 rw[yK3]at h9
 refine⟨rfl,?_⟩
 rw[e1,e2,eC,c1]
 exact⟨rfl,R9,h9,(zXt.pu gg R).trans xc⟩
theorem xVW(h:zQH X w R d.σ)(hi:Inv p f d)(hn:d.σ.done.length<=1000000)(k:Int){s:SV}{r:Rec}(hr:zX3 w s r.v):Calls prog 64 #[R.ptr,.int .i64 k,.agg #[.bool r.gone,slV s]] w (zJ6 X w R (.int .i64 (yZI d.σ k r)) (xJE d.σ k r)):=by
 have cJ:=(zQM.of hi.t.ok).n300
 refine yYI _ _ _ _ w _ (alB λw1 ar aA=>?_)
 have stay:∀{w3:World} (c:Int),yZI d.σ k r=c->c ≠ 0->Pu w w3->zJ6 X w R (.int .i64 (yZI d.σ k r)) (xJE d.σ k r) (.returned (.int .i64 c)) w3:=λ{w3} c hc h0 hp=>by
  have e2:xJE d.σ k r=d.σ:=by unfold xJE;rw[if_neg (by rw[hc];exact h0)]
  rw[e2,hc]
  exact⟨rfl,R,h.pu hp,zXt.pu hp R⟩
 refine(yXs (h.pu ar) k).mono ?_
 rintro e w2 ⟨rfl,rfl⟩
 refine⟨_,rfl,Br.of (λc=>?_) (λc=>zQc λw4 aK _=>?_)⟩
 ·have c:zXc d.σ k=false:=by simpa using c
  exact stay 4 (by unfold yZI;rw[if_neg (by rw[c];simp)]) (by decide) ar
 have c:zXc d.σ k=true:=by simpa using c
 have eC:yZI d.σ k r=zQ1 d.σ.t.fields d.σ.t.page r:=by unfold yZI;rw[if_pos c]
 obtain⟨j,hk,hj,hjn,hwj⟩:=zJ7 c cJ
 have ct:=ar.trans aK
 have h4:=h.pu ct
 have b4:=aK.blk aA
 refine⟨R.t.f,h4.cell 1,R.t.page,h4.cell0,r.gone,cl b4 0,s,cl b4 1,?_⟩
 rw[h4.kp0.t.1]
 refine(zWm d.σ.t.page h4.kp0.t.2.fields (hr.pu ct)).mono ?_
 rintro e w7 ⟨rfl,cy⟩
 have gg:=ct.trans cy
 have b7:=cy.blk b4
 refine⟨_,rfl,Br.of (λc1=>stay _ eC (zQw c1) gg) (λc1=>⟨r.gone,cl b7 0,s,cl b7 1,?_⟩)⟩
 have c1:zQ1 d.σ.t.fields d.σ.t.page r=0:=zQq c1
 have oQ:r.v.length<=1000000:=by have:=zX1 c1;have:=(zJf.of hi.t.ok).n16;omega
 have eS:xJE d.σ k r=zXE d.σ (d.σ.t.recs.set j r):=by unfold xJE;rw[if_pos (by rw[eC];exact c1),hjn]
 rw[eS,eC,c1,hk]
 refine(yK6 (h.pu gg) hi.t.ok hi.ne hn (RdV.of (hr.pu gg)) oQ (Nat.le_of_lt hj) (zYK hi hj c1)).mono ?_
 rintro e w9 ⟨rfl,R9,h9,xc⟩
 rw[zYF hj]at h9
 exact⟨rfl,rfl,R9,h9,(zXt.pu gg R).trans xc⟩
theorem xVY(h:zQH X w R d.σ)(hi:Inv p f d)(hn:d.σ.done.length<=1000000)(k:Int)(g:Bool):Calls prog 65 #[R.ptr,.int .i64 k,.bool g] w (zJ6 X w R (.int .i64 (zYL d.σ k)) (yJw d.σ k g)):=by
 have cJ:=(zQM.of hi.t.ok).n300
 have hrl:=h.kp0.t.2.recs.len
 refine xQ9 _ _ _ w _ ((yXs h k).mono ?_)
 rintro e w1 ⟨rfl,rfl⟩
 refine⟨_,rfl,Br.of (λc=>?_) (λc=>?_)⟩
 ·have c:zXc d.σ k=false:=by simpa using c
  have e1:zYL d.σ k=4:=by unfold zYL;rw[if_neg (by rw[c];simp)]
  have e2:yJw d.σ k g=d.σ:=by unfold yJw;rw[if_neg (by rw[c];simp)]
  rw[e1,e2]
  exact⟨rfl,R,h,zXt.refl _ R⟩
 have c:zXc d.σ k=true:=by simpa using c
 obtain⟨j,hk,hj,hjn,hwj⟩:=zJ7 c cJ
 obtain⟨y,hy⟩:=zQK hj
 have e1:zYL d.σ k=0:=by unfold zYL;rw[if_pos c]
 have e2:yJw d.σ k g=zXE d.σ (d.σ.t.recs.set j { y with gone:=g }):=by unfold yJw;rw[if_pos c,hjn,yQh hy]
 obtain⟨a,q,ha,hjl,hV,c0,c1⟩:=zKn h.kp0.t.2.recs hy
 rw[hwj,zXn,e1,e2]
 have hyR:=hi.recR y (List.mem_of_getElem? hy)
 have oS:=zZg hi.t.ok y (List.mem_of_getElem? hy)
 refine⟨R.t.r,h.cell 2,a,ha,by omega,by omega,y.gone,c0,q,c1,(zKI (RdV.of hV) oS.2).mono ?_⟩
 rintro e w5 ⟨q',rfl,hq',aT⟩
 refine⟨_,q',rfl,alB λw6 bE gh=>zQg gh yWv.symm rfl rfl λw7 ko m0 _=>?_⟩
 have oT:Pu w5 w7:=bE.andNew m0 λi hi=>by rw[show i=_ from hi];exact Nat.le_refl _
 have z5:=aT.size
 refine zQu ko (by show 0<2;omega) λw8 hw8 kw=>?_
 have oa:Fr (·=w5.heap.size) w7 w8:=by rw[hw8];exact Fr.cell w7 _ _ _
 have dP:Pu w1 w8:=(aT.trans oT).andNew oa λi hi=>by rw[show i=_ from hi];exact z5
 have rL:Pu w5 w8:=oT.andNew oa λi hi=>by rw[show i=_ from hi];exact Nat.le_refl _
 have hq8:zX3 w8 q' y.v:=(hq'.pu rL).rdS oS.2 oS.1
 have hR2:zQ1 d.σ.t.fields d.σ.t.page { y with gone:=g }=0:=by rw[hi.t.fields,hi.t.page];exact hyR
 refine⟨g,cl kw 0,q',cl kw 1,?_⟩
 rw[hk]
 refine(yK6 (x:={ y with gone:=g }) (h.pu dP) hi.t.ok hi.ne hn (RdV.of hq8) oS.2 (Nat.le_of_lt hj) (zYK hi hj hR2)).mono ?_
 rintro e w9 ⟨rfl,R9,h9,xc⟩
 rw[zYF hj]at h9
 exact⟨rfl,rfl,R9,h9,(zXt.pu dP R).trans xc⟩
end Go.Proofs.YtaeecpjhfmcliaaGreatDoor
