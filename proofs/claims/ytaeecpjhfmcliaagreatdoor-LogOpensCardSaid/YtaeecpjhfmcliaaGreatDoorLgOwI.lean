import Derived.Test.YtaeecpjhfmcliaaGreatDoorLgOwH
import Derived.Test.YtaeecpjhfmcliaaGreatDoorLgPrB
import Derived.Test.YtaeecpjhfmcliaaGreatDoorLgOwG
import Derived.Test.YtaeecpjhfmcliaaGreatDoorLgOwC
import Derived.Test.YtaeecpjhfmcliaaGreatDoorShThirteen
/- The log: transactions are begun, ended and taken back. No condition but those stated. -/
set_option maxRecDepth 100000
set_option linter.unusedVariables false
set_option linter.unusedSimpArgs false
namespace Go.Proofs.YtaeecpjhfmcliaaGreatDoor
open Go.Sh Go.RowKit Tryz
variable {w0 w w' : World} {X : Nat -> Prop} {L L' : SL} {d d' : Dat} {mu : Int} {p : Int} {f : List Fld}
theorem zQS.st1S (h:zQS X w L d mu) {o:Nat} {v:Value} {K:World->Prop} (ho:o<11) (hK:∀w2,w2.heap[L.S]?=some (.cells ((zJr mu L).setIfInBounds o v) 108)->Fr (·=L.S) w w2->K w2):st1 ((⟨L.S,0,none⟩:Addr).add o) v w K:=by
 rw[zQr,Nat.zero_add]
 exact zQw h.st ho λw2 mr aN=>hK w2 aN (by rw[mr];exact Fr.cell w _ _ _)
def xQn(X:Nat->Prop)(w:World)(L:SL)(v:Value)(d':Dat):Rt:=λe w'=>e=.returned v/\∃L',zQS X w' L' d' 0/\zZy w w' L L'
theorem zJB{v:Value}(h:zQS X w L d 1)(hl:zZy w0 w L' L):zQc prog [zZ9 L] w λw2=>xQn X w0 L' v d (.returned v) w2:=yKd h hl λw3 h3 h4 _=>⟨rfl,L,h3,h4⟩
theorem zKc{v:Value}{L0:SL}(h:zQS X w L d 1)(hl:zZy w0 w L0 L)(hp:L0.S=L.S):zQc prog [zZ9 L0] w λw2=>xQn X w0 L0 v d (.returned v) w2:=by
 have:zZ9 L0=zZ9 L:=by unfold zZ9 SL.ptr;rw[hp]
 rw[this];exact zJB h hl
theorem yYI(h:zQS X w L d 0)(hi:InvW p f d):Calls prog 35 #[L.ptr] w (xQn X w L (.int .i64 (zVI d.σ)) d.begin):=by
 have hlv:=h.lv.len zQV (by decide)
 have hll:=h.ll
 have h8:=hi.l8
 refine yVm _ w _ ((zZ2 h (Pu.refl w)).mono ?_)
 rintro e w1 ⟨rfl,hI,hf,hs⟩
 have h1:=hI.at_ h
 refine⟨_,_,rfl,zVs (Br.of (λc=>by cases c) λ_=>⟨L.lv,h1.cellA 5,Br.of (λc=>?_) (λc=>?_)⟩)⟩
 ·have c:8<=d.σ.lev.length:=by have:=zQk c;omega
  have e1:zVI d.σ=3:=by unfold zVI;rw[if_pos c]
  have e2:d.begin=d:=by unfold Dat.begin Dat.to zKr;rw[if_pos c]
  rw[e1,e2]
  exact zJB h1 hI.left
 ·have c:¬8<=d.σ.lev.length:=by have:=zQd c;omega
  have e1:zVI d.σ=0:=by unfold zVI;rw[if_neg c]
  have e2:d.begin={ d with σ:={ d.σ with lev:=d.σ.lev ++ [d.σ.t] } }:=by unfold Dat.begin Dat.to zKr;rw[if_neg c]
  rw[e1,e2]
  refine zQf λw5 aV _=>?_
  have h5:=h1.pu aV
  refine⟨λu=>Pu w5 u,Pu.refl _,L.lv,λu hu=>(h5.pu hu).cellA 5,_,λu hu=>(h5.pu hu).cellB 2 0,L.now.f,λu hu=>(h5.pu hu).cellB 2 1,L.now.r,λu hu=>(h5.pu hu).cellB 2 2,?_⟩
  rw[h5.now.page]
  refine(zJf (h5.rdNow hi.t.ok) hi.t.ok).mono ?_
  rintro e w8 ⟨q,rfl,hq,bM⟩
  refine⟨q.page,q.f,q.r,rfl,bM,alB λw9 eH kH=>⟨bM.trans eH,?_⟩⟩
  obtain⟨s,aU,hr,hst⟩:=h5.pushLev (bM.trans eH) (hq.pu eH) hi.t.ok kH (by omega) (K:=λaX=>zQc prog [zZ9 L] aX λaK=>xQn X w L (.int .i64 0) { d with σ:={ d.σ with lev:=d.σ.lev ++ [d.σ.t] } } (.returned (.int .i64 0)) aK) λaX L1 mH nu=>
   zKc mH ((hI.left.trans (zZy.pu aV L)).trans nu) nu.ptr.symm
  exact⟨s,aU,hr,hst⟩
theorem yYO{e:TypeId}{sz:Nat}{s:SV}{vs:List Value}{n:Nat}(h:zQj w e sz s vs)(hn:n<=s.len)(ha:s.a ≠ none):zQj w e sz ⟨s.a,n,s.cap⟩ (vs.take (n * sz)):=by
 obtain⟨h1,hd|⟨g,cur,h3,h4,h5,h6,h7,h8⟩⟩:=h
 ·rw[hd]at ha;exact absurd rfl ha
 ·have hm:n * sz<=s.len * sz:=Nat.mul_le_mul_right _ hn
  refine⟨by rw[List.length_take,h1];exact Nat.min_eq_left hm,.inr ⟨g,cur,h3,h4,Nat.le_trans hn h5,h6,h7,?_⟩⟩
  rw[←h8,List.take_take,Nat.min_eq_left hm]
theorem xQb {α:Type} {l:List α} (h:l ≠ []):∃l0 x,l=l0 ++ [x]:=⟨l.dropLast,l.getLast h,(List.dropLast_concat_getLast h).symm⟩
structure yZM(L:SL)(d:Dat)(l0:List HT)(x:HT)(v0:List Tbl)(t:Tbl):Prop where
 lh:L.lh=l0 ++ [x]
 lev:d.σ.lev=v0 ++ [t]
def SL.pop(L:SL)(l0:List HT):SL:={ L with lv:=⟨L.lv.a,L.lv.len - 1,L.lv.cap⟩,lh:=l0 }
theorem yWT {l0:List HT} {x:HT} (h:L.lh=l0 ++ [x]) {b:Nat} (hb:(L.pop l0).own b):L.own b:=by
 rcases hb with hb|hb|hb|hb|hb|⟨z,hz,hb⟩
 ·exact .inl hb
 ·exact .inr (.inl hb)
 ·exact .inr (.inr (.inl hb))
 ·exact .inr (.inr (.inr (.inl hb)))
 ·exact .inr (.inr (.inr (.inr (.inl hb))))
 ·refine .inr (.inr (.inr (.inr (.inr ⟨z,?_,hb⟩))))
  have hz:z ∈ L.now :: l0:=hz
  rcases List.mem_cons.1 hz with rfl|hz
  ·exact List.mem_cons_self
  ·rw[h];exact List.mem_cons_of_mem _ (List.mem_append_left _ hz)
theorem pop_row(h:zQS X w L d mu){l0:List HT}{x:HT}{v0:List Tbl}{t:Tbl}(hP:yZM L d l0 x v0 t):zQj w 35 3 ⟨L.lv.a,L.lv.len - 1,L.lv.cap⟩ (l0.flatMap yJ8):=by
 have hl:=h.lv.len zQV (by decide)
 have hll:L.lh.length=l0.length+1:=by rw[hP.lh];simp
 have ha:L.lv.a ≠ none:=by
  obtain⟨_,hd|⟨g,cur,h3,_⟩⟩:=h.lv
  ·rw[hd]at hl
   have hl:0=L.lh.length:=hl
   omega
  ·rw[h3];simp
 have h1:=yYO h.lv (n:=L.lv.len - 1) (by omega) ha
 rw[hP.lh,List.flatMap_append,show L.lv.len - 1=l0.length by omega]at h1
 have e:(l0.flatMap yJ8).length=l0.length * 3:=zQ4 zQV l0
 rw[←e,List.take_left]at h1
 rw[show L.lv.len - 1=l0.length by omega]
 exact h1
theorem zQS.pop (h:zQS X w L d mu) {l0:List HT} {x:HT} {v0:List Tbl} {t:Tbl} (hP:yZM L d l0 x v0 t) (hf:Fr (·=L.S) w w') {mu':Int} (hst:w'.heap[L.S]?=some (.cells (zJr mu' (L.pop l0)) 108)):zQS X w' (L.pop l0) { d with σ:={ d.σ with lev:=v0 } } mu':=by
 have hr:=pop_row h hP
 have hll:l0.length=v0.length:=by
  have:=h.ll
  rw[hP.lh,hP.lev]at this;simpa using this
 have at0:∀{i:Nat} {y:HT},l0[i]?=some y->L.lh[i]?=some y:=λ{i y} hy=>by rw[hP.lh,List.getElem?_append_left (List.getElem?_eq_some_iff.1 hy).1];exact hy
 have sk:∀{i:Nat} {y:Tbl},v0[i]?=some y->d.σ.lev[i]?=some y:=λ{i y} hy=>by rw[hP.lev,List.getElem?_append_left (List.getElem?_eq_some_iff.1 hy).1];exact hy
 refine⟨hst,hr.fr hf λb hb e=>hr.other h.st (by decide) (by rw[←show b=L.S from e];exact hb),h.dn.fr hf λb hb e=>h.dn.other h.st (by decide) (by rw[←show b=L.S from e];exact hb),h.wr.fr hf λb hb e=>h.wr.other h.st (by decide) (by rw[←show b=L.S from e];exact hb),h.pt.fr hf λb hb e=>h.pt.other h.st (by decide) (by rw[←show b=L.S from e];exact hb),
  h.now.fr hf λb hb e=>h.now.other h.st (by decide) (by decide) (by rw[←show b=L.S from e];exact hb),hll,h.dl,h.wl,λi y u hy hu=>(h.lvs i y u (at0 hy) (sk hu)).fr hf λb hb e=>(h.lvs i y u (at0 hy) (sk hu)).other h.st (by decide) (by decide) (by rw[←show b=L.S from e];exact hb),h.ld,λy hy=>h.dj y (by rw[hP.lh];exact List.mem_append_left _ hy),λi j y z hij hy hz=>h.djl i j y z hij (at0 hy) (at0 hz),λb hb=>Nat.lt_of_lt_of_le (h.xl b hb) hf.size,λw2 h2=>?_⟩
 have k:=h.kp w2 ((hf.mono λb hb _=>.inl (.inl hb)).trans h2 λb hb _=>hb.imp (yWT hP.lh) id)
 exact⟨k.nf,λi y u hy hu=>k.lf i y u (at0 hy) (sk hu),k.dt,k.fi,k.la,k.wb⟩
def SL.undo(L:SL)(l0:List HT)(x:HT):SL:={ L with lv:=⟨L.lv.a,L.lv.len - 1,L.lv.cap⟩,lh:=l0,now:=x }
theorem yJ6 {l0:List HT} {x:HT} (h:L.lh=l0 ++ [x]) {b:Nat} (hb:(L.undo l0 x).own b):L.own b:=by
 rcases hb with hb|hb|hb|hb|hb|⟨z,hz,hb⟩
 ·exact .inl hb
 ·exact .inr (.inl hb)
 ·exact .inr (.inr (.inl hb))
 ·exact .inr (.inr (.inr (.inl hb)))
 ·exact .inr (.inr (.inr (.inr (.inl hb))))
 ·refine .inr (.inr (.inr (.inr (.inr ⟨z,?_,hb⟩))))
  have hz:z ∈ x :: l0:=hz
  rw[h]
  rcases List.mem_cons.1 hz with rfl|hz
  ·exact List.mem_cons_of_mem _ (List.mem_append_right _ (List.mem_singleton.2 rfl))
  ·exact List.mem_cons_of_mem _ (List.mem_append_left _ hz)
theorem zQS.undo (h:zQS X w L d mu) {l0:List HT} {x:HT} {v0:List Tbl} {t:Tbl} (hP:yZM L d l0 x v0 t) (hf:Fr (·=L.S) w w') {mu':Int} (hst:w'.heap[L.S]?=some (.cells (zJr mu' (L.undo l0 x)) 108)):zQS X w' (L.undo l0 x) { d with σ:={ d.σ with t:=t,lev:=v0 } } mu':=by
 have hr:=pop_row h hP
 have hll:l0.length=v0.length:=by
  have:=h.ll
  rw[hP.lh,hP.lev]at this;simpa using this
 have at0:∀{i:Nat} {y:HT},l0[i]?=some y->L.lh[i]?=some y:=λ{i y} hy=>by rw[hP.lh,List.getElem?_append_left (List.getElem?_eq_some_iff.1 hy).1];exact hy
 have sk:∀{i:Nat} {y:Tbl},v0[i]?=some y->d.σ.lev[i]?=some y:=λ{i y} hy=>by rw[hP.lev,List.getElem?_append_left (List.getElem?_eq_some_iff.1 hy).1];exact hy
 have lx:L.lh[l0.length]?=some x:=by rw[hP.lh,List.getElem?_append_right (Nat.le_refl _),Nat.sub_self];rfl
 have lt:d.σ.lev[l0.length]?=some t:=by rw[hP.lev,hll,List.getElem?_append_right (Nat.le_refl _),Nat.sub_self];rfl
 have hx:=h.lvs _ x t lx lt
 refine⟨hst,hr.fr hf λb hb e=>hr.other h.st (by decide) (by rw[←show b=L.S from e];exact hb),h.dn.fr hf λb hb e=>h.dn.other h.st (by decide) (by rw[←show b=L.S from e];exact hb),h.wr.fr hf λb hb e=>h.wr.other h.st (by decide) (by rw[←show b=L.S from e];exact hb),h.pt.fr hf λb hb e=>h.pt.other h.st (by decide) (by rw[←show b=L.S from e];exact hb),
  hx.fr hf λb hb e=>hx.other h.st (by decide) (by decide) (by rw[←show b=L.S from e];exact hb),hll,h.dl,h.wl,λi y u hy hu=>(h.lvs i y u (at0 hy) (sk hu)).fr hf λb hb e=>(h.lvs i y u (at0 hy) (sk hu)).other h.st (by decide) (by decide) (by rw[←show b=L.S from e];exact hb),h.ld,λy hy b hb hyb=>?_,λi j y z hij hy hz=>h.djl i j y z hij (at0 hy) (at0 hz),λb hb=>Nat.lt_of_lt_of_le (h.xl b hb) hf.size,λw2 h2=>?_⟩
 ·obtain⟨i,hi⟩:=List.getElem?_of_mem (show y ∈ l0 from hy)
  have:=(List.getElem?_eq_some_iff.1 hi).1
  exact h.djl l0.length i x y (by omega) lx (at0 hi) b hb hyb
 ·have k:=h.kp w2 ((hf.mono λb hb _=>.inl (.inl hb)).trans h2 λb hb _=>hb.imp (yJ6 hP.lh) id)
  exact⟨k.lf _ x t lx lt,λi y u hy hu=>k.lf i y u (at0 hy) (sk hu),k.dt,k.fi,k.la,k.wb⟩
theorem yJe(h:zQS X w L d 1)(hn:d.σ.lev.length<=1000000):Calls prog 80 #[L.ptr] w λe w'=>(d.σ.lev=[]/\e=.returned (.tuple #[.agg #[.int .i64 0,.slice none 0 0,.slice none 0 0],.int .i64 9])/\Pu w w') ∨
  ∃l0 x v0 t,yZM L d l0 x v0 t/\e=.returned (.tuple #[.agg #[.int .i64 x.page,slV x.f,slV x.r],.int .i64 0])/\Fr (·=L.S) w w'/\w'.heap[L.S]?=some (.cells (zJr 1 (L.pop l0)) 108):=by
 have hlv:=h.lv.len zQV (by decide)
 have hll:=h.ll
 have hS:=h.S_lt
 refine yVY _ w _ (alB λw1 ax aE=>?_)
 have h1:=h.pu ax
 refine⟨L.lv,h1.cellA 5,Br.of (λc=>?_) (λc=>?_)⟩
 ·have c:L.lv.len=0:=by simpa using c
  refine zQh aE zWx.symm rfl rfl λw3 bo fU _=>⟨_,cl bo 0,⟨none,0,0⟩,cl bo 1,⟨none,0,0⟩,cl bo 2,.inl ⟨List.eq_nil_of_length_eq_zero (by omega),rfl,ax.andNew fU λi hi=>by rw[show i=_ from hi];exact Nat.le_refl _⟩⟩
 ·have c:¬L.lv.len=0:=by simpa using c
  obtain⟨l0,x,hlh⟩:=xQb (l:=L.lh) (λe=>by rw[e]at hlv;simp at hlv;omega)
  obtain⟨v0,t,j1⟩:=xQb (l:=d.σ.lev) (λe=>by rw[e]at hll;simp at hll;rw[hll]at hlv;simp at hlv;omega)
  have hlen:L.lh.length=l0.length+1:=by rw[hlh];simp
  have hx:L.lh[L.lv.len - 1]?=some x:=by rw[hlh,List.getElem?_append_right (by omega),show L.lv.len - 1 - l0.length=0 by omega];rfl
  obtain⟨a,ha,hk,c0⟩:=h1.lv.elem zQV hx (o:=0) rfl
  obtain⟨a',ha',_,c1⟩:=h1.lv.elem zQV hx (o:=1) rfl
  obtain⟨a'',ha'',_,c2⟩:=h1.lv.elem zQV hx (o:=2) rfl
  rw[ha]at ha' ha'';cases ha';cases ha''
  rw[zQa (n:=((L.lv.len:Nat):Int) - 1) (by omega) (by omega),show((L.lv.len:Nat):Int) - 1=((L.lv.len - 1:Nat):Int)by omega,zZc]
  have hcap:=h1.lv.le_cap.1
  refine⟨L.lv,h1.cellA 5,a,ha,by omega,by omega,_,c0,x.f,c1,x.r,c2,alB λw7 cK nH=>zQh nH zWx.symm rfl rfl λw8 lZ sb _=>?_⟩
  have jS:Pu w1 w8:=cK.andNew sb λi hi=>by rw[show i=_ from hi];exact Nat.le_refl _
  have gj:=ax.trans jS
  have h8:=h.pu gj
  have me:w.heap.size<w1.heap.size:=zQz aE
  refine⟨L.lv,h8.cellA 5,by omega,by omega,by omega,?_⟩
  have esl:(if L.lv.cap=0 then L.lv.a else L.lv.a.map (λx=>x.add (0 * 3)))=L.lv.a:=by rw[if_neg (by omega),ha];show some (a.add (0 * 3))=_;rw[Nat.zero_mul,xZm]
  rw[esl,Nat.sub_zero,Nat.sub_zero]
  rw[zVS]
  refine h8.st1S (by decide) λaT fV jT=>?_
  have sl:=jT.blk lZ (show ¬w1.heap.size=L.S by omega)
  have zU:=jT.blk (jS.blk aE) (show ¬w.heap.size=L.S by omega)
  refine⟨_,cl sl 0,x.f,cl sl 1,x.r,cl sl 2,zQh zU zWx.symm rfl rfl λaX kK iP _=>⟨_,cl kK 0,x.f,cl kK 1,x.r,cl kK 2,.inr ⟨l0,x,v0,t,⟨hlh,j1⟩,rfl,?_,?_⟩⟩⟩
  ·exact((Fr.pu gj:Fr (·=L.S) w w8).trans jT λ_ h _=>h).trans iP λb hb hlt=>by have hb:b=w.heap.size:=hb;omega
  ·exact iP.blk fV (show ¬L.S=w.heap.size by omega)
theorem end_c(h:zQS X w L d 0)(hi:Inv p f d)(hs:Fit d):Calls prog 36 #[L.ptr] w (xQn X w L (.int .i64 (zVe d.σ)) d.end_):=by
 have hS:=h.S_lt
 have hl8:=hi.l8
 refine yYF _ w _ ((zZ2 h (Pu.refl w)).mono ?_)
 rintro e w1 ⟨rfl,hI,hf,hsz⟩
 have h1:=hI.at_ h
 refine⟨_,_,rfl,zVs (Br.of (λc=>by cases c) λ_=>(yJe h1 (by omega)).mono ?_)⟩
 rintro e w3 (⟨hnil,rfl,aA⟩|⟨l0,x,v0,t,hP,rfl,fU,sm⟩)
 ·refine⟨0,⟨none,0,0⟩,⟨none,0,0⟩,9,rfl,alB λw4 aJ cA=>zQh cA zWx.symm rfl rfl λw5 bi cr _=>Br.of (λ_=>?_) (λc=>by cases c)⟩
  have dO:Pu w1 w5:=(aA.trans aJ).andNew cr λi hi=>by rw[show i=_ from hi];exact aA.size
  have e1:zVe d.σ=9:=by unfold zVe;rw[if_pos hnil]
  have e2:d.end_=d:=by unfold Dat.end_;rw[if_pos hnil]
  rw[e1,e2]
  exact zJB (h1.pu dO) (hI.left.trans (zZy.pu dO L))
 ·have h3:=h1.pop hP fU sm
  have hlne:d.σ.lev ≠ []:=by rw[hP.lev];simp
  have e1:zVe d.σ=0:=by unfold zVe;rw[if_neg hlne]
  have e2:d.end_=({ d with σ:={ d.σ with lev:=v0 } }:Dat).commit:=by unfold Dat.end_ Dat.to;rw[if_neg hlne,hP.lev,List.dropLast_concat]
  have hW:InvW p f { d with σ:={ d.σ with lev:=v0 } }:=by
   have:=yQo hi
   unfold Dat.to at this
   rw[hP.lev,List.dropLast_concat]at this;exact this
  have zT:zZy w1 w3 L (L.pop l0):=⟨fU.mono λb hb _=>.inl hb,λb hb=>.inl (yWT hP.lh hb),rfl⟩
  refine⟨x.page,x.f,x.r,0,rfl,alB λw4 aJ cA=>zQh cA zWx.symm rfl rfl λw5 bi cr _=>Br.of (λc=>by cases c) (λ_=>?_)⟩
  have bL:Pu w3 w5:=aJ.andNew cr λi hi=>by rw[show i=_ from hi];exact Nat.le_refl _
  refine Calls.mono (yZT (L:=L.pop l0) (h3.pu bL) hW ⟨hs.l1,hs.l2,hs.wn,hs.dn⟩) ?_
  rintro e w7 ⟨rfl,L2,h7,hL7⟩
  refine⟨rfl,?_⟩
  rw[e1,e2]
  have hL:=(hI.left.trans zT).trans ((zZy.pu bL (L.pop l0)).trans hL7)
  exact zKc h7 hL hL.ptr.symm
end Go.Proofs.YtaeecpjhfmcliaaGreatDoor
/- The log: records are put behind, replaced, marked; values are set. No condition but those stated. -/
namespace Go.Proofs.YtaeecpjhfmcliaaGreatDoor
open Go.Sh Go.RowKit Tryz
variable {w0 w w' : World} {X : Nat -> Prop} {L L' : SL} {d d' : Dat} {mu : Int} {p : Int} {f : List Fld}
theorem xKN{L1:SL}{w1:World}{d1:Dat}(h1:zQS X w1 L1 d1 1)(hl:zZy w w1 L L1)(hW:InvW p f d1)(hs:Fit d1):Calls prog 79 #[L.ptr] w1 λe w2=>e=.returned (.tuple #[])/\∃L2,zQS X w2 L2 d1.commit 1/\zZy w w2 L L2:=by
 have e:L.ptr=L1.ptr:=by unfold SL.ptr;rw[hl.ptr]
 rw[e]
 refine(yZT h1 hW hs).mono ?_
 rintro e w2 ⟨rfl,L2,h2,sY⟩
 exact⟨rfl,L2,h2,hl.trans sY⟩
theorem stA3 {c:Array Value} {S:Nat} {v0 v1 v2:Value} {K:World->Prop} (hb:w.heap[S]?=some (.cells c 108)) (hc:c.size=11) (h0:zYX v0=true) (h1:zYX v1=true) (h2:zYX v2=true)
  (hK:∀w2,w2.heap[S]?=some (.cells (((c.setIfInBounds 2 v0).setIfInBounds 3 v1).setIfInBounds 4 v2) 108)->Fr (·=S) w w2->K w2):stA prog 35 ((⟨S,0,none⟩:Addr).add 2) #[v0,v1,v2] w K:=by
 refine⟨zWx.symm,by simp[h0,h1,h2],?_⟩
 show Sh.st1 (((⟨S,0,none⟩:Addr).add 2).add 0) v0 w _
 rw[zQr,zQr]
 refine zQw hb (by omega) λwa hwa hba=>?_
 show Sh.st1 (((⟨S,0+2,none⟩:Addr)).add 1) v1 wa _
 rw[zQr]
 refine zQw hba (by simp;omega) λwb hwb hbb=>?_
 show Sh.st1 (((⟨S,0+2,none⟩:Addr)).add 2) v2 wb _
 rw[zQr]
 refine zQw hbb (by simp;omega) λwc hwc hbc=>hK wc hbc ?_
 rw[hwc,hwb,hwa]
 exact((Fr.cell w _ _ _).trans (Fr.cell _ _ _ _) λ_ h _=>h).trans (Fr.cell _ _ _ _) λ_ h _=>h
theorem back_c(h:zQS X w L d 0)(hl8:d.σ.lev.length<=8):Calls prog 37 #[L.ptr] w (xQn X w L (.int .i64 (zVe d.σ)) d.back):=by
 have hS:=h.S_lt
 refine yYM _ w _ ((zZ2 h (Pu.refl w)).mono ?_)
 rintro e w1 ⟨rfl,hI,hf,hsz⟩
 have h1:=hI.at_ h
 refine⟨_,_,rfl,zVs (Br.of (λc=>by cases c) λ_=>(yJe h1 (by omega)).mono ?_)⟩
 rintro e w3 (⟨hnil,rfl,aA⟩|⟨l0,x,v0,t,hP,rfl,fU,sm⟩)
 ·refine⟨0,⟨none,0,0⟩,⟨none,0,0⟩,9,rfl,alB λw4 aJ cA=>zQh cA zWx.symm rfl rfl λw5 bi cr _=>Br.of (λ_=>?_) (λc=>by cases c)⟩
  have dO:Pu w1 w5:=(aA.trans aJ).andNew cr λi hi=>by rw[show i=_ from hi];exact aA.size
  have e1:zVe d.σ=9:=by unfold zVe;rw[if_pos hnil]
  have e2:d.back=d:=by unfold Dat.back Dat.to yQJ;rw[if_pos hnil]
  rw[e1,e2]
  exact zJB (h1.pu dO) (hI.left.trans (zZy.pu dO L))
 ·have hlne:d.σ.lev ≠ []:=by rw[hP.lev];simp
  have e1:zVe d.σ=0:=by unfold zVe;rw[if_neg hlne]
  have e2:d.back={ d with σ:={ d.σ with t:=t,lev:=v0 } }:=by
   unfold Dat.back Dat.to yQJ;rw[if_neg hlne,hP.lev,List.dropLast_concat,List.getLast?_concat];rfl
  refine⟨x.page,x.f,x.r,0,rfl,alB λw4 aJ cA=>zQh cA zWx.symm rfl rfl λw5 bi cr _=>Br.of (λc=>by cases c) (λ_=>⟨_,cl bi 0,x.f,cl bi 1,x.r,cl bi 2,?_⟩)⟩
  have bL:Pu w3 w5:=aJ.andNew cr λi hi=>by rw[show i=_ from hi];exact Nat.le_refl _
  rw[zVS]
  refine stA3 (bL.blk sm) rfl rfl rfl rfl λw8 lZ sb=>?_
  have vJ:Fr (·=L.S) w1 w8:=(fU.trans (Fr.pu bL:Fr (·=L.S) w3 w5) λ_ h _=>h).trans sb λ_ h _=>h
  have h8:=h1.undo hP vJ (mu':=1) lZ
  have hL8:zZy w1 w8 L (L.undo l0 x):=⟨vJ.mono λb hb _=>.inl hb,λb hb=>.inl (yJ6 hP.lh hb),rfl⟩
  rw[e1,e2]
  exact zKc h8 (hI.left.trans hL8) rfl
theorem yVR(h:zQS X w L d mu)(hn:d.σ.t.recs.length<=1000000)(k:Int):Calls prog 81 #[L.ptr,.int .i64 k] w λe w'=>e=.returned (.bool (zZX d.σ k))/\w'=w:=by
 have hrl:=h.now.rlen
 refine yWY _ _ w _ (Br.of (λc=>⟨L.now.r,h.cellB 2 2,?_,rfl⟩) (λc=>⟨?_,rfl⟩))
 ·have c:=zQk c
  unfold zZX
  rw[hrl,decide_eq_true (show 1<=k by omega),Bool.true_and]
 ·have c:=zQd c
  unfold zZX
  rw[decide_eq_false (show ¬1<=k by omega),Bool.false_and]
end Go.Proofs.YtaeecpjhfmcliaaGreatDoor
/- The log: records are replaced and marked; values are set; the log is made clean. No condition but those stated. -/
namespace Go.Proofs.YtaeecpjhfmcliaaGreatDoor
open Go.Sh Go.RowKit Tryz
variable {w0 w w' : World} {X : Nat -> Prop} {L L' : SL} {d d' : Dat} {mu : Int} {p : Int} {f : List Fld}
theorem yWU{σ:Sto}{k:Int}(h:zZX σ k=true)(hn:σ.t.recs.length<=300):∃j:Nat,k=(j:Int)+1/\j<σ.t.recs.length/\(k - 1).toNat=j/\IntKind.i64.wrap (k - 1)=(j:Int):=by
 unfold zZX at h
 simp only[Bool.and_eq_true,decide_eq_true_eq]at h
 refine⟨(k - 1).toNat,by omega,by omega,rfl,?_⟩
 rw[zQa (by omega) (by omega)];omega
theorem modW (hi:Inv p f d) {j:Nat} {g:Rec->Rec} (hg:∀y,d.σ.t.recs[j]?=some y->zQA f p (g y)=0):InvW p f (d.to { d.σ with t:={ d.σ.t with recs:=d.σ.t.recs.modify j g } }):=
 yX2 hi (by rw[List.length_modify];exact(zXw.of hi.t.ok).n300) (by rw[List.length_modify];exact Nat.le_refl _) λx hx=>by
  rcases zYD hx with hx|⟨y,hy,rfl⟩
  ·exact hi.recR x hx
  ·exact hg y hy
theorem set_c(h:zQS X w L d 0)(hi:Inv p f d)(hs:Fit d)(k:Int)(nm:ByteArray)(v:Val):Calls prog 40 #[L.ptr,.int .i64 k,.string nm,.agg #[.int .i64 v.kind,.int .i64 v.n,.string v.s]] w (xQn X w L (.int .i64 (xQr d.σ k nm v)) (d.set k nm v)):=by
 have hS:=h.S_lt
 have fK:=(zXw.of hi.t.ok).n300
 have hrl:=h.now.rlen
 refine yYK _ _ _ _ _ _ w _ (alB λw1 ax aE=>(zZ2 h ax).mono ?_)
 rintro e w2 ⟨rfl,hI,hf,hsz⟩
 have h2:=hI.at_ h
 have me:w.heap.size<w1.heap.size:=zQz aE
 have b2:=hf.blk aE (show ¬w.heap.size=L.S by omega)
 refine⟨_,_,rfl,zVs (Br.of (λc=>by cases c) λ_=>⟨L.now.f,h2.cellB 2 1,(xKS h2.kp0.nf nm).mono ?_⟩)⟩
 rintro e w5 ⟨rfl,aV⟩
 have h5:=h2.pu aV
 have stay:∀{w3:World} (c:Int),Ins w w3 L->xQr d.σ k nm v=c->d.set k nm v=d->zQc prog [zZ9 L] w3 λw4=>xQn X w L (.int .i64 (xQr d.σ k nm v)) (d.set k nm v) (.returned (.int .i64 c)) w4:=λ{w3} c hi3 hc hd=>by
  rw[hd,hc]
  exact zJB (hi3.at_ h) hi3.left
 refine⟨_,_,rfl,Br.of (λc=>?_) (λc=>?_)⟩
 ·have c:yWA d.σ.t.fields nm=none:=by simpa using c
  exact stay 4 (hI.pu aV) (by unfold xQr;rw[c]) (by unfold Dat.set;rw[c])
 have c:(yWA d.σ.t.fields nm).isSome=true:=by simpa using c
 obtain⟨i,hidx⟩:=Option.isSome_iff_exists.1 c
 have hil:=xK0 hidx
 have eK:idxK d.σ.t.fields nm=(i:Int):=by unfold idxK;rw[hidx];rfl
 have eC:xQr d.σ k nm v=if zZX d.σ k then(zKk (d.σ.t.fields.getD i default) d.σ.t.page v).2 else 4:=by unfold xQr;rw[hidx]
 have eS:d.set k nm v=if zZX d.σ k/\(zKk (d.σ.t.fields.getD i default) d.σ.t.page v).2=0 then d.recs (d.σ.t.recs.modify (k - 1).toNat λr=>{ r with v:=r.v.set i (zKk (d.σ.t.fields.getD i default) d.σ.t.page v).1 })else d:=by unfold Dat.set;rw[hidx]
 refine(yVR h5 (by omega) k).mono ?_
 rintro e w7 ⟨rfl,rfl⟩
 refine⟨_,rfl,Br.of (λc1=>?_) (λc1=>zQf λw9 eH _=>?_)⟩
 ·have c1:zZX d.σ k=false:=by simpa using c1
  exact stay 4 (hI.pu aV) (by rw[eC,if_neg (by rw[c1];simp)]) (by rw[eS,if_neg (by rw[c1];simp)])
 have c1:zZX d.σ k=true:=by simpa using c1
 obtain⟨j,hk,hj,hjn,hwj⟩:=yWU c1 fK
 have mt:=aV.trans eH
 have h9:=h2.pu mt
 have b9:=mt.blk b2
 obtain⟨fl,hfl⟩:=zQZ hil
 have efl:d.σ.t.fields.getD i default=fl:=by rw[List.getD_eq_getElem?_getD,hfl];rfl
 rw[efl]at eC eS
 obtain⟨a,ha,hia,_,_,_,f0,f1,f2,f3⟩:=zJw h9.kp0.nf hfl
 rw[eK]
 have fB:=List.all_eq_true.1 (zJt.of hi.t.ok).all fl (List.mem_of_getElem? hfl)
 refine⟨L.now.f,h9.cellB 2 1,a,ha,by omega,by omega,_,by rw[zZc];exact f0,_,by rw[zZc];exact f1,_,by rw[zZc];exact f2,_,by rw[zZc];exact f3,d.σ.t.page,by rw[h9.cellA 2,←h9.now.page];rfl,_,cl b9 0,_,cl b9 1,_,cl b9 2,(fit_c fl d.σ.t.page v (by have:=(zQR fB).2.1;omega) w9).mono ?_⟩
 rintro e aK ⟨rfl,bg⟩
 refine⟨_,_,_,_,rfl,zQh (bg.blk b9) vk73.symm rfl rfl λbH gl nr _=>?_⟩
 have vK:Ins w bH L:=((hI.pu mt).pu bg).box nr hS (Nat.le_refl _)
 refine Br.of (λc2=>?_) (λc2=>zQf λbT cG _=>?_)
 ·have c2:(zKk fl d.σ.t.page v).2 ≠ 0:=zQ5 c2
  exact stay _ vK (by rw[eC,if_pos c1]) (by rw[eS,if_neg (λe=>c2 e.2)])
 have c2:(zKk fl d.σ.t.page v).2=0:=zQs c2
 have vL:=vK.pu cG
 have gk:=vL.at_ h
 have gP:=cG.blk gl
 obtain⟨y,hy⟩:=zQZ (l:=L.now.hs) (k:=j) (by rw[h.now.len];exact hj)
 obtain⟨r,hrj⟩:=zQZ hj
 have hvl:r.v.length=d.σ.t.fields.length:=zJC ((zXw.of hi.t.ok).recs r (List.mem_of_getElem? hrj))
 obtain⟨e1,hV⟩:=gk.now.rec_ j y r hy hrj
 have hyl:=hV.len zXP (by decide)
 obtain⟨aa,haa,_,g1⟩:=gk.now.rw_.elem zQN hy (o:=1) rfl
 rw[hwj,zZc]
 refine⟨L.now.r,gk.cellB 2 2,aa,haa,by omega,by omega,y.2,g1,_,cl gP 0,_,cl gP 1,_,cl gP 2,?_⟩
 have eA:d.set k nm v=d.recs (d.σ.t.recs.modify j λr=>{ r with v:=r.v.set i (zKk fl d.σ.t.page v).1 }):=by rw[eS,if_pos ⟨c1,c2⟩,hjn]
 have eC2:xQr d.σ k nm v=0:=by rw[eC,if_pos c1];exact c2
 obtain⟨av,hav,hst⟩:=gk.now.setV hrj (i:=i) (by omega) (zKk fl d.σ.t.page v).1 hy (K:=λaX=>Calls prog 79 #[L.ptr] aX λe aK=>e=.returned (.tuple #[])/\zQc prog [zZ9 L] aK λbH=>xQn X w L (.int .i64 (xQr d.σ k nm v)) (d.set k nm v) (.returned (.int .i64 0)) bH) λaX zV iP=>by
  have vM:=iP.blk gk.st (hV.other gk.st (by decide))
  obtain⟨mH,zW⟩:=gk.reNow (Pu.refl _) iP (λb hb=>.inr (.inr (zVQ (List.mem_of_getElem? hy) hb))) (q:=L.now) (t:={ d.σ.t with recs:=d.σ.t.recs.modify j λr=>{ r with v:=r.v.set i (zKk fl d.σ.t.page v).1 } }) vM zV (λb hb=>.inl hb) rfl rfl
  have hW:=modW hi (j:=j) (g:=λr=>{ r with v:=r.v.set i (zKk fl d.σ.t.page v).1 }) λy hy=>yXH (hi.recR y (List.mem_of_getElem? hy)) λg hg=>by
   have:g=fl:=by rw[←hi.t.fields,hfl]at hg;exact(Option.some.inj hg).symm
   rw[this,←hi.t.page]
   exact yJf c2
  refine(xKN mH (vL.left.trans zW) hW ⟨hs.l1,hs.l2,hs.wn,hs.dn⟩).mono ?_
  rintro e bC ⟨rfl,L2,h15,vN⟩
  refine⟨rfl,?_⟩
  rw[eA,eC2]
  exact zKc h15 vN vN.ptr.symm
 exact⟨av,hav,by omega,by omega,by rw[zZc];exact hst⟩
end Go.Proofs.YtaeecpjhfmcliaaGreatDoor
/- The log: the table is written into the data file, and the log made empty. No condition but those stated. -/
namespace Go.Proofs.YtaeecpjhfmcliaaGreatDoor
open Go.Sh Go.RowKit Tryz
variable {w0 w w' : World} {X : Nat -> Prop} {L L' : SL} {d d' : Dat} {mu : Int} {p : Int} {f : List Fld}
theorem zZI.fr {w0:World} {q:SV} {wh:List (Int × Int × SV)} {l:List Wr} {B:Nat->Prop} (h:zZI w0 w q wh l) (hf:Fr B w w') (hB:∀k,w0.heap.size<=k->k<w.heap.size->¬B k):zZI w0 w' q wh l:=
 ⟨h.row.fr hf λk hk=>hB k (h.rn k hk) (h.row.lt k hk),h.rn,h.len,λi x y hx hy=>⟨(h.each i x y hx hy).1,(h.each i x y hx hy).2.1,(h.each i x y hx hy).2.2.fr hf hB⟩⟩
end Go.Proofs.YtaeecpjhfmcliaaGreatDoor
/- The log: the reference's copies of records and tables. No condition but those stated. -/
namespace Go.Proofs.YtaeecpjhfmcliaaGreatDoor
open Go.Sh Go.RowKit Tryz
variable {w w' : World}
end Go.Proofs.YtaeecpjhfmcliaaGreatDoor
/- The log: how many writes and commits there are behind some acts. In plain words. No condition but those stated. -/
namespace Go.Proofs.YtaeecpjhfmcliaaGreatDoor
open Go.Sh Go.RowKit Tryz
structure Sz(F:Fls)(n:Nat)(d:Dat):Prop where
 first:d.first=F
 wn:d.wr.length<=5 * n
 dn:d.σ.done.length<=n+1
variable {p : Int} {f : List Fld} {d : Dat} {F : Fls} {n : Nat}
theorem Sz.new(t:Tbl)(F:Fls):Sz F 0 (Dat.new t F):=⟨rfl,Nat.le_refl _,Nat.le_refl _⟩
theorem Sz.up(h:Sz F n d):Sz F (n+1) d:=⟨h.first,by have:=h.wn;omega,by have:=h.dn;omega⟩
theorem Sz.to(h:Sz F n d){σ:Sto}(e:σ.done=d.σ.done):Sz F n (d.to σ):=⟨h.first,h.wn,by show σ.done.length<=_;rw[e];exact h.dn⟩
theorem Sz.commit(h:Sz F n d):Sz F (n+1) d.commit:=by
 unfold Dat.commit
 split
 ·refine⟨h.first,?_,?_⟩
  ·show(d.wr ++ [d.rec_]).length<=_
   have:=h.wn
   rw[List.length_append,List.length_singleton];omega
  ·show(d.σ.done ++ [d.σ.t]).length<=_
   have:=h.dn
   rw[List.length_append,List.length_singleton];omega
 ·exact h.up
theorem Sz.begin(h:Sz F n d):Sz F (n+1) d.begin:=(h.to (by unfold zKr;split <;> rfl)).up
theorem Sz.back(h:Sz F n d):Sz F (n+1) d.back:=(h.to (by unfold yQJ;split <;> rfl)).up
theorem Sz.end_(h:Sz F n d):Sz F (n+1) d.end_:=by
 unfold Dat.end_
 split
 ·exact h.up
 ·exact Sz.commit (h.to rfl)
theorem Sz.recs(h:Sz F n d)(l:List Rec):Sz F (n+1) (d.recs l):=Sz.commit (h.to rfl)
theorem Sz.app(h:Sz F n d)(r:Rec):Sz F (n+1) (d.app r):=by
 unfold Dat.app
 split
 ·exact h.recs _
 ·exact h.up
theorem Sz.put(h:Sz F n d)(k:Int)(r:Rec):Sz F (n+1) (d.put k r):=by
 unfold Dat.put
 split
 ·exact h.recs _
 ·exact h.up
theorem Sz.set(h:Sz F n d)(k:Int)(nm:ByteArray)(v:Val):Sz F (n+1) (d.set k nm v):=by
 unfold Dat.set
 cases yWA d.σ.t.fields nm with
 | none=>exact h.up
 | some i=>
  dsimp only
  split
  ·exact h.recs _
  ·exact h.up
theorem Sz.small(h:Sz F n d)(hi:Inv p f d)(hF:F.1.length<=400000000/\F.2.length<=400000000)(hn:n<=100):Small d:=⟨by rw[h.first];exact hF.1,by rw[h.first];exact hF.2,by have:=h.wn;omega,hi.wb⟩
theorem Sz.fit(h:Sz F n d)(hi:Inv p f d)(hF:F.1.length<=400000000/\F.2.length<=400000000)(hn:n<=100):Fit d:=by
 have hs:=(h.small hi hF hn).files d.wr.length
 rw[←hi.eq]at hs
 exact⟨by omega,by omega,by have:=h.wn;omega,by have:=h.dn;omega⟩
end Go.Proofs.YtaeecpjhfmcliaaGreatDoor
/- The log: what is known of a store that is played in the way that the document shows. No condition. -/
namespace Go.Proofs.YtaeecpjhfmcliaaGreatDoor
open Go.Sh Go.RowKit Tryz
variable {w w' : World}
def yJk(n:Int):Val:=⟨2,n,⟨#[]⟩⟩
def oneR(n:Int):Rec:=⟨false,[yJk n]⟩
def oneF:List Fld:=[⟨⟨#[78]⟩,2,3,false⟩]
def zVf(l:List Int):Tbl:=⟨0,oneF,l.map oneR⟩
theorem one_c {r:Nat} {l:List Int} (hl:l.length<=1000) (hb:w.heap[r]?=some (.cells (l.map (Value.int .i64)).toArray 3)):Calls prog 44 #[.slice (some ⟨r,0,none⟩) l.length l.length] w λe w'=>∃f q:SV,e=.returned (zYj (zVf l) f q)/\zWe w w' (zVf l) f q/\Pu w w':=by
 refine yYS ⟨some ⟨r,0,none⟩,l.length,l.length⟩ w _ (alB λw1 ax aE=>alB λw2 ar aN=>alB λw3 aA bo=>zQh bo zWx.symm rfl rfl λw4 cA iv _=>?_)
 have vO:Pu w2 w4:=aA.andNew iv λi hi=>by rw[show i=_ from hi];exact Nat.le_refl _
 have kM:=ar.trans vO
 have cW:=ax.trans kM
 have lt0:w.heap.size<w1.heap.size:=zQz aE
 have me:w1.heap.size<w2.heap.size:=zQz aN
 obtain⟨qf,hqf⟩:∃qf:SV,qf=⟨some ⟨w1.heap.size,0,none⟩,1,1⟩:=⟨_,rfl⟩
 have sT:zWr w w4 qf (zVf l).fields:=by
  rw[hqf]
  exact⟨⟨rfl,.inr ⟨_,_,rfl,vO.blk aN,Nat.le_refl _,by show 1<=maxLen;unfold maxLen;omega,rfl,rfl⟩⟩,λb hb=>by simp[zQb]at hb;omega⟩
 have S0:ChS w w2.heap.size w.heap.size (zVf l) qf [] w4:=⟨⟨⟨none,0,0⟩,by rw[cA,hqf];rfl,zJU.nil _ _⟩,kM.blk aE,sT,cW,by omega,by omega,by omega⟩
 clear hqf
 refine zQ0 l.length (λk u w'=>u=(k:Int)/\ChS w w2.heap.size w.heap.size (zVf l) qf ((l.take k).map oneR) w') ⟨rfl,by simpa using S0⟩ ?_
 rintro k J u wa hk ⟨hu,hS⟩ hJ
 obtain rfl:u=(k:Int):=hu
 refine Br.of (λc=>zQf λwb hpb _=>?_) (λc=>?_)
 ·have hkn:k<l.length:=by have:(k:Int)<((l.length:Nat):Int):=zQk c;omega
  obtain⟨x,hx⟩:=zQZ hkn
  have hSb:=hS.on hpb
  obtain⟨s,g1,g2⟩:=hSb.ex
  refine⟨λu=>Pu wb u,Pu.refl _,s,λu hu=>cl (hu.blk g1) 2,_,rfl,by omega,by show(k:Int)<((l.length:Nat):Int);omega,x,λu hu=>?_,(yWJ x wb).mono ?_⟩
  ·rw[zZc,Nat.mul_one,cl (hu.blk (hSb.pu.blk hb)) k]
   simp[hx]
  rintro e wc ⟨rfl,hpc⟩
  refine⟨_,_,_,rfl,hpc,alB λwd hpd hbd=>⟨hpc.trans hpd,alB λwe hpe hbe=>⟨(hpc.trans hpd).trans hpe,?_⟩⟩⟩
  have hpbe:=(hpc.trans hpd).trans hpe
  have hSe:=hSb.on hpbe
  have g1e:=hpbe.blk g1
  have g2e:=g2.pu hpbe
  have zb:=hSb.pu.size
  have zc:=hpc.size
  have hv:zJy w we ⟨some ⟨wc.heap.size,0,none⟩,1,1⟩ [yJk x]:=⟨⟨rfl,.inr ⟨_,_,rfl,hpe.blk hbd,Nat.le_refl _,by show 1<=maxLen;unfold maxLen;omega,rfl,rfl⟩⟩,λb hb=>by simp[zQb]at hb;omega⟩
  obtain⟨s',wf,hra,nf,hff⟩:=g2e.push (g:=false) (vs:=[yJk x]) hSe.pu.size hv hbe rfl (by rw[List.length_map,List.length_take];omega)
  refine⟨s',wf,hra,?_⟩
  have nk:∀{b:Nat} {c:Array Value},we.heap[b]?=some (.cells c 35)->¬b ∈ zQb s:=λhb hk=>by obtain⟨qs,k1,_⟩:=g2e;exact k1.other hb (by decide) hk
  have g1f:=hff.blk g1e (nk g1e)
  refine zQw g1f (by show 2<3;omega) λwg hwg hbg=>?_
  have hfg:Fr (·=w2.heap.size) wf wg:=by rw[hwg];exact Fr.cell wf _ _ _
  have hqe:zWr w wf qf (zVf l).fields:=hSe.qf.fr hff λk hk e=>by obtain⟨qs,k1,_⟩:=g2e;exact zQq hSe.qf.1 k1 (by decide) k hk e
  rw[zQa (by omega) (by omega)]
  refine hJ _ _ hkn ⟨rfl,⟨⟨s',hbg,?_⟩,hfg.blk (hff.blk hSe.b4 (nk hSe.b4)) (Ne.symm hSe.ne),hqe.fr hfg λk hk e=>hqe.1.other g1f (by decide) (by rw[←show k=_ from e];exact hk),(hSe.pu.andNew hff g2e.own).andNew hfg λi hi=>by rw[show i=_ from hi];exact hSe.z2,hSe.z2,hSe.z4,hSe.ne⟩⟩
  rw[zQ8 hx,List.map_append]
  exact nf.other hfg g1f (by decide) (by decide)
 ·have hkn:k=l.length:=by have:¬(k:Int)<((l.length:Nat):Int):=zQd c;omega
  subst hkn
  rw[List.take_length]at hS
  obtain⟨s,g1,g2⟩:=hS.ex
  exact⟨_,cl g1 0,qf,cl g1 1,s,cl g1 2,zQh hS.b4 zWx.symm rfl rfl λwz hbz hfz _=>⟨_,cl hbz 0,qf,cl hbz 1,s,cl hbz 2,qf,s,rfl,⟨hS.qf.fr hfz λk hk e=>hS.qf.1.other hS.b4 (by decide) (by rw[←show k=_ from e];exact hk),g2.other hfz hS.b4 (by decide) (by decide)⟩,hS.pu.andNew hfz λi hi=>by rw[show i=_ from hi];exact hS.z4⟩⟩
theorem yQQ (l:List Int) (h:l=[1,2]∨l=[5,2]):zQi (zVf l)=0:=by
 rcases h with rfl|rfl <;> decide +kernel
def k0:Sto:=Sto.new (zVf [1,2])
def k1:Sto:=zKr k0
def k2:Sto:=setS k1 1 ⟨#[78]⟩ (yJk 5)
def k3:Sto:=zKr k2
def k4:Sto:=setS k3 2 ⟨#[78]⟩ (yJk 6)
def k5:Sto:=yQJ k4
def k6:Sto:=endS k5
theorem k1_c:zVI k0=0:=by decide +kernel
theorem k2_c:xQr k1 1 ⟨#[78]⟩ (yJk 5)=0:=by decide +kernel
theorem k3_c:zVI k2=0:=by decide +kernel
theorem k4_c:xQr k3 2 ⟨#[78]⟩ (yJk 6)=0:=by decide +kernel
theorem k5_c:zVe k4=0:=by decide +kernel
theorem k6_c:zVe k5=0:=by decide +kernel
theorem k6_t:k6.t=zVf [5,2]:=by decide +kernel
theorem xW2:k6.done=[zVf [1,2],zVf [5,2]]:=by decide +kernel
end Go.Proofs.YtaeecpjhfmcliaaGreatDoor
/- The log: that the program commits what the document says: that call, walked. No condition. -/
namespace Go.Proofs.YtaeecpjhfmcliaaGreatDoor
open Go.Sh Go.RowKit Tryz
variable {w0 w w' : World} {X : Nat -> Prop}
structure KnS(X:Nat->Prop)(w0 w:World)(S:Nat)(p:Int)(f:List Fld)(F:Fls)(n:Nat)(d:Dat)(L:SL):Prop where
 S:L.S=S
 at_:zQS X w L d 0
 inv:Inv p f d
 sz:Sz F n d
 pu:Pu w0 w
 own:∀b,L.own b->w0.heap.size<=b
variable {S : Nat} {p : Int} {f : List Fld} {F : Fls} {n : Nat} {d d' : Dat} {L : SL}
theorem KnS.on(h:KnS X w0 w S p f F n d L)(hp:Pu w w'):KnS X w0 w' S p f F n d L:=⟨h.S,h.at_.pu hp,h.inv,h.sz,h.pu.trans hp,h.own⟩
theorem KnS.act (h:KnS X w0 w S p f F n d L) {i:Nat} {v:Value} {args:Array Value} (hc:Calls prog i args w (xQn X w L v d')) (hi:Inv p f d') (hz:Sz F (n+1) d'):Calls prog i args w λe w'=>e=.returned v/\∃L',KnS X w0 w' S p f F (n+1) d' L':=by
 refine hc.mono ?_
 rintro e w2 ⟨rfl,L2,h2,hl⟩
 exact⟨rfl,L2,hl.ptr.trans h.S,h2,hi,hz,h.pu.andNew hl.fr h.own,λb hb=>(hl.own b hb).elim (h.own b) λhb=>by have:=h.pu.size;omega⟩
theorem KnS.ptr(h:KnS X w0 w S p f F n d L):Value.pointer (some ⟨S,0,none⟩)=L.ptr:=by rw[←h.S]
theorem xWe(w:World):Calls prog 10 #[] w λe w'=>e=.returned (.bool true)/\Pu w w':=by
 have sZ:=yQQ [1,2] (.inl rfl)
 have wD:=yQQ [5,2] (.inr rfl)
 refine yVc w _ (alB λw1 ax aE=>(one_c (l:=[1,2]) (by decide) aE).mono ?_)
 rintro e w2 ⟨f,q,rfl,hO,ar⟩
 have aM:=ax.trans ar
 refine⟨_,f,q,rfl,(new_c (X:=λ_=>False) (hO.rd (zXX sZ)) (zZL sZ) λb hb=>hb.elim).mono ?_⟩
 rintro e w3 ⟨aA,⟨j1,_⟩|⟨_,p,rfl,L,rfl,h3,own⟩⟩
 ·exact absurd sZ j1
 have hF:(zQ1 (zVf [1,2])).length<=400000000/\([]:List UInt8).length<=400000000:=⟨by have:=zKT (zJt.of sZ);show(zQ1 (zVf [1,2])).length<=_;omega,by simp⟩
 have K0:KnS (λ_=>False) w w3 L.S 0 oneF (zQ1 (zVf [1,2]),[]) 0 (Dat.new (zVf [1,2]) (zQ1 (zVf [1,2]),[])) L:=⟨rfl,h3,yYl sZ (xXt sZ),Sz.new _ _,aM.trans aA,λb hb=>by have:=own b hb;have:=aM.size;omega⟩
 obtain⟨S,hS⟩:∃S:Nat,S=L.S:=⟨_,rfl⟩
 rw[←hS]at K0 ⊢
 clear hS h3 own
 obtain⟨d0,rg⟩:∃d0,d0=Dat.new (zVf [1,2]) (zQ1 (zVf [1,2]),[]):=⟨_,rfl⟩
 have s0:d0.σ=k0:=by rw[rg];rfl
 rw[←rg]at K0
 clear rg
 refine⟨_,_,rfl,Br.of (λc=>by cases c) λ_=>?_⟩
 rw[K0.ptr]
 refine(K0.act (yYI K0.at_ K0.inv.toInvW) (yXc K0.inv) K0.sz.begin).mono ?_
 rintro e w4 ⟨rfl,L1,K1⟩
 rw[s0,k1_c]
 have s1:d0.begin.σ=k1:=by show zKr d0.σ=_;rw[s0];rfl
 refine⟨_,rfl,Br.of (λc=>by cases c) λ_=>(yWJ 5 w4).mono ?_⟩
 rintro e w5 ⟨rfl,aV⟩
 replace K1:=K1.on aV
 refine⟨_,_,_,rfl,?_⟩
 rw[←K0.ptr,K1.ptr]
 refine(K1.act (set_c K1.at_ K1.inv (K1.sz.fit K1.inv hF (by omega)) 1 ⟨#[78]⟩ (yJk 5)) (yVn K1.inv _ _ _) (K1.sz.set _ _ _)).mono ?_
 rintro e w6 ⟨rfl,L2,K2⟩
 rw[s1,k2_c]
 have s2:(d0.begin.set 1 ⟨#[78]⟩ (yJk 5)).σ=k2:=by rw[Dat.set_σ,s1];rfl
 refine⟨_,rfl,Br.of (λc=>by cases c) λ_=>?_⟩
 rw[←K1.ptr,K2.ptr]
 refine(K2.act (yYI K2.at_ K2.inv.toInvW) (yXc K2.inv) K2.sz.begin).mono ?_
 rintro e w7 ⟨rfl,L3,K3⟩
 rw[s2,k3_c]
 have s3:(d0.begin.set 1 ⟨#[78]⟩ (yJk 5)).begin.σ=k3:=by show zKr (d0.begin.set 1 ⟨#[78]⟩ (yJk 5)).σ=_;rw[s2];rfl
 refine⟨_,rfl,Br.of (λc=>by cases c) λ_=>(yWJ 6 w7).mono ?_⟩
 rintro e w8 ⟨rfl,bM⟩
 replace K3:=K3.on bM
 refine⟨_,_,_,rfl,?_⟩
 rw[←K2.ptr,K3.ptr]
 refine(K3.act (set_c K3.at_ K3.inv (K3.sz.fit K3.inv hF (by omega)) 2 ⟨#[78]⟩ (yJk 6)) (yVn K3.inv _ _ _) (K3.sz.set _ _ _)).mono ?_
 rintro e w9 ⟨rfl,L4,K4⟩
 rw[s3,k4_c]
 obtain⟨d4,vq⟩:∃d4,d4=(d0.begin.set 1 ⟨#[78]⟩ (yJk 5)).begin.set 2 ⟨#[78]⟩ (yJk 6):=⟨_,rfl⟩
 have s4:d4.σ=k4:=by rw[vq,Dat.set_σ,s3];rfl
 rw[←vq]at K4
 clear vq
 refine⟨_,rfl,Br.of (λc=>by cases c) λ_=>?_⟩
 rw[←K3.ptr,K4.ptr]
 refine(K4.act (back_c K4.at_ K4.inv.l8) (xQ7 K4.inv) K4.sz.back).mono ?_
 rintro e aU ⟨rfl,L5,K5⟩
 rw[s4,k5_c]
 have s5:d4.back.σ=k5:=by show yQJ d4.σ=_;rw[s4];rfl
 refine⟨_,rfl,Br.of (λc=>by cases c) λ_=>?_⟩
 rw[←K4.ptr,K5.ptr]
 refine(K5.act (end_c K5.at_ K5.inv (K5.sz.fit K5.inv hF (by omega))) (xWx K5.inv) K5.sz.end_).mono ?_
 rintro e aT ⟨rfl,L6,K6⟩
 rw[s5,k6_c]
 have s6:d4.back.end_.σ=k6:=by rw[Dat.end_σ,s5];rfl
 obtain⟨d6,hd6⟩:∃d6,d6=d4.back.end_:=⟨_,rfl⟩
 rw[←hd6]at K6 s6
 clear hd6
 refine⟨_,rfl,Br.of (λc=>by cases c) λ_=>?_⟩
 rw[K6.ptr]
 have hdone:d6.σ.done=[zVf [1,2],zVf [5,2]]:=by rw[s6,xW2]
 refine(yZh K6.at_ (λt ht=>(K6.inv.done t ht).ok) 1).mono ?_
 rintro e aX ⟨x,rfl,hx,cT⟩
 have eC:yXV d6.σ 1=0:=by unfold yXV;rw[hdone];rfl
 have eT:yXB d6.σ 1=zVf [5,2]:=by unfold yXB;rw[hdone];rfl
 rw[eC]
 rw[eT]at hx
 refine⟨_,x.f,x.r,_,rfl,alB λaK bg kL=>zQh kL zWx.symm rfl rfl λbH gl nr _=>zQf λbC dO _=>?_⟩
 have eI:Pu aX bH:=bg.andNew nr λi hi=>by rw[show i=_ from hi];exact Nat.le_refl _
 have jQ:=eI.trans dO
 have gJ:=dO.blk gl
 have K7:=(K6.on cT).on jQ
 have vP:=hx.pu jQ
 refine⟨λu=>Pu bC u,Pu.refl _,Br.of (λ_=>(yVX K7.at_ (by rw[hdone];decide)).mono ?_) (λc=>by cases c)⟩
 rintro e bT ⟨rfl,cG⟩
 rw[hdone]
 refine⟨_,rfl,cG,Br.of (λ_=>⟨x.page,λu hu=>cl (hu.blk gJ) 0,x.f,λu hu=>cl (hu.blk gJ) 1,x.r,λu hu=>cl (hu.blk gJ) 2,alB λbD lw oD=>⟨cG.trans lw,(one_c (l:=[5,2]) (by decide) oD).mono ?_⟩⟩) (λc=>by cases c)⟩
 rintro e cH ⟨f2,q2,rfl,hO2,jS⟩
 have sn:=(cG.trans lw).trans jS
 have hp_x:x.page=(zVf [5,2]).page:=hx.tab.page
 refine⟨_,f2,q2,rfl,sn,?_⟩
 rw[hp_x]
 refine(xQd ((vP.pu sn).rd wD) (hO2.rd (zXX wD))).mono ?_
 rintro e cR ⟨rfl,zX⟩
 rw[decide_eq_true rfl]
 have oF:=sn.trans zX
 refine⟨_,rfl,oF,Br.of (λ_=>⟨x.page,λu hu=>cl (hu.blk gJ) 0,x.f,λu hu=>cl (hu.blk gJ) 1,x.r,λu hu=>cl (hu.blk gJ) 2,?_⟩) (λc=>by cases c)⟩
 have K8:=K7.on oF
 have e8:d6.σ.t=zVf [5,2]:=by rw[s6,k6_t]
 refine(zWX K8.at_ K8.inv.t.ok).mono ?_
 rintro e cP ⟨y,rfl,hy,ir⟩
 rw[e8]at hy
 have hp_y:y.page=(zVf [5,2]).page:=hy.tab.page
 refine⟨_,y.f,y.r,rfl,oF.trans ir,?_⟩
 rw[hp_x,hp_y]
 refine(xQd (hy.rd wD) ((vP.pu (oF.trans ir)).rd wD)).mono ?_
 rintro e bX ⟨rfl,np⟩
 rw[decide_eq_true rfl]
 exact⟨_,rfl,rfl,(K8.on (ir.trans np)).pu⟩
end Go.Proofs.YtaeecpjhfmcliaaGreatDoor
/- The law of what is opened, walked. No condition. -/
namespace Go.Proofs.YtaeecpjhfmcliaaGreatDoor
open Go.Sh Go.RowKit Tryz
variable {w w' : World}
theorem yKJ(F:Fls):1<=(yJt F).length:=by
 have h:∀(l:List Wr) (acc:List Fls),1<=acc.length->1<=(l.foldl (λl x=>l ++ [zQK (l.getLast?.getD F) x]) acc).length:=by
  intro l
  induction l with
  | nil=>intro acc h;exact h
  | cons x l ih=>
   intro acc h
   rw[List.foldl_cons]
   exact ih _ (by rw[List.length_append];omega)
 exact h _ _ (by simp)
theorem yQ2{w0:World}(hp:Pu w0 w):Calls prog 10 #[] w λe w1=>∃b:Bool,e=.returned (.bool b)/\zQc prog [] w1 λw2=>(λ(e:Ending) (w':World)=>e=Ending.returned (.bool true)/\Pu w0 w') (Ending.returned (.bool b)) w2:=by
 refine(xWe w).mono ?_
 rintro e w1 ⟨rfl,ax⟩
 exact⟨_,rfl,rfl,hp.trans ax⟩
theorem yK6{s0 s1:SV}{d0 d1:List UInt8}(h0:ByV w s0 d0)(h1:ByV w s1 d1):Calls prog 3 #[slV s0,slV s1] w λe w'=>e=.returned (.bool true)/\Pu w w':=by
 have l0:=h0.len
 have l1:=h1.len
 have m0:=h0.lim
 have m1:=h1.lim
 refine xQE s0 s1 w _ (Br.of (λ_=>yQ2 (Pu.refl w)) (λc=>?_))
 have c:=zQd c
 rw[zQa (by omega) (by omega)]at c
 refine(open_c (X:=λ_=>False) h0 h1 (by omega) (by omega) λb hb=>hb.elim).mono ?_
 rintro e w1 ⟨ax,⟨hN,rfl⟩|⟨t,p,hT,rfl,L,rfl,hL,hown⟩⟩
 ·refine⟨_,_,rfl,(yV7 (h0.pu ax) (h1.pu ax) (by omega) (by omega)).mono ?_⟩
  rintro e w2 ⟨ar,⟨_,rfl⟩|⟨t,hT,_⟩⟩
  ·refine⟨⟨none,0,0⟩,_,rfl,Br.of (λc=>by cases c) λ_=>Br.of (λ_=>Br.of (λc=>by cases c) λ_=>⟨true,w2,zKA vu24 _ _ none w2,Br.of (λc=>by cases c) λ_=>Br.of (λc=>by cases c) λ_=>Br.of (λ_=>yQ2 (ax.trans ar)) λc=>by cases c⟩) λc=>by cases c⟩
  ·rw[hN]at hT;cases hT
 ·refine⟨_,_,rfl,(yV7 (h0.pu ax) (h1.pu ax) (by omega) (by omega)).mono ?_⟩
  rintro e w2 ⟨ar,⟨hN,_⟩|⟨t',hT',q,ps,rfl,hP⟩⟩
  ·rw[hT]at hN;cases hN
  rw[hT]at hT';cases hT'
  have hv:zQi t=0:=zK5 hT
  have hql:=hP.row.len yQU (by decide)
  have hpl:=hP.len
  have hpos:=yKJ (d0,d1)
  have hq0:((((q.len:Nat):Int) == 0))=false:=by
   have:q.len ≠ 0:=by omega
   simpa using this
  refine⟨q,_,rfl,Br.of (λc=>by cases c) λ_=>Br.of (λc=>by cases c) λ_=>⟨false,w2,zKA vu24 _ _ (some _) w2,Br.of (λc=>by cases c) λ_=>Br.of (λc=>by rw[hq0]at c;cases c) λ_=>Br.of (λc=>by cases c) λ_=>(zWX (hL.pu ar) hv).mono ?_⟩⟩
  rintro e w3 ⟨x,rfl,hx,aA⟩
  have hxp:x.page=t.page:=hx.tab.page
  have hx:zKF w2 w3 t x:=hx
  refine⟨x.page,x.f,x.r,rfl,?_⟩
  rw[hxp]
  refine(yZt (hx.rd hv)).mono ?_
  rintro e w4 ⟨rfl,aJ⟩
  rw[hv]
  exact⟨_,rfl,Br.of (λ_=>yQ2 (((ax.trans ar).trans aA).trans aJ)) λc=>by cases c⟩
theorem yJW(w:World)(s0:SV)(d0:List UInt8)(h0:zXF w s0 d0)(_:Lim.ok d0)(s1:SV)(d1:List UInt8)(h1:zXF w s1 d1)(_:Lim.ok d1):Calls prog 3 #[.slice s0.a s0.len s0.cap,.slice s1.a s1.len s1.cap] w λe w'=>e=.returned (.bool true)/\Pu w w':=
 yK6 (ByV.of h0) (ByV.of h1)
end Go.Proofs.YtaeecpjhfmcliaaGreatDoor
