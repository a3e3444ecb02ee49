import Derived.Test.YtaeecpjhfmcliaaGreatDoorLgOwH
import Derived.Test.YtaeecpjhfmcliaaGreatDoorLgPrB
import Derived.Test.YtaeecpjhfmcliaaGreatDoorLgOwG
import Derived.Test.YtaeecpjhfmcliaaGreatDoorLgOwC
import Derived.Test.YtaeecpjhfmcliaaGreatDoorShThirteen
/- The log: transactions are begun, ended and taken back. No condition but those stated. -/
set_option maxRecDepth 100000
set_option linter.unusedVariables false
set_option linter.unusedSimpArgs false
namespace Go.Proofs.YtaeecpjhfmcliaaGreatDoor
open Go.Sh Go.RowKit Tryz
variable {w0 w w' : World} {X : Nat -> Prop} {L L' : SL} {d d' : Dat} {mu : Int} {p : Int} {f : List Fld}
theorem zQT.st1S (h:zQT X w L d mu) {o:Nat} {v:Value} {K:World->Prop} (ho:o<11) (hK:∀w2,w2.heap[L.S]?=some (.cells ((zJs mu L).setIfInBounds o v) 108)->Fr (·=L.S) w w2->K w2):st1 ((⟨L.S,0,none⟩:Addr).add o) v w K:=by
 rw[zQr,Nat.zero_add]
 exact zQw h.st ho λw2 mr aN=>hK w2 aN (by rw[mr];exact Fr.cell w _ _ _)
def xQm(X:Nat->Prop)(w:World)(L:SL)(v:Value)(d':Dat):Rt:=λe w'=>e=.returned v/\∃L',zQT X w' L' d' 0/\zZw w w' L L'
theorem zJA{v:Value}(h:zQT X w L d 1)(hl:zZw w0 w L' L):zQc prog [zZD L] w λw2=>xQm X w0 L' v d (.returned v) w2:=yK4 h hl λw3 h3 h4 _=>⟨rfl,L,h3,h4⟩
theorem zKd{v:Value}{L0:SL}(h:zQT X w L d 1)(hl:zZw w0 w L0 L)(hp:L0.S=L.S):zQc prog [zZD L0] w λw2=>xQm X w0 L0 v d (.returned v) w2:=by
 have:zZD L0=zZD L:=by unfold zZD SL.ptr;rw[hp]
 rw[this];exact zJA h hl
theorem xQa(h:zQT X w L d 0)(hi:yXf p f d):Calls prog 35 #[L.ptr] w (xQm X w L (.int .i64 (zVY d.σ)) d.begin):=by
 have hlv:=h.lv.len zQV (by decide)
 have hll:=h.ll
 have h8:=hi.l8
 refine yVO _ w _ ((zZ2 h (Pu.refl w)).mono ?_)
 rintro e w1 ⟨rfl,hI,hf,hs⟩
 have h1:=hI.at_ h
 refine⟨_,_,rfl,zVC (Br.of (λc=>by cases c) λ_=>⟨L.lv,h1.cellA 5,Br.of (λc=>?_) (λc=>?_)⟩)⟩
 ·have c:8<=d.σ.lev.length:=by have:=zQk c;omega
  have e1:zVY d.σ=3:=by unfold zVY;rw[if_pos c]
  have e2:d.begin=d:=by unfold Dat.begin Dat.to zKp;rw[if_pos c]
  rw[e1,e2]
  exact zJA h1 hI.left
 ·have c:¬8<=d.σ.lev.length:=by have:=zQd c;omega
  have e1:zVY d.σ=0:=by unfold zVY;rw[if_neg c]
  have e2:d.begin={ d with σ:={ d.σ with lev:=d.σ.lev ++ [d.σ.t] } }:=by unfold Dat.begin Dat.to zKp;rw[if_neg c]
  rw[e1,e2]
  refine zQf λw5 aV _=>?_
  have h5:=h1.pu aV
  refine⟨λu=>Pu w5 u,Pu.refl _,L.lv,λu hu=>(h5.pu hu).cellA 5,_,λu hu=>(h5.pu hu).cellB 2 0,L.now.f,λu hu=>(h5.pu hu).cellB 2 1,L.now.r,λu hu=>(h5.pu hu).cellB 2 2,?_⟩
  rw[h5.now.page]
  refine(zJm (h5.rdNow hi.t.ok) hi.t.ok).mono ?_
  rintro e w8 ⟨q,rfl,hq,bM⟩
  refine⟨q.page,q.f,q.r,rfl,bM,alB λw9 eH kH=>⟨bM.trans eH,?_⟩⟩
  obtain⟨s,aU,hr,hst⟩:=h5.pushLev (bM.trans eH) (hq.pu eH) hi.t.ok kH (by omega) (K:=λaX=>zQc prog [zZD L] aX λaK=>xQm X w L (.int .i64 0) { d with σ:={ d.σ with lev:=d.σ.lev ++ [d.σ.t] } } (.returned (.int .i64 0)) aK) λaX L1 mH nu=>
   zKd mH ((hI.left.trans (zZw.pu aV L)).trans nu) nu.ptr.symm
  exact⟨s,aU,hr,hst⟩
theorem yYe{e:TypeId}{sz:Nat}{s:SV}{vs:List Value}{n:Nat}(h:zQj w e sz s vs)(hn:n<=s.len)(ha:s.a ≠ none):zQj w e sz ⟨s.a,n,s.cap⟩ (vs.take (n * sz)):=by
 obtain⟨h1,hd|⟨g,cur,h3,h4,h5,h6,h7,h8⟩⟩:=h
 ·rw[hd]at ha;exact absurd rfl ha
 ·have hm:n * sz<=s.len * sz:=Nat.mul_le_mul_right _ hn
  refine⟨by rw[List.length_take,h1];exact Nat.min_eq_left hm,.inr ⟨g,cur,h3,h4,Nat.le_trans hn h5,h6,h7,?_⟩⟩
  rw[←h8,List.take_take,Nat.min_eq_left hm]
theorem xQi {α:Type} {l:List α} (h:l ≠ []):∃l0 x,l=l0 ++ [x]:=⟨l.dropLast,l.getLast h,(List.dropLast_concat_getLast h).symm⟩
structure yJu(L:SL)(d:Dat)(l0:List HT)(x:HT)(v0:List Tbl)(t:Tbl):Prop where
 lh:L.lh=l0 ++ [x]
 lev:d.σ.lev=v0 ++ [t]
def SL.pop(L:SL)(l0:List HT):SL:={ L with lv:=⟨L.lv.a,L.lv.len - 1,L.lv.cap⟩,lh:=l0 }
theorem yVX {l0:List HT} {x:HT} (h:L.lh=l0 ++ [x]) {b:Nat} (hb:(L.pop l0).own b):L.own b:=by
 rcases hb with hb|hb|hb|hb|hb|⟨z,hz,hb⟩
 ·exact .inl hb
 ·exact .inr (.inl hb)
 ·exact .inr (.inr (.inl hb))
 ·exact .inr (.inr (.inr (.inl hb)))
 ·exact .inr (.inr (.inr (.inr (.inl hb))))
 ·refine .inr (.inr (.inr (.inr (.inr ⟨z,?_,hb⟩))))
  have hz:z ∈ L.now :: l0:=hz
  rcases List.mem_cons.1 hz with rfl|hz
  ·exact List.mem_cons_self
  ·rw[h];exact List.mem_cons_of_mem _ (List.mem_append_left _ hz)
theorem pop_row(h:zQT X w L d mu){l0:List HT}{x:HT}{v0:List Tbl}{t:Tbl}(hP:yJu L d l0 x v0 t):zQj w 35 3 ⟨L.lv.a,L.lv.len - 1,L.lv.cap⟩ (l0.flatMap yJ3):=by
 have hl:=h.lv.len zQV (by decide)
 have hll:L.lh.length=l0.length+1:=by rw[hP.lh];simp
 have ha:L.lv.a ≠ none:=by
  obtain⟨_,hd|⟨g,cur,h3,_⟩⟩:=h.lv
  ·rw[hd]at hl
   have hl:0=L.lh.length:=hl
   omega
  ·rw[h3];simp
 have h1:=yYe h.lv (n:=L.lv.len - 1) (by omega) ha
 rw[hP.lh,List.flatMap_append,show L.lv.len - 1=l0.length by omega]at h1
 have e:(l0.flatMap yJ3).length=l0.length * 3:=zQ4 zQV l0
 rw[←e,List.take_left]at h1
 rw[show L.lv.len - 1=l0.length by omega]
 exact h1
theorem zQT.pop (h:zQT X w L d mu) {l0:List HT} {x:HT} {v0:List Tbl} {t:Tbl} (hP:yJu L d l0 x v0 t) (hf:Fr (·=L.S) w w') {mu':Int} (hst:w'.heap[L.S]?=some (.cells (zJs mu' (L.pop l0)) 108)):zQT X w' (L.pop l0) { d with σ:={ d.σ with lev:=v0 } } mu':=by
 have hr:=pop_row h hP
 have hll:l0.length=v0.length:=by
  have:=h.ll
  rw[hP.lh,hP.lev]at this;simpa using this
 have at0:∀{i:Nat} {y:HT},l0[i]?=some y->L.lh[i]?=some y:=λ{i y} hy=>by rw[hP.lh,List.getElem?_append_left (List.getElem?_eq_some_iff.1 hy).1];exact hy
 have sk:∀{i:Nat} {y:Tbl},v0[i]?=some y->d.σ.lev[i]?=some y:=λ{i y} hy=>by rw[hP.lev,List.getElem?_append_left (List.getElem?_eq_some_iff.1 hy).1];exact hy
 refine⟨hst,hr.fr hf λb hb e=>hr.other h.st (by decide) (by rw[←show b=L.S from e];exact hb),h.dn.fr hf λb hb e=>h.dn.other h.st (by decide) (by rw[←show b=L.S from e];exact hb),h.wr.fr hf λb hb e=>h.wr.other h.st (by decide) (by rw[←show b=L.S from e];exact hb),h.pt.fr hf λb hb e=>h.pt.other h.st (by decide) (by rw[←show b=L.S from e];exact hb),
  h.now.fr hf λb hb e=>h.now.other h.st (by decide) (by decide) (by rw[←show b=L.S from e];exact hb),hll,h.dl,h.wl,λi y u hy hu=>(h.lvs i y u (at0 hy) (sk hu)).fr hf λb hb e=>(h.lvs i y u (at0 hy) (sk hu)).other h.st (by decide) (by decide) (by rw[←show b=L.S from e];exact hb),h.ld,λy hy=>h.dj y (by rw[hP.lh];exact List.mem_append_left _ hy),λi j y z hij hy hz=>h.djl i j y z hij (at0 hy) (at0 hz),λb hb=>Nat.lt_of_lt_of_le (h.xl b hb) hf.size,λw2 h2=>?_⟩
 have k:=h.kp w2 ((hf.mono λb hb _=>.inl (.inl hb)).trans h2 λb hb _=>hb.imp (yVX hP.lh) id)
 exact⟨k.nf,λi y u hy hu=>k.lf i y u (at0 hy) (sk hu),k.dt,k.fi,k.la,k.wb⟩
def SL.undo(L:SL)(l0:List HT)(x:HT):SL:={ L with lv:=⟨L.lv.a,L.lv.len - 1,L.lv.cap⟩,lh:=l0,now:=x }
theorem yJn {l0:List HT} {x:HT} (h:L.lh=l0 ++ [x]) {b:Nat} (hb:(L.undo l0 x).own b):L.own b:=by
 rcases hb with hb|hb|hb|hb|hb|⟨z,hz,hb⟩
 ·exact .inl hb
 ·exact .inr (.inl hb)
 ·exact .inr (.inr (.inl hb))
 ·exact .inr (.inr (.inr (.inl hb)))
 ·exact .inr (.inr (.inr (.inr (.inl hb))))
 ·refine .inr (.inr (.inr (.inr (.inr ⟨z,?_,hb⟩))))
  have hz:z ∈ x :: l0:=hz
  rw[h]
  rcases List.mem_cons.1 hz with rfl|hz
  ·exact List.mem_cons_of_mem _ (List.mem_append_right _ (List.mem_singleton.2 rfl))
  ·exact List.mem_cons_of_mem _ (List.mem_append_left _ hz)
theorem zQT.undo (h:zQT X w L d mu) {l0:List HT} {x:HT} {v0:List Tbl} {t:Tbl} (hP:yJu L d l0 x v0 t) (hf:Fr (·=L.S) w w') {mu':Int} (hst:w'.heap[L.S]?=some (.cells (zJs mu' (L.undo l0 x)) 108)):zQT X w' (L.undo l0 x) { d with σ:={ d.σ with t:=t,lev:=v0 } } mu':=by
 have hr:=pop_row h hP
 have hll:l0.length=v0.length:=by
  have:=h.ll
  rw[hP.lh,hP.lev]at this;simpa using this
 have at0:∀{i:Nat} {y:HT},l0[i]?=some y->L.lh[i]?=some y:=λ{i y} hy=>by rw[hP.lh,List.getElem?_append_left (List.getElem?_eq_some_iff.1 hy).1];exact hy
 have sk:∀{i:Nat} {y:Tbl},v0[i]?=some y->d.σ.lev[i]?=some y:=λ{i y} hy=>by rw[hP.lev,List.getElem?_append_left (List.getElem?_eq_some_iff.1 hy).1];exact hy
 have lx:L.lh[l0.length]?=some x:=by rw[hP.lh,List.getElem?_append_right (Nat.le_refl _),Nat.sub_self];rfl
 have lt:d.σ.lev[l0.length]?=some t:=by rw[hP.lev,hll,List.getElem?_append_right (Nat.le_refl _),Nat.sub_self];rfl
 have hx:=h.lvs _ x t lx lt
 refine⟨hst,hr.fr hf λb hb e=>hr.other h.st (by decide) (by rw[←show b=L.S from e];exact hb),h.dn.fr hf λb hb e=>h.dn.other h.st (by decide) (by rw[←show b=L.S from e];exact hb),h.wr.fr hf λb hb e=>h.wr.other h.st (by decide) (by rw[←show b=L.S from e];exact hb),h.pt.fr hf λb hb e=>h.pt.other h.st (by decide) (by rw[←show b=L.S from e];exact hb),
  hx.fr hf λb hb e=>hx.other h.st (by decide) (by decide) (by rw[←show b=L.S from e];exact hb),hll,h.dl,h.wl,λi y u hy hu=>(h.lvs i y u (at0 hy) (sk hu)).fr hf λb hb e=>(h.lvs i y u (at0 hy) (sk hu)).other h.st (by decide) (by decide) (by rw[←show b=L.S from e];exact hb),h.ld,λy hy b hb hyb=>?_,λi j y z hij hy hz=>h.djl i j y z hij (at0 hy) (at0 hz),λb hb=>Nat.lt_of_lt_of_le (h.xl b hb) hf.size,λw2 h2=>?_⟩
 ·obtain⟨i,hi⟩:=List.getElem?_of_mem (show y ∈ l0 from hy)
  have:=(List.getElem?_eq_some_iff.1 hi).1
  exact h.djl l0.length i x y (by omega) lx (at0 hi) b hb hyb
 ·have k:=h.kp w2 ((hf.mono λb hb _=>.inl (.inl hb)).trans h2 λb hb _=>hb.imp (yJn hP.lh) id)
  exact⟨k.lf _ x t lx lt,λi y u hy hu=>k.lf i y u (at0 hy) (sk hu),k.dt,k.fi,k.la,k.wb⟩
theorem yJt(h:zQT X w L d 1)(hn:d.σ.lev.length<=1000000):Calls prog 80 #[L.ptr] w λe w'=>(d.σ.lev=[]/\e=.returned (.tuple #[.agg #[.int .i64 0,.slice none 0 0,.slice none 0 0],.int .i64 9])/\Pu w w') ∨
  ∃l0 x v0 t,yJu L d l0 x v0 t/\e=.returned (.tuple #[.agg #[.int .i64 x.page,slV x.f,slV x.r],.int .i64 0])/\Fr (·=L.S) w w'/\w'.heap[L.S]?=some (.cells (zJs 1 (L.pop l0)) 108):=by
 have hlv:=h.lv.len zQV (by decide)
 have hll:=h.ll
 have hS:=h.S_lt
 refine yYS _ w _ (alB λw1 ax aE=>?_)
 have h1:=h.pu ax
 refine⟨L.lv,h1.cellA 5,Br.of (λc=>?_) (λc=>?_)⟩
 ·have c:L.lv.len=0:=by simpa using c
  refine zQh aE zW4.symm rfl rfl λw3 bo fU _=>⟨_,cl bo 0,⟨none,0,0⟩,cl bo 1,⟨none,0,0⟩,cl bo 2,.inl ⟨List.eq_nil_of_length_eq_zero (by omega),rfl,ax.andNew fU λi hi=>by rw[show i=_ from hi];exact Nat.le_refl _⟩⟩
 ·have c:¬L.lv.len=0:=by simpa using c
  obtain⟨l0,x,hlh⟩:=xQi (l:=L.lh) (λe=>by rw[e]at hlv;simp at hlv;omega)
  obtain⟨v0,t,j1⟩:=xQi (l:=d.σ.lev) (λe=>by rw[e]at hll;simp at hll;rw[hll]at hlv;simp at hlv;omega)
  have hlen:L.lh.length=l0.length+1:=by rw[hlh];simp
  have hx:L.lh[L.lv.len - 1]?=some x:=by rw[hlh,List.getElem?_append_right (by omega),show L.lv.len - 1 - l0.length=0 by omega];rfl
  obtain⟨a,ha,hk,c0⟩:=h1.lv.elem zQV hx (o:=0) rfl
  obtain⟨a',ha',_,c1⟩:=h1.lv.elem zQV hx (o:=1) rfl
  obtain⟨a'',ha'',_,c2⟩:=h1.lv.elem zQV hx (o:=2) rfl
  rw[ha]at ha' ha'';cases ha';cases ha''
  rw[zQa (n:=((L.lv.len:Nat):Int) - 1) (by omega) (by omega),show((L.lv.len:Nat):Int) - 1=((L.lv.len - 1:Nat):Int)by omega,zXV]
  have hcap:=h1.lv.le_cap.1
  refine⟨L.lv,h1.cellA 5,a,ha,by omega,by omega,_,c0,x.f,c1,x.r,c2,alB λw7 cK nH=>zQh nH zW4.symm rfl rfl λw8 lZ sb _=>?_⟩
  have jS:Pu w1 w8:=cK.andNew sb λi hi=>by rw[show i=_ from hi];exact Nat.le_refl _
  have gj:=ax.trans jS
  have h8:=h.pu gj
  have me:w.heap.size<w1.heap.size:=zQ0 aE
  refine⟨L.lv,h8.cellA 5,by omega,by omega,by omega,?_⟩
  have esl:(if L.lv.cap=0 then L.lv.a else L.lv.a.map (λx=>x.add (0 * 3)))=L.lv.a:=by rw[if_neg (by omega),ha];show some (a.add (0 * 3))=_;rw[Nat.zero_mul,xJy]
  rw[esl,Nat.sub_zero,Nat.sub_zero]
  rw[zVQ]
  refine h8.st1S (by decide) λaT fV jT=>?_
  have sl:=jT.blk lZ (show ¬w1.heap.size=L.S by omega)
  have zU:=jT.blk (jS.blk aE) (show ¬w.heap.size=L.S by omega)
  refine⟨_,cl sl 0,x.f,cl sl 1,x.r,cl sl 2,zQh zU zW4.symm rfl rfl λaX kK iP _=>⟨_,cl kK 0,x.f,cl kK 1,x.r,cl kK 2,.inr ⟨l0,x,v0,t,⟨hlh,j1⟩,rfl,?_,?_⟩⟩⟩
  ·exact((Fr.pu gj:Fr (·=L.S) w w8).trans jT λ_ h _=>h).trans iP λb hb hlt=>by have hb:b=w.heap.size:=hb;omega
  ·exact iP.blk fV (show ¬L.S=w.heap.size by omega)
theorem end_c(h:zQT X w L d 0)(hi:Inv p f d)(hs:Fit d):Calls prog 36 #[L.ptr] w (xQm X w L (.int .i64 (zVa d.σ)) d.end_):=by
 have hS:=h.S_lt
 have hl8:=hi.l8
 refine yV3 _ w _ ((zZ2 h (Pu.refl w)).mono ?_)
 rintro e w1 ⟨rfl,hI,hf,hsz⟩
 have h1:=hI.at_ h
 refine⟨_,_,rfl,zVC (Br.of (λc=>by cases c) λ_=>(yJt h1 (by omega)).mono ?_)⟩
 rintro e w3 (⟨hnil,rfl,aA⟩|⟨l0,x,v0,t,hP,rfl,fU,sm⟩)
 ·refine⟨0,⟨none,0,0⟩,⟨none,0,0⟩,9,rfl,alB λw4 aJ cA=>zQh cA zW4.symm rfl rfl λw5 bi cr _=>Br.of (λ_=>?_) (λc=>by cases c)⟩
  have dO:Pu w1 w5:=(aA.trans aJ).andNew cr λi hi=>by rw[show i=_ from hi];exact aA.size
  have e1:zVa d.σ=9:=by unfold zVa;rw[if_pos hnil]
  have e2:d.end_=d:=by unfold Dat.end_;rw[if_pos hnil]
  rw[e1,e2]
  exact zJA (h1.pu dO) (hI.left.trans (zZw.pu dO L))
 ·have h3:=h1.pop hP fU sm
  have hlne:d.σ.lev ≠ []:=by rw[hP.lev];simp
  have e1:zVa d.σ=0:=by unfold zVa;rw[if_neg hlne]
  have e2:d.end_=({ d with σ:={ d.σ with lev:=v0 } }:Dat).commit:=by unfold Dat.end_ Dat.to;rw[if_neg hlne,hP.lev,List.dropLast_concat]
  have hW:yXf p f { d with σ:={ d.σ with lev:=v0 } }:=by
   have:=yQ5 hi
   unfold Dat.to at this
   rw[hP.lev,List.dropLast_concat]at this;exact this
  have zT:zZw w1 w3 L (L.pop l0):=⟨fU.mono λb hb _=>.inl hb,λb hb=>.inl (yVX hP.lh hb),rfl⟩
  refine⟨x.page,x.f,x.r,0,rfl,alB λw4 aJ cA=>zQh cA zW4.symm rfl rfl λw5 bi cr _=>Br.of (λc=>by cases c) (λ_=>?_)⟩
  have bL:Pu w3 w5:=aJ.andNew cr λi hi=>by rw[show i=_ from hi];exact Nat.le_refl _
  refine Calls.mono (yJy (L:=L.pop l0) (h3.pu bL) hW ⟨hs.l1,hs.l2,hs.wn,hs.dn⟩) ?_
  rintro e w7 ⟨rfl,L2,h7,hL7⟩
  refine⟨rfl,?_⟩
  rw[e1,e2]
  have hL:=(hI.left.trans zT).trans ((zZw.pu bL (L.pop l0)).trans hL7)
  exact zKd h7 hL hL.ptr.symm
end Go.Proofs.YtaeecpjhfmcliaaGreatDoor
/- The log: records are put behind, replaced, marked; values are set. No condition but those stated. -/
namespace Go.Proofs.YtaeecpjhfmcliaaGreatDoor
open Go.Sh Go.RowKit Tryz
variable {w0 w w' : World} {X : Nat -> Prop} {L L' : SL} {d d' : Dat} {mu : Int} {p : Int} {f : List Fld}
theorem xWq{L1:SL}{w1:World}{d1:Dat}(h1:zQT X w1 L1 d1 1)(hl:zZw w w1 L L1)(hW:yXf p f d1)(hs:Fit d1):Calls prog 79 #[L.ptr] w1 λe w2=>e=.returned (.tuple #[])/\∃L2,zQT X w2 L2 d1.commit 1/\zZw w w2 L L2:=by
 have e:L.ptr=L1.ptr:=by unfold SL.ptr;rw[hl.ptr]
 rw[e]
 refine(yJy h1 hW hs).mono ?_
 rintro e w2 ⟨rfl,L2,h2,sY⟩
 exact⟨rfl,L2,h2,hl.trans sY⟩
theorem stA3 {c:Array Value} {S:Nat} {v0 v1 v2:Value} {K:World->Prop} (hb:w.heap[S]?=some (.cells c 108)) (hc:c.size=11) (h0:yQ4 v0=true) (h1:yQ4 v1=true) (h2:yQ4 v2=true)
  (hK:∀w2,w2.heap[S]?=some (.cells (((c.setIfInBounds 2 v0).setIfInBounds 3 v1).setIfInBounds 4 v2) 108)->Fr (·=S) w w2->K w2):stA prog 35 ((⟨S,0,none⟩:Addr).add 2) #[v0,v1,v2] w K:=by
 refine⟨zW4.symm,by simp[h0,h1,h2],?_⟩
 show Sh.st1 (((⟨S,0,none⟩:Addr).add 2).add 0) v0 w _
 rw[zQr,zQr]
 refine zQw hb (by omega) λwa hwa hba=>?_
 show Sh.st1 (((⟨S,0+2,none⟩:Addr)).add 1) v1 wa _
 rw[zQr]
 refine zQw hba (by simp;omega) λwb hwb hbb=>?_
 show Sh.st1 (((⟨S,0+2,none⟩:Addr)).add 2) v2 wb _
 rw[zQr]
 refine zQw hbb (by simp;omega) λwc hwc hbc=>hK wc hbc ?_
 rw[hwc,hwb,hwa]
 exact((Fr.cell w _ _ _).trans (Fr.cell _ _ _ _) λ_ h _=>h).trans (Fr.cell _ _ _ _) λ_ h _=>h
theorem back_c(h:zQT X w L d 0)(hl8:d.σ.lev.length<=8):Calls prog 37 #[L.ptr] w (xQm X w L (.int .i64 (zVa d.σ)) d.back):=by
 have hS:=h.S_lt
 refine yVi _ w _ ((zZ2 h (Pu.refl w)).mono ?_)
 rintro e w1 ⟨rfl,hI,hf,hsz⟩
 have h1:=hI.at_ h
 refine⟨_,_,rfl,zVC (Br.of (λc=>by cases c) λ_=>(yJt h1 (by omega)).mono ?_)⟩
 rintro e w3 (⟨hnil,rfl,aA⟩|⟨l0,x,v0,t,hP,rfl,fU,sm⟩)
 ·refine⟨0,⟨none,0,0⟩,⟨none,0,0⟩,9,rfl,alB λw4 aJ cA=>zQh cA zW4.symm rfl rfl λw5 bi cr _=>Br.of (λ_=>?_) (λc=>by cases c)⟩
  have dO:Pu w1 w5:=(aA.trans aJ).andNew cr λi hi=>by rw[show i=_ from hi];exact aA.size
  have e1:zVa d.σ=9:=by unfold zVa;rw[if_pos hnil]
  have e2:d.back=d:=by unfold Dat.back Dat.to yXr;rw[if_pos hnil]
  rw[e1,e2]
  exact zJA (h1.pu dO) (hI.left.trans (zZw.pu dO L))
 ·have hlne:d.σ.lev ≠ []:=by rw[hP.lev];simp
  have e1:zVa d.σ=0:=by unfold zVa;rw[if_neg hlne]
  have e2:d.back={ d with σ:={ d.σ with t:=t,lev:=v0 } }:=by
   unfold Dat.back Dat.to yXr;rw[if_neg hlne,hP.lev,List.dropLast_concat,List.getLast?_concat];rfl
  refine⟨x.page,x.f,x.r,0,rfl,alB λw4 aJ cA=>zQh cA zW4.symm rfl rfl λw5 bi cr _=>Br.of (λc=>by cases c) (λ_=>⟨_,cl bi 0,x.f,cl bi 1,x.r,cl bi 2,?_⟩)⟩
  have bL:Pu w3 w5:=aJ.andNew cr λi hi=>by rw[show i=_ from hi];exact Nat.le_refl _
  rw[zVQ]
  refine stA3 (bL.blk sm) rfl rfl rfl rfl λw8 lZ sb=>?_
  have vJ:Fr (·=L.S) w1 w8:=(fU.trans (Fr.pu bL:Fr (·=L.S) w3 w5) λ_ h _=>h).trans sb λ_ h _=>h
  have h8:=h1.undo hP vJ (mu':=1) lZ
  have hL8:zZw w1 w8 L (L.undo l0 x):=⟨vJ.mono λb hb _=>.inl hb,λb hb=>.inl (yJn hP.lh hb),rfl⟩
  rw[e1,e2]
  exact zKd h8 (hI.left.trans hL8) rfl
theorem yVn(h:zQT X w L d mu)(hn:d.σ.t.recs.length<=1000000)(k:Int):Calls prog 81 #[L.ptr,.int .i64 k] w λe w'=>e=.returned (.bool (zZS d.σ k))/\w'=w:=by
 have hrl:=h.now.rlen
 refine yY1 _ _ w _ (Br.of (λc=>⟨L.now.r,h.cellB 2 2,?_,rfl⟩) (λc=>⟨?_,rfl⟩))
 ·have c:=zQk c
  unfold zZS
  rw[hrl,decide_eq_true (show 1<=k by omega),Bool.true_and]
 ·have c:=zQd c
  unfold zZS
  rw[decide_eq_false (show ¬1<=k by omega),Bool.false_and]
end Go.Proofs.YtaeecpjhfmcliaaGreatDoor
/- The log: records are replaced and marked; values are set; the log is made clean. No condition but those stated. -/
namespace Go.Proofs.YtaeecpjhfmcliaaGreatDoor
open Go.Sh Go.RowKit Tryz
variable {w0 w w' : World} {X : Nat -> Prop} {L L' : SL} {d d' : Dat} {mu : Int} {p : Int} {f : List Fld}
theorem yVy{σ:Sto}{k:Int}(h:zZS σ k=true)(hn:σ.t.recs.length<=300):∃j:Nat,k=(j:Int)+1/\j<σ.t.recs.length/\(k - 1).toNat=j/\IntKind.i64.wrap (k - 1)=(j:Int):=by
 unfold zZS at h
 simp only[Bool.and_eq_true,decide_eq_true_eq]at h
 refine⟨(k - 1).toNat,by omega,by omega,rfl,?_⟩
 rw[zQa (by omega) (by omega)];omega
theorem modW (hi:Inv p f d) {j:Nat} {g:Rec->Rec} (hg:∀y,d.σ.t.recs[j]?=some y->zQA f p (g y)=0):yXf p f (d.to { d.σ with t:={ d.σ.t with recs:=d.σ.t.recs.modify j g } }):=
 yX8 hi (by rw[List.length_modify];exact(zXt.of hi.t.ok).n300) (by rw[List.length_modify];exact Nat.le_refl _) λx hx=>by
  rcases zY5 hx with hx|⟨y,hy,rfl⟩
  ·exact hi.recR x hx
  ·exact hg y hy
theorem set_c(h:zQT X w L d 0)(hi:Inv p f d)(hs:Fit d)(k:Int)(nm:ByteArray)(v:Val):Calls prog 40 #[L.ptr,.int .i64 k,.string nm,.agg #[.int .i64 v.kind,.int .i64 v.n,.string v.s]] w (xQm X w L (.int .i64 (xQr d.σ k nm v)) (d.set k nm v)):=by
 have hS:=h.S_lt
 have fK:=(zXt.of hi.t.ok).n300
 have hrl:=h.now.rlen
 refine yYP _ _ _ _ _ _ w _ (alB λw1 ax aE=>(zZ2 h ax).mono ?_)
 rintro e w2 ⟨rfl,hI,hf,hsz⟩
 have h2:=hI.at_ h
 have me:w.heap.size<w1.heap.size:=zQ0 aE
 have b2:=hf.blk aE (show ¬w.heap.size=L.S by omega)
 refine⟨_,_,rfl,zVC (Br.of (λc=>by cases c) λ_=>⟨L.now.f,h2.cellB 2 1,(xKW h2.kp0.nf nm).mono ?_⟩)⟩
 rintro e w5 ⟨rfl,aV⟩
 have h5:=h2.pu aV
 have stay:∀{w3:World} (c:Int),Ins w w3 L->xQr d.σ k nm v=c->d.set k nm v=d->zQc prog [zZD L] w3 λw4=>xQm X w L (.int .i64 (xQr d.σ k nm v)) (d.set k nm v) (.returned (.int .i64 c)) w4:=λ{w3} c hi3 hc hd=>by
  rw[hd,hc]
  exact zJA (hi3.at_ h) hi3.left
 refine⟨_,_,rfl,Br.of (λc=>?_) (λc=>?_)⟩
 ·have c:yWB d.σ.t.fields nm=none:=by simpa using c
  exact stay 4 (hI.pu aV) (by unfold xQr;rw[c]) (by unfold Dat.set;rw[c])
 have c:(yWB d.σ.t.fields nm).isSome=true:=by simpa using c
 obtain⟨i,hidx⟩:=Option.isSome_iff_exists.1 c
 have hil:=xJv hidx
 have eK:idxK d.σ.t.fields nm=(i:Int):=by unfold idxK;rw[hidx];rfl
 have eC:xQr d.σ k nm v=if zZS d.σ k then(zKj (d.σ.t.fields.getD i default) d.σ.t.page v).2 else 4:=by unfold xQr;rw[hidx]
 have eS:d.set k nm v=if zZS d.σ k/\(zKj (d.σ.t.fields.getD i default) d.σ.t.page v).2=0 then d.recs (d.σ.t.recs.modify (k - 1).toNat λr=>{ r with v:=r.v.set i (zKj (d.σ.t.fields.getD i default) d.σ.t.page v).1 })else d:=by unfold Dat.set;rw[hidx]
 refine(yVn h5 (by omega) k).mono ?_
 rintro e w7 ⟨rfl,rfl⟩
 refine⟨_,rfl,Br.of (λc1=>?_) (λc1=>zQf λw9 eH _=>?_)⟩
 ·have c1:zZS d.σ k=false:=by simpa using c1
  exact stay 4 (hI.pu aV) (by rw[eC,if_neg (by rw[c1];simp)]) (by rw[eS,if_neg (by rw[c1];simp)])
 have c1:zZS d.σ k=true:=by simpa using c1
 obtain⟨j,hk,hj,hjn,hwj⟩:=yVy c1 fK
 have mt:=aV.trans eH
 have h9:=h2.pu mt
 have b9:=mt.blk b2
 obtain⟨fl,hfl⟩:=zQZ hil
 have efl:d.σ.t.fields.getD i default=fl:=by rw[List.getD_eq_getElem?_getD,hfl];rfl
 rw[efl]at eC eS
 obtain⟨a,ha,hia,_,_,_,f0,f1,f2,f3⟩:=zJw h9.kp0.nf hfl
 rw[eK]
 have fB:=List.all_eq_true.1 (zJv.of hi.t.ok).all fl (List.mem_of_getElem? hfl)
 refine⟨L.now.f,h9.cellB 2 1,a,ha,by omega,by omega,_,by rw[zXV];exact f0,_,by rw[zXV];exact f1,_,by rw[zXV];exact f2,_,by rw[zXV];exact f3,d.σ.t.page,by rw[h9.cellA 2,←h9.now.page];rfl,_,cl b9 0,_,cl b9 1,_,cl b9 2,(fit_c fl d.σ.t.page v (by have:=(zQR fB).2.1;omega) w9).mono ?_⟩
 rintro e aK ⟨rfl,bg⟩
 refine⟨_,_,_,_,rfl,zQh (bg.blk b9) vk73.symm rfl rfl λbH gl nr _=>?_⟩
 have vK:Ins w bH L:=((hI.pu mt).pu bg).box nr hS (Nat.le_refl _)
 refine Br.of (λc2=>?_) (λc2=>zQf λbT cG _=>?_)
 ·have c2:(zKj fl d.σ.t.page v).2 ≠ 0:=zQ5 c2
  exact stay _ vK (by rw[eC,if_pos c1]) (by rw[eS,if_neg (λe=>c2 e.2)])
 have c2:(zKj fl d.σ.t.page v).2=0:=zQs c2
 have vL:=vK.pu cG
 have gk:=vL.at_ h
 have gP:=cG.blk gl
 obtain⟨y,hy⟩:=zQZ (l:=L.now.hs) (k:=j) (by rw[h.now.len];exact hj)
 obtain⟨r,hrj⟩:=zQZ hj
 have hvl:r.v.length=d.σ.t.fields.length:=zJF ((zXt.of hi.t.ok).recs r (List.mem_of_getElem? hrj))
 obtain⟨e1,hV⟩:=gk.now.rec_ j y r hy hrj
 have hyl:=hV.len zXJ (by decide)
 obtain⟨aa,haa,_,g1⟩:=gk.now.rw_.elem zQP hy (o:=1) rfl
 rw[hwj,zXV]
 refine⟨L.now.r,gk.cellB 2 2,aa,haa,by omega,by omega,y.2,g1,_,cl gP 0,_,cl gP 1,_,cl gP 2,?_⟩
 have eA:d.set k nm v=d.recs (d.σ.t.recs.modify j λr=>{ r with v:=r.v.set i (zKj fl d.σ.t.page v).1 }):=by rw[eS,if_pos ⟨c1,c2⟩,hjn]
 have eC2:xQr d.σ k nm v=0:=by rw[eC,if_pos c1];exact c2
 obtain⟨av,hav,hst⟩:=gk.now.setV hrj (i:=i) (by omega) (zKj fl d.σ.t.page v).1 hy (K:=λaX=>Calls prog 79 #[L.ptr] aX λe aK=>e=.returned (.tuple #[])/\zQc prog [zZD L] aK λbH=>xQm X w L (.int .i64 (xQr d.σ k nm v)) (d.set k nm v) (.returned (.int .i64 0)) bH) λaX zV iP=>by
  have vM:=iP.blk gk.st (hV.other gk.st (by decide))
  obtain⟨mH,zW⟩:=gk.reNow (Pu.refl _) iP (λb hb=>.inr (.inr (zV5 (List.mem_of_getElem? hy) hb))) (q:=L.now) (t:={ d.σ.t with recs:=d.σ.t.recs.modify j λr=>{ r with v:=r.v.set i (zKj fl d.σ.t.page v).1 } }) vM zV (λb hb=>.inl hb) rfl rfl
  have hW:=modW hi (j:=j) (g:=λr=>{ r with v:=r.v.set i (zKj fl d.σ.t.page v).1 }) λy hy=>yXI (hi.recR y (List.mem_of_getElem? hy)) λg hg=>by
   have:g=fl:=by rw[←hi.t.fields,hfl]at hg;exact(Option.some.inj hg).symm
   rw[this,←hi.t.page]
   exact yJj c2
  refine(xWq mH (vL.left.trans zW) hW ⟨hs.l1,hs.l2,hs.wn,hs.dn⟩).mono ?_
  rintro e bC ⟨rfl,L2,h15,vN⟩
  refine⟨rfl,?_⟩
  rw[eA,eC2]
  exact zKd h15 vN vN.ptr.symm
 exact⟨av,hav,by omega,by omega,by rw[zXV];exact hst⟩
end Go.Proofs.YtaeecpjhfmcliaaGreatDoor
/- The log: the table is written into the data file, and the log made empty. No condition but those stated. -/
namespace Go.Proofs.YtaeecpjhfmcliaaGreatDoor
open Go.Sh Go.RowKit Tryz
variable {w0 w w' : World} {X : Nat -> Prop} {L L' : SL} {d d' : Dat} {mu : Int} {p : Int} {f : List Fld}
theorem zZE.fr {w0:World} {q:SV} {wh:List (Int × Int × SV)} {l:List Wr} {B:Nat->Prop} (h:zZE w0 w q wh l) (hf:Fr B w w') (hB:∀k,w0.heap.size<=k->k<w.heap.size->¬B k):zZE w0 w' q wh l:=
 ⟨h.row.fr hf λk hk=>hB k (h.rn k hk) (h.row.lt k hk),h.rn,h.len,λi x y hx hy=>⟨(h.each i x y hx hy).1,(h.each i x y hx hy).2.1,(h.each i x y hx hy).2.2.fr hf hB⟩⟩
end Go.Proofs.YtaeecpjhfmcliaaGreatDoor
/- The log: the reference's copies of records and tables. No condition but those stated. -/
namespace Go.Proofs.YtaeecpjhfmcliaaGreatDoor
open Go.Sh Go.RowKit Tryz
variable {w w' : World}
end Go.Proofs.YtaeecpjhfmcliaaGreatDoor
/- The log: how many writes and commits there are behind some acts. In plain words. No condition but those stated. -/
namespace Go.Proofs.YtaeecpjhfmcliaaGreatDoor
open Go.Sh Go.RowKit Tryz
structure Sz(F:FS)(n:Nat)(d:Dat):Prop where
 first:d.first=F
 wn:d.wr.length<=5 * n
 dn:d.σ.done.length<=n+1
variable {p : Int} {f : List Fld} {d : Dat} {F : FS} {n : Nat}
theorem Sz.new(t:Tbl)(F:FS):Sz F 0 (Dat.new t F):=⟨rfl,Nat.le_refl _,Nat.le_refl _⟩
theorem Sz.up(h:Sz F n d):Sz F (n+1) d:=⟨h.first,by have:=h.wn;omega,by have:=h.dn;omega⟩
theorem Sz.to(h:Sz F n d){σ:Sto}(e:σ.done=d.σ.done):Sz F n (d.to σ):=⟨h.first,h.wn,by show σ.done.length<=_;rw[e];exact h.dn⟩
theorem Sz.commit(h:Sz F n d):Sz F (n+1) d.commit:=by
 unfold Dat.commit
 split
 ·refine⟨h.first,?_,?_⟩
  ·show(d.wr ++ [d.rec_]).length<=_
   have:=h.wn
   rw[List.length_append,List.length_singleton];omega
  ·show(d.σ.done ++ [d.σ.t]).length<=_
   have:=h.dn
   rw[List.length_append,List.length_singleton];omega
 ·exact h.up
theorem Sz.begin(h:Sz F n d):Sz F (n+1) d.begin:=(h.to (by unfold zKp;split <;> rfl)).up
theorem Sz.back(h:Sz F n d):Sz F (n+1) d.back:=(h.to (by unfold yXr;split <;> rfl)).up
theorem Sz.end_(h:Sz F n d):Sz F (n+1) d.end_:=by
 unfold Dat.end_
 split
 ·exact h.up
 ·exact Sz.commit (h.to rfl)
theorem Sz.recs(h:Sz F n d)(l:List Rec):Sz F (n+1) (d.recs l):=Sz.commit (h.to rfl)
theorem Sz.app(h:Sz F n d)(r:Rec):Sz F (n+1) (d.app r):=by
 unfold Dat.app
 split
 ·exact h.recs _
 ·exact h.up
theorem Sz.put(h:Sz F n d)(k:Int)(r:Rec):Sz F (n+1) (d.put k r):=by
 unfold Dat.put
 split
 ·exact h.recs _
 ·exact h.up
theorem Sz.set(h:Sz F n d)(k:Int)(nm:ByteArray)(v:Val):Sz F (n+1) (d.set k nm v):=by
 unfold Dat.set
 cases yWB d.σ.t.fields nm with
 | none=>exact h.up
 | some i=>
  dsimp only
  split
  ·exact h.recs _
  ·exact h.up
theorem Sz.small(h:Sz F n d)(hi:Inv p f d)(hF:F.1.length<=400000000/\F.2.length<=400000000)(hn:n<=100):Small d:=⟨by rw[h.first];exact hF.1,by rw[h.first];exact hF.2,by have:=h.wn;omega,hi.wb⟩
theorem Sz.fit(h:Sz F n d)(hi:Inv p f d)(hF:F.1.length<=400000000/\F.2.length<=400000000)(hn:n<=100):Fit d:=by
 have hs:=(h.small hi hF hn).files d.wr.length
 rw[←hi.eq]at hs
 exact⟨by omega,by omega,by have:=h.wn;omega,by have:=h.dn;omega⟩
end Go.Proofs.YtaeecpjhfmcliaaGreatDoor
/- The log: what is known of a store that is played in the way that the document shows. No condition. -/
namespace Go.Proofs.YtaeecpjhfmcliaaGreatDoor
open Go.Sh Go.RowKit Tryz
variable {w w' : World}
def yJz(n:Int):Val:=⟨2,n,⟨#[]⟩⟩
def oneR(n:Int):Rec:=⟨false,[yJz n]⟩
def oneF:List Fld:=[⟨⟨#[78]⟩,2,3,false⟩]
def zVj(l:List Int):Tbl:=⟨0,oneF,l.map oneR⟩
theorem one_c {r:Nat} {l:List Int} (hl:l.length<=1000) (hb:w.heap[r]?=some (.cells (l.map (Value.int .i64)).toArray 3)):Calls prog 44 #[.slice (some ⟨r,0,none⟩) l.length l.length] w λe w'=>∃f q:SV,e=.returned (zYj (zVj l) f q)/\zKJ w w' (zVj l) f q/\Pu w w':=by
 refine yVI ⟨some ⟨r,0,none⟩,l.length,l.length⟩ w _ (alB λw1 ax aE=>alB λw2 ar aN=>alB λw3 aA bo=>zQh bo zW4.symm rfl rfl λw4 cA iv _=>?_)
 have vO:Pu w2 w4:=aA.andNew iv λi hi=>by rw[show i=_ from hi];exact Nat.le_refl _
 have kM:=ar.trans vO
 have cW:=ax.trans kM
 have lt0:w.heap.size<w1.heap.size:=zQ0 aE
 have me:w1.heap.size<w2.heap.size:=zQ0 aN
 obtain⟨qf,hqf⟩:∃qf:SV,qf=⟨some ⟨w1.heap.size,0,none⟩,1,1⟩:=⟨_,rfl⟩
 have sT:zWs w w4 qf (zVj l).fields:=by
  rw[hqf]
  exact⟨⟨rfl,.inr ⟨_,_,rfl,vO.blk aN,Nat.le_refl _,by show 1<=maxLen;unfold maxLen;omega,rfl,rfl⟩⟩,λb hb=>by simp[zQb]at hb;omega⟩
 have S0:ChS w w2.heap.size w.heap.size (zVj l) qf [] w4:=⟨⟨⟨none,0,0⟩,by rw[cA,hqf];rfl,zJV.nil _ _⟩,kM.blk aE,sT,cW,by omega,by omega,by omega⟩
 clear hqf
 refine zQ1 l.length (λk u w'=>u=(k:Int)/\ChS w w2.heap.size w.heap.size (zVj l) qf ((l.take k).map oneR) w') ⟨rfl,by simpa using S0⟩ ?_
 rintro k J u wa hk ⟨hu,hS⟩ hJ
 obtain rfl:u=(k:Int):=hu
 refine Br.of (λc=>zQf λwb hpb _=>?_) (λc=>?_)
 ·have hkn:k<l.length:=by have:(k:Int)<((l.length:Nat):Int):=zQk c;omega
  obtain⟨x,hx⟩:=zQZ hkn
  have hSb:=hS.on hpb
  obtain⟨s,g1,g2⟩:=hSb.ex
  refine⟨λu=>Pu wb u,Pu.refl _,s,λu hu=>cl (hu.blk g1) 2,_,rfl,by omega,by show(k:Int)<((l.length:Nat):Int);omega,x,λu hu=>?_,(yYz x wb).mono ?_⟩
  ·rw[zXV,Nat.mul_one,cl (hu.blk (hSb.pu.blk hb)) k]
   simp[hx]
  rintro e wc ⟨rfl,hpc⟩
  refine⟨_,_,_,rfl,hpc,alB λwd hpd hbd=>⟨hpc.trans hpd,alB λwe hpe hbe=>⟨(hpc.trans hpd).trans hpe,?_⟩⟩⟩
  have hpbe:=(hpc.trans hpd).trans hpe
  have hSe:=hSb.on hpbe
  have g1e:=hpbe.blk g1
  have g2e:=g2.pu hpbe
  have zb:=hSb.pu.size
  have zc:=hpc.size
  have hv:zJ1 w we ⟨some ⟨wc.heap.size,0,none⟩,1,1⟩ [yJz x]:=⟨⟨rfl,.inr ⟨_,_,rfl,hpe.blk hbd,Nat.le_refl _,by show 1<=maxLen;unfold maxLen;omega,rfl,rfl⟩⟩,λb hb=>by simp[zQb]at hb;omega⟩
  obtain⟨s',wf,hra,nf,hff⟩:=g2e.push (g:=false) (vs:=[yJz x]) hSe.pu.size hv hbe rfl (by rw[List.length_map,List.length_take];omega)
  refine⟨s',wf,hra,?_⟩
  have nk:∀{b:Nat} {c:Array Value},we.heap[b]?=some (.cells c 35)->¬b ∈ zQb s:=λhb hk=>by obtain⟨qs,k1,_⟩:=g2e;exact k1.other hb (by decide) hk
  have g1f:=hff.blk g1e (nk g1e)
  refine zQw g1f (by show 2<3;omega) λwg hwg hbg=>?_
  have hfg:Fr (·=w2.heap.size) wf wg:=by rw[hwg];exact Fr.cell wf _ _ _
  have hqe:zWs w wf qf (zVj l).fields:=hSe.qf.fr hff λk hk e=>by obtain⟨qs,k1,_⟩:=g2e;exact zQq hSe.qf.1 k1 (by decide) k hk e
  rw[zQa (by omega) (by omega)]
  refine hJ _ _ hkn ⟨rfl,⟨⟨s',hbg,?_⟩,hfg.blk (hff.blk hSe.b4 (nk hSe.b4)) (Ne.symm hSe.ne),hqe.fr hfg λk hk e=>hqe.1.other g1f (by decide) (by rw[←show k=_ from e];exact hk),(hSe.pu.andNew hff g2e.own).andNew hfg λi hi=>by rw[show i=_ from hi];exact hSe.z2,hSe.z2,hSe.z4,hSe.ne⟩⟩
  rw[zQ9 hx,List.map_append]
  exact nf.other hfg g1f (by decide) (by decide)
 ·have hkn:k=l.length:=by have:¬(k:Int)<((l.length:Nat):Int):=zQd c;omega
  subst hkn
  rw[List.take_length]at hS
  obtain⟨s,g1,g2⟩:=hS.ex
  exact⟨_,cl g1 0,qf,cl g1 1,s,cl g1 2,zQh hS.b4 zW4.symm rfl rfl λwz hbz hfz _=>⟨_,cl hbz 0,qf,cl hbz 1,s,cl hbz 2,qf,s,rfl,⟨hS.qf.fr hfz λk hk e=>hS.qf.1.other hS.b4 (by decide) (by rw[←show k=_ from e];exact hk),g2.other hfz hS.b4 (by decide) (by decide)⟩,hS.pu.andNew hfz λi hi=>by rw[show i=_ from hi];exact hS.z4⟩⟩
theorem yXx (l:List Int) (h:l=[1,2]∨l=[5,2]):zQi (zVj l)=0:=by
 rcases h with rfl|rfl <;> decide +kernel
def k0:Sto:=Sto.new (zVj [1,2])
def k1:Sto:=zKp k0
def k2:Sto:=setS k1 1 ⟨#[78]⟩ (yJz 5)
def k3:Sto:=zKp k2
def k4:Sto:=setS k3 2 ⟨#[78]⟩ (yJz 6)
def k5:Sto:=yXr k4
def k6:Sto:=endS k5
theorem k1_c:zVY k0=0:=by decide +kernel
theorem k2_c:xQr k1 1 ⟨#[78]⟩ (yJz 5)=0:=by decide +kernel
theorem k3_c:zVY k2=0:=by decide +kernel
theorem k4_c:xQr k3 2 ⟨#[78]⟩ (yJz 6)=0:=by decide +kernel
theorem k5_c:zVa k4=0:=by decide +kernel
theorem k6_c:zVa k5=0:=by decide +kernel
theorem k6_t:k6.t=zVj [5,2]:=by decide +kernel
theorem xWk:k6.done=[zVj [1,2],zVj [5,2]]:=by decide +kernel
end Go.Proofs.YtaeecpjhfmcliaaGreatDoor
/- The log: that the program commits what the document says: that call, walked. No condition. -/
namespace Go.Proofs.YtaeecpjhfmcliaaGreatDoor
open Go.Sh Go.RowKit Tryz
variable {w0 w w' : World} {X : Nat -> Prop}
structure KnS(X:Nat->Prop)(w0 w:World)(S:Nat)(p:Int)(f:List Fld)(F:FS)(n:Nat)(d:Dat)(L:SL):Prop where
 S:L.S=S
 at_:zQT X w L d 0
 inv:Inv p f d
 sz:Sz F n d
 pu:Pu w0 w
 own:∀b,L.own b->w0.heap.size<=b
variable {S : Nat} {p : Int} {f : List Fld} {F : FS} {n : Nat} {d d' : Dat} {L : SL}
theorem KnS.on(h:KnS X w0 w S p f F n d L)(hp:Pu w w'):KnS X w0 w' S p f F n d L:=⟨h.S,h.at_.pu hp,h.inv,h.sz,h.pu.trans hp,h.own⟩
theorem KnS.act (h:KnS X w0 w S p f F n d L) {i:Nat} {v:Value} {args:Array Value} (hc:Calls prog i args w (xQm X w L v d')) (hi:Inv p f d') (hz:Sz F (n+1) d'):Calls prog i args w λe w'=>e=.returned v/\∃L',KnS X w0 w' S p f F (n+1) d' L':=by
 refine hc.mono ?_
 rintro e w2 ⟨rfl,L2,h2,hl⟩
 exact⟨rfl,L2,hl.ptr.trans h.S,h2,hi,hz,h.pu.andNew hl.fr h.own,λb hb=>(hl.own b hb).elim (h.own b) λhb=>by have:=h.pu.size;omega⟩
theorem KnS.ptr(h:KnS X w0 w S p f F n d L):Value.pointer (some ⟨S,0,none⟩)=L.ptr:=by rw[←h.S]
theorem xWh(w:World):Calls prog 10 #[] w λe w'=>e=.returned (.bool true)/\Pu w w':=by
 have sZ:=yXx [1,2] (.inl rfl)
 have wD:=yXx [5,2] (.inr rfl)
 refine yY0 w _ (alB λw1 ax aE=>(one_c (l:=[1,2]) (by decide) aE).mono ?_)
 rintro e w2 ⟨f,q,rfl,hO,ar⟩
 have aM:=ax.trans ar
 refine⟨_,f,q,rfl,(new_c (X:=λ_=>False) (hO.rd (zXY sZ)) (zZL sZ) λb hb=>hb.elim).mono ?_⟩
 rintro e w3 ⟨aA,⟨j1,_⟩|⟨_,p,rfl,L,rfl,h3,own⟩⟩
 ·exact absurd sZ j1
 have hF:(zQz (zVj [1,2])).length<=400000000/\([]:List UInt8).length<=400000000:=⟨by have:=zKZ (zJv.of sZ);show(zQz (zVj [1,2])).length<=_;omega,by simp⟩
 have K0:KnS (λ_=>False) w w3 L.S 0 oneF (zQz (zVj [1,2]),[]) 0 (Dat.new (zVj [1,2]) (zQz (zVj [1,2]),[])) L:=⟨rfl,h3,yYd sZ (xQE sZ),Sz.new _ _,aM.trans aA,λb hb=>by have:=own b hb;have:=aM.size;omega⟩
 obtain⟨S,hS⟩:∃S:Nat,S=L.S:=⟨_,rfl⟩
 rw[←hS]at K0 ⊢
 clear hS h3 own
 obtain⟨d0,rg⟩:∃d0,d0=Dat.new (zVj [1,2]) (zQz (zVj [1,2]),[]):=⟨_,rfl⟩
 have s0:d0.σ=k0:=by rw[rg];rfl
 rw[←rg]at K0
 clear rg
 refine⟨_,_,rfl,Br.of (λc=>by cases c) λ_=>?_⟩
 rw[K0.ptr]
 refine(K0.act (xQa K0.at_ K0.inv.toInvW) (yX9 K0.inv) K0.sz.begin).mono ?_
 rintro e w4 ⟨rfl,L1,K1⟩
 rw[s0,k1_c]
 have s1:d0.begin.σ=k1:=by show zKp d0.σ=_;rw[s0];rfl
 refine⟨_,rfl,Br.of (λc=>by cases c) λ_=>(yYz 5 w4).mono ?_⟩
 rintro e w5 ⟨rfl,aV⟩
 replace K1:=K1.on aV
 refine⟨_,_,_,rfl,?_⟩
 rw[←K0.ptr,K1.ptr]
 refine(K1.act (set_c K1.at_ K1.inv (K1.sz.fit K1.inv hF (by omega)) 1 ⟨#[78]⟩ (yJz 5)) (yVC K1.inv _ _ _) (K1.sz.set _ _ _)).mono ?_
 rintro e w6 ⟨rfl,L2,K2⟩
 rw[s1,k2_c]
 have s2:(d0.begin.set 1 ⟨#[78]⟩ (yJz 5)).σ=k2:=by rw[Dat.set_σ,s1];rfl
 refine⟨_,rfl,Br.of (λc=>by cases c) λ_=>?_⟩
 rw[←K1.ptr,K2.ptr]
 refine(K2.act (xQa K2.at_ K2.inv.toInvW) (yX9 K2.inv) K2.sz.begin).mono ?_
 rintro e w7 ⟨rfl,L3,K3⟩
 rw[s2,k3_c]
 have s3:(d0.begin.set 1 ⟨#[78]⟩ (yJz 5)).begin.σ=k3:=by show zKp (d0.begin.set 1 ⟨#[78]⟩ (yJz 5)).σ=_;rw[s2];rfl
 refine⟨_,rfl,Br.of (λc=>by cases c) λ_=>(yYz 6 w7).mono ?_⟩
 rintro e w8 ⟨rfl,bM⟩
 replace K3:=K3.on bM
 refine⟨_,_,_,rfl,?_⟩
 rw[←K2.ptr,K3.ptr]
 refine(K3.act (set_c K3.at_ K3.inv (K3.sz.fit K3.inv hF (by omega)) 2 ⟨#[78]⟩ (yJz 6)) (yVC K3.inv _ _ _) (K3.sz.set _ _ _)).mono ?_
 rintro e w9 ⟨rfl,L4,K4⟩
 rw[s3,k4_c]
 obtain⟨d4,vq⟩:∃d4,d4=(d0.begin.set 1 ⟨#[78]⟩ (yJz 5)).begin.set 2 ⟨#[78]⟩ (yJz 6):=⟨_,rfl⟩
 have s4:d4.σ=k4:=by rw[vq,Dat.set_σ,s3];rfl
 rw[←vq]at K4
 clear vq
 refine⟨_,rfl,Br.of (λc=>by cases c) λ_=>?_⟩
 rw[←K3.ptr,K4.ptr]
 refine(K4.act (back_c K4.at_ K4.inv.l8) (xQ3 K4.inv) K4.sz.back).mono ?_
 rintro e aU ⟨rfl,L5,K5⟩
 rw[s4,k5_c]
 have s5:d4.back.σ=k5:=by show yXr d4.σ=_;rw[s4];rfl
 refine⟨_,rfl,Br.of (λc=>by cases c) λ_=>?_⟩
 rw[←K4.ptr,K5.ptr]
 refine(K5.act (end_c K5.at_ K5.inv (K5.sz.fit K5.inv hF (by omega))) (xWx K5.inv) K5.sz.end_).mono ?_
 rintro e aT ⟨rfl,L6,K6⟩
 rw[s5,k6_c]
 have s6:d4.back.end_.σ=k6:=by rw[Dat.end_σ,s5];rfl
 obtain⟨d6,hd6⟩:∃d6,d6=d4.back.end_:=⟨_,rfl⟩
 rw[←hd6]at K6 s6
 clear hd6
 refine⟨_,rfl,Br.of (λc=>by cases c) λ_=>?_⟩
 rw[K6.ptr]
 have hdone:d6.σ.done=[zVj [1,2],zVj [5,2]]:=by rw[s6,xWk]
 refine(yZx K6.at_ (λt ht=>(K6.inv.done t ht).ok) 1).mono ?_
 rintro e aX ⟨x,rfl,hx,cT⟩
 have eC:yZs d6.σ 1=0:=by unfold yZs;rw[hdone];rfl
 have eT:yX2 d6.σ 1=zVj [5,2]:=by unfold yX2;rw[hdone];rfl
 rw[eC]
 rw[eT]at hx
 refine⟨_,x.f,x.r,_,rfl,alB λaK bg kL=>zQh kL zW4.symm rfl rfl λbH gl nr _=>zQf λbC dO _=>?_⟩
 have eI:Pu aX bH:=bg.andNew nr λi hi=>by rw[show i=_ from hi];exact Nat.le_refl _
 have jQ:=eI.trans dO
 have gJ:=dO.blk gl
 have K7:=(K6.on cT).on jQ
 have vP:=hx.pu jQ
 refine⟨λu=>Pu bC u,Pu.refl _,Br.of (λ_=>(yYo K7.at_ (by rw[hdone];decide)).mono ?_) (λc=>by cases c)⟩
 rintro e bT ⟨rfl,cG⟩
 rw[hdone]
 refine⟨_,rfl,cG,Br.of (λ_=>⟨x.page,λu hu=>cl (hu.blk gJ) 0,x.f,λu hu=>cl (hu.blk gJ) 1,x.r,λu hu=>cl (hu.blk gJ) 2,alB λbD lw oD=>⟨cG.trans lw,(one_c (l:=[5,2]) (by decide) oD).mono ?_⟩⟩) (λc=>by cases c)⟩
 rintro e cH ⟨f2,q2,rfl,hO2,jS⟩
 have sn:=(cG.trans lw).trans jS
 have hp_x:x.page=(zVj [5,2]).page:=hx.tab.page
 refine⟨_,f2,q2,rfl,sn,?_⟩
 rw[hp_x]
 refine(yYG ((vP.pu sn).rd wD) (hO2.rd (zXY wD))).mono ?_
 rintro e cR ⟨rfl,zX⟩
 rw[decide_eq_true rfl]
 have oF:=sn.trans zX
 refine⟨_,rfl,oF,Br.of (λ_=>⟨x.page,λu hu=>cl (hu.blk gJ) 0,x.f,λu hu=>cl (hu.blk gJ) 1,x.r,λu hu=>cl (hu.blk gJ) 2,?_⟩) (λc=>by cases c)⟩
 have K8:=K7.on oF
 have e8:d6.σ.t=zVj [5,2]:=by rw[s6,k6_t]
 refine(zWY K8.at_ K8.inv.t.ok).mono ?_
 rintro e cP ⟨y,rfl,hy,ir⟩
 rw[e8]at hy
 have hp_y:y.page=(zVj [5,2]).page:=hy.tab.page
 refine⟨_,y.f,y.r,rfl,oF.trans ir,?_⟩
 rw[hp_x,hp_y]
 refine(yYG (hy.rd wD) ((vP.pu (oF.trans ir)).rd wD)).mono ?_
 rintro e bX ⟨rfl,np⟩
 rw[decide_eq_true rfl]
 exact⟨_,rfl,rfl,(K8.on (ir.trans np)).pu⟩
end Go.Proofs.YtaeecpjhfmcliaaGreatDoor
/- The law of what is opened, walked. No condition. -/
namespace Go.Proofs.YtaeecpjhfmcliaaGreatDoor
open Go.Sh Go.RowKit Tryz
variable {w w' : World}
theorem yKx(F:FS):1<=(yJ2 F).length:=by
 have h:∀(l:List Wr) (acc:List FS),1<=acc.length->1<=(l.foldl (λl x=>l ++ [zQK (l.getLast?.getD F) x]) acc).length:=by
  intro l
  induction l with
  | nil=>intro acc h;exact h
  | cons x l ih=>
   intro acc h
   rw[List.foldl_cons]
   exact ih _ (by rw[List.length_append];omega)
 exact h _ _ (by simp)
theorem yQ1{w0:World}(hp:Pu w0 w):Calls prog 10 #[] w λe w1=>∃b:Bool,e=.returned (.bool b)/\zQc prog [] w1 λw2=>(λ(e:Ending) (w':World)=>e=Ending.returned (.bool true)/\Pu w0 w') (Ending.returned (.bool b)) w2:=by
 refine(xWh w).mono ?_
 rintro e w1 ⟨rfl,ax⟩
 exact⟨_,rfl,rfl,hp.trans ax⟩
theorem yKn{s0 s1:SV}{d0 d1:List UInt8}(h0:ByV w s0 d0)(h1:ByV w s1 d1):Calls prog 3 #[slV s0,slV s1] w λe w'=>e=.returned (.bool true)/\Pu w w':=by
 have l0:=h0.len
 have l1:=h1.len
 have m0:=h0.lim
 have m1:=h1.lim
 refine xQ5 s0 s1 w _ (Br.of (λ_=>yQ1 (Pu.refl w)) (λc=>?_))
 have c:=zQd c
 rw[zQa (by omega) (by omega)]at c
 refine(open_c (X:=λ_=>False) h0 h1 (by omega) (by omega) λb hb=>hb.elim).mono ?_
 rintro e w1 ⟨ax,⟨hN,rfl⟩|⟨t,p,hT,rfl,L,rfl,hL,hown⟩⟩
 ·refine⟨_,_,rfl,(yYU (h0.pu ax) (h1.pu ax) (by omega) (by omega)).mono ?_⟩
  rintro e w2 ⟨ar,⟨_,rfl⟩|⟨t,hT,_⟩⟩
  ·refine⟨⟨none,0,0⟩,_,rfl,Br.of (λc=>by cases c) λ_=>Br.of (λ_=>Br.of (λc=>by cases c) λ_=>⟨true,w2,zK1 vu24 _ _ none w2,Br.of (λc=>by cases c) λ_=>Br.of (λc=>by cases c) λ_=>Br.of (λ_=>yQ1 (ax.trans ar)) λc=>by cases c⟩) λc=>by cases c⟩
  ·rw[hN]at hT;cases hT
 ·refine⟨_,_,rfl,(yYU (h0.pu ax) (h1.pu ax) (by omega) (by omega)).mono ?_⟩
  rintro e w2 ⟨ar,⟨hN,_⟩|⟨t',hT',q,ps,rfl,hP⟩⟩
  ·rw[hT]at hN;cases hN
  rw[hT]at hT';cases hT'
  have hv:zQi t=0:=zK0 hT
  have hql:=hP.row.len yQC (by decide)
  have hpl:=hP.len
  have hpos:=yKx (d0,d1)
  have hq0:((((q.len:Nat):Int) == 0))=false:=by
   have:q.len ≠ 0:=by omega
   simpa using this
  refine⟨q,_,rfl,Br.of (λc=>by cases c) λ_=>Br.of (λc=>by cases c) λ_=>⟨false,w2,zK1 vu24 _ _ (some _) w2,Br.of (λc=>by cases c) λ_=>Br.of (λc=>by rw[hq0]at c;cases c) λ_=>Br.of (λc=>by cases c) λ_=>(zWY (hL.pu ar) hv).mono ?_⟩⟩
  rintro e w3 ⟨x,rfl,hx,aA⟩
  have hxp:x.page=t.page:=hx.tab.page
  have hx:zKF w2 w3 t x:=hx
  refine⟨x.page,x.f,x.r,rfl,?_⟩
  rw[hxp]
  refine(yZA (hx.rd hv)).mono ?_
  rintro e w4 ⟨rfl,aJ⟩
  rw[hv]
  exact⟨_,rfl,Br.of (λ_=>yQ1 (((ax.trans ar).trans aA).trans aJ)) λc=>by cases c⟩
theorem yW4(w:World)(s0:SV)(d0:List UInt8)(h0:zXF w s0 d0)(_:Lim.ok d0)(s1:SV)(d1:List UInt8)(h1:zXF w s1 d1)(_:Lim.ok d1):Calls prog 3 #[.slice s0.a s0.len s0.cap,.slice s1.a s1.len s1.cap] w λe w'=>e=.returned (.bool true)/\Pu w w':=
 yKn (ByV.of h0) (ByV.of h1)
end Go.Proofs.YtaeecpjhfmcliaaGreatDoor
