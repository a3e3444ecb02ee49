import Derived.Test.YtaeecpjhfmcliaaGreatDoorLgOwI
import Derived.Test.YtaeecpjhfmcliaaGreatDoorLgO2
import Derived.Test.YtaeecpjhfmcliaaGreatDoorLgPrC
import Derived.Test.YtaeecpjhfmcliaaGreatDoorLgOwC
import Derived.Test.YtaeecpjhfmcliaaGreatDoorLgOwH
/- The log: what the reference's store does, without its records' methods. No condition but those stated. -/
set_option maxRecDepth 100000
set_option linter.unusedVariables false
set_option linter.unusedSimpArgs false
namespace Go.Proofs.YtaeecpjhfmcliaaGreatDoor
open Go.Sh Go.RowKit Tryz
variable {w0 w w' : World} {X : Nat -> Prop} {R R' : RL} {σ σ' : Sto}
theorem zXu.toPtr(h:zXu w w' R R'):R.ptr=R'.ptr:=by unfold RL.ptr;rw[h.ptr]
def NewRf(X:Nat->Prop)(w w':World)(p:Option Addr)(σ:Sto):Prop:=∃R:RL,p=some ⟨R.S,0,none⟩/\zQT X w' R σ/\∀b,R.own b->w.heap.size<=b
theorem xVd{t:Tbl}{f r:SV}(h:zX2 w t f r)(hX:∀b,X b->b<w.heap.size) :
  Calls prog 42 #[zVe t f r] w λe w'=>Pu w w'/\((zQg t ≠ 0/\e=.returned (.tuple #[.pointer none,.int .i64 (zQg t)]))∨zQg t=0/\∃p,e=.returned (.tuple #[.pointer p,.int .i64 0])/\NewRf X w w' p (Sto.new t)):=by
 refine xXr _ _ _ w _ (alB λw1 aq aB=>⟨_,cl aB 0,f,cl aB 1,r,cl aB 2,(yJw (h.pu aq)).mono ?_⟩)
 rintro e w2 ⟨rfl,ar⟩
 have aG:=aq.trans ar
 have cN:=ar.blk aB
 refine⟨_,rfl,Br.of (λc=>⟨aG,.inl ⟨zQ3 c,rfl⟩⟩) (λc=>zQb λw4 aK _=>?_)⟩
 have hv:zQg t=0:=zQs c
 have cq:=aG.trans aK
 have iE:=aK.blk cN
 refine⟨λu=>Pu w4 u,Pu.refl _,_,λu hu=>cl (hu.blk iE) 0,f,λu hu=>cl (hu.blk iE) 1,r,λu hu=>cl (hu.blk iE) 2,_,λu hu=>cl (hu.blk iE) 0,f,λu hu=>cl (hu.blk iE) 1,r,λu hu=>cl (hu.blk iE) 2,(zY9 (h.pu cq) hv).mono ?_⟩
 rintro e w5 ⟨f1,r1,rfl,hO1,aT⟩
 refine⟨_,f1,r1,rfl,aT,(zY9 (h.pu (cq.trans aT)) hv).mono ?_⟩
 rintro e w6 ⟨f2,r2,rfl,hO2,bn⟩
 refine⟨_,f2,r2,rfl,alB λw7 ck jw=>alB λw8 bU j8=>?_⟩
 have po:=((aT.trans bn).trans ck).trans bU
 have dw:=cq.trans po
 have z4:=cq.size
 have z5:=aT.size
 have z6:=bn.size
 have lt6:w6.heap.size<w7.heap.size:=zQy jw
 have lt7:w7.heap.size<w8.heap.size:=zQy j8
 have hO1':zJq w4 w8 t f1 r1:=((hO1.pu bn).pu ck).pu bU
 have hO2':zJq w5 w8 t f2 r2:=(hO2.pu ck).pu bU
 obtain⟨R,hR⟩:∃R:RL,R=⟨w7.heap.size,⟨t.page,f1,r1,[]⟩,⟨some ⟨w6.heap.size,0,none⟩,1,1⟩,[⟨t.page,f2,r2,[]⟩],⟨none,0,0⟩,[]⟩:=⟨_,rfl⟩
 have own:∀b,R.own b->b=w7.heap.size∨b=w6.heap.size:=λb hb=>by
  rw[hR]at hb
  rcases hb with hb|hb|hb
  ·exact .inl hb
  ·simp[zQd]at hb;exact .inr hb
  ·simp[zQd]at hb
 have keep:∀{wz:World} {f r:SV},w4.heap.size<=wz.heap.size->wz.heap.size<=w6.heap.size->zJq wz w8 t f r->(∀b,b=w7.heap.size∨b=w6.heap.size->¬(b ∈ zQd f))->True:=λ_ _ _ _=>trivial
 have kp:∀{wz:World} {f r:SV},w.heap.size<=wz.heap.size->zJq wz w6 t f r->∀w3,Fr (λb=>R.own b∨X b) w8 w3->zX2 w3 t f r:=λ{wz f r} hz ho w3 h3=>by
  have hf:Fr (λb=>X b∨w6.heap.size<=b) w6 w3:=((Fr.pu (ck.trans bU):Fr (λb=>X b∨w6.heap.size<=b) w6 w8)).trans h3 λb hb _=>hb.elim (λhb=>by rcases own b hb with rfl|rfl <;> exact .inr (by omega)) .inl
  have nb:∀k,wz.heap.size<=k->k<w6.heap.size->¬(X k∨w6.heap.size<=k):=λk hk hlt e=>e.elim (λe=>by have:=hX k e;omega) (λe=>by omega)
  refine zJq.rd (w0:=wz) ⟨ho.fs.fr hf λk hk=>nb k (ho.fs.2 k hk) (ho.fs.1.lt k hk),?_⟩ (zX8 hv)
  obtain⟨qs,k1,k2,k3,k4⟩:=ho.rs
  exact⟨qs,k1.fr hf λk hk=>nb k (k2 k hk) (k1.lt k hk),k2,k3,λi r x hr hx=>⟨(k4 i r x hr hx).1,(k4 i r x hr hx).2.fr hf λk hk=>nb k ((k4 i r x hr hx).2.2 k hk) ((k4 i r x hr hx).2.1.lt k hk)⟩⟩
 refine⟨dw,.inr ⟨hv,_,rfl,R,by rw[hR],⟨?_,?_,?_,?_,?_,?_,λb hb=>Nat.lt_of_lt_of_le (hX b hb) dw.size,λw3 h3=>?_⟩,λb hb=>by rcases own b hb with rfl|rfl <;> omega⟩⟩
 ·rw[hR];exact j8
 ·rw[hR];exact⟨rfl,.inr ⟨_,_,rfl,bU.blk jw,Nat.le_refl _,by show 1<=maxLen;unfold maxLen;omega,rfl,rfl⟩⟩
 ·rw[hR];exact zQl.nil _ _ _
 ·rw[hR];rfl
 ·rw[hR];rfl
 ·rw[hR];intro b hb;simp[zQd]
 ·have k1:=kp (by omega) (hO1.pu bn) w3 h3
  have k2:=kp (by omega) hO2 w3 h3
  rw[hR]
  refine⟨⟨rfl,k1⟩,λi x u hx hu=>?_,λi x u hx hu=>by simp at hx⟩
  rcases i with _|i
  ·simp[Sto.new]at hx hu;subst hx hu;exact⟨rfl,k2⟩
  ·simp at hx
theorem yZV (h:zQT X w R σ) (hv:zQg σ.t=0) (hne:σ.done ≠ []) (hn:σ.done.length<=1000000):Calls prog 99 #[R.ptr] w (zJI X w R (.tuple #[]) (zZy σ)):=by
 have hol:=h.op.len zQv (by decide)
 have holn:=h.oln
 refine xXp _ w _ (zQb λw1 aq _=>?_)
 have h1:=h.pu aq
 refine⟨R.op,h1.cell 4,Br.of (λc=>?_) (λc=>?_)⟩
 ·have c:R.op.len=0:=by simpa using c
  have hlev:σ.lev=[]:=List.eq_nil_of_length_eq_zero (by omega)
  obtain⟨x,a,ha,hcl,hpos,hwr,c0,c1,c2,hK⟩:=h1.lastC hne hn
  refine⟨R.t.page,h1.cell 0,R.t.f,h1.cell 1,R.t.r,h1.cell 2,R.cm,h1.cell 3,R.cm,h1.cell 3,a,ha,?_⟩
  rw[hwr,zXf]
  refine⟨by omega,by omega,x.page,c0,x.f,c1,x.r,c2,?_⟩
  rw[hK.1,h1.kp0.t.1]
  refine(zY7 h1.kp0.t.2 hK.2).mono ?_
  rintro e w7 ⟨rfl,ck⟩
  refine⟨_,rfl,Br.of (λc1=>?_) (λc1=>?_)⟩
  ·have c1:σ.t ≠ σ.last:=by simpa using c1
   have eC:zZy σ={ σ with done:=σ.done ++ [σ.t] }:=by unfold zZy;rw[if_pos ⟨hlev,c1⟩]
   refine zQb λw8 bU _=>?_
   have dw:=(aq.trans ck).trans bU
   have h8:=h.pu dw
   refine⟨λu=>Pu w8 u,Pu.refl _,R.cm,λu hu=>(h8.pu hu).cell 3,R.t.page,λu hu=>(h8.pu hu).cell 0,R.t.f,λu hu=>(h8.pu hu).cell 1,R.t.r,λu hu=>(h8.pu hu).cell 2,?_⟩
   rw[h8.kp0.t.1]
   refine(zY9 h8.kp0.t.2 hv).mono ?_
   rintro e aV ⟨f,r,rfl,hO,fg⟩
   refine⟨_,f,r,rfl,fg,alB λaO dL lk=>⟨fg.trans dL,?_⟩⟩
   have wX:=fg.trans dL
   refine(h8.pu wX).pushC (q:=⟨σ.t.page,f,r,[]⟩) (t:=σ.t) rfl ((hO.pu dL).keepR hv (λb hb=>h8.own_lt hb) h8.xl) lk hn λw2 R2 h2 pA=>?_
   rw[eC]
   exact⟨rfl,R2,h2,(zXu.pu (dw.trans wX) R).trans pA⟩
  ·have c1:σ.t=σ.last:=by simpa using c1
   have eC:zZy σ=σ:=by unfold zZy;rw[if_neg (λe=>e.2 c1)]
   rw[eC]
   exact⟨rfl,R,h.pu (aq.trans ck),zXu.pu (aq.trans ck) R⟩
 ·have c:¬R.op.len=0:=by simpa using c
  have eC:zZy σ=σ:=by unfold zZy;rw[if_neg (λe=>by rw[e.1]at holn;simp at holn;rw[holn]at hol;simp at hol;exact c hol)]
  rw[eC]
  exact⟨rfl,R,h1,zXu.pu aq R⟩
theorem xZJ(h:zQT X w R σ)(hv:zQg σ.t=0):Calls prog 59 #[R.ptr] w (zJI X w R (.int .i64 (zKf σ)) (zJc σ)):=by
 have hol:=h.op.len zQv (by decide)
 have holn:=h.oln
 refine xQ2 _ w _ ⟨R.op,h.cell 4,Br.of (λc=>?_) (λc=>?_)⟩
 ·have c:8<=σ.lev.length:=by have:=zQk c;omega
  have e1:zKf σ=3:=by unfold zKf;rw[if_pos c]
  have e2:zJc σ=σ:=by unfold zJc;rw[if_pos c]
  rw[e1,e2]
  exact⟨rfl,R,h,zXu.refl w R⟩
 ·have c:¬8<=σ.lev.length:=by have:=zQe c;omega
  have e1:zKf σ=0:=by unfold zKf;rw[if_neg c]
  have e2:zJc σ={ σ with lev:=σ.lev ++ [σ.t] }:=by unfold zJc;rw[if_neg c]
  rw[e1,e2]
  refine zQb λw3 ax _=>?_
  have h3:=h.pu ax
  refine⟨λu=>Pu w3 u,Pu.refl _,R.op,λu hu=>(h3.pu hu).cell 4,R.t.page,λu hu=>(h3.pu hu).cell 0,R.t.f,λu hu=>(h3.pu hu).cell 1,R.t.r,λu hu=>(h3.pu hu).cell 2,?_⟩
  rw[h3.kp0.t.1]
  refine(zY9 h3.kp0.t.2 hv).mono ?_
  rintro e w6 ⟨f,r,rfl,hO,bn⟩
  refine⟨_,f,r,rfl,bn,alB λw7 ck jw=>⟨bn.trans ck,?_⟩⟩
  have hp37:=bn.trans ck
  refine(h3.pu hp37).pushO (q:=⟨σ.t.page,f,r,[]⟩) (t:=σ.t) rfl ((hO.pu ck).keepR hv (λb hb=>h3.own_lt hb) h3.xl) jw (by omega) λw2 R2 h2 pA=>?_
  exact⟨rfl,R2,h2,(zXu.pu (ax.trans hp37) R).trans pA⟩
theorem zYH (h:zQT X w R σ) (hn:σ.lev.length<=1000000) (hne:σ.lev ≠ []):∃l0 x v0 t a,R.oh=l0 ++ [x]/\σ.lev=v0 ++ [t]/\R.op.a=some a/\0<R.op.len/\R.op.len<=R.op.cap/\IntKind.i64.wrap (((R.op.len:Nat):Int) - 1)=((R.op.len - 1:Nat):Int)/\
  w.cell? ((a.add ((R.op.len - 1) * 3)).add 0)=some (.int .i64 x.page)/\w.cell? ((a.add ((R.op.len - 1) * 3)).add 1)=some (slV x.f)/\w.cell? ((a.add ((R.op.len - 1) * 3)).add 2)=some (slV x.r)/\(∀w2,Fr (λb=>R.own b∨X b) w w2->xYF w2 x t)/\
  (.slice (if R.op.cap=0 then R.op.a else R.op.a.map (λx=>x.add (0 * 3))) (R.op.len - 1 - 0) (R.op.cap - 0):Value)=.slice R.op.a (R.op.len - 1) R.op.cap:=by
 have hol:=h.op.len zQv (by decide)
 have holn:=h.oln
 have hpos:0<σ.lev.length:=List.length_pos_iff.2 hne
 obtain⟨l0,x,hoh⟩:=yX3 (l:=R.oh) (λe=>by rw[e]at holn;simp at holn;omega)
 obtain⟨v0,t,hlev⟩:=yX3 hne
 have sT:R.oh.length=l0.length+1:=by rw[hoh];simp
 have nr:σ.lev.length=v0.length+1:=by rw[hlev];simp
 have hx:R.oh[R.op.len - 1]?=some x:=by rw[hoh,List.getElem?_append_right (by omega),show R.op.len - 1 - l0.length=0 by omega];rfl
 have ht:σ.lev[R.op.len - 1]?=some t:=by rw[hlev,List.getElem?_append_right (by omega),show R.op.len - 1 - v0.length=0 by omega];rfl
 obtain⟨a,ha,hk,c0⟩:=h.op.elem zQv hx (o:=0) rfl
 obtain⟨a',ha',_,c1⟩:=h.op.elem zQv hx (o:=1) rfl
 obtain⟨a'',ha'',_,c2⟩:=h.op.elem zQv hx (o:=2) rfl
 rw[ha]at ha' ha'';cases ha';cases ha''
 have hcap:=h.op.le_cap.1
 refine⟨l0,x,v0,t,a,hoh,hlev,ha,by omega,hcap,by rw[zQa (by omega) (by omega)];omega,c0,c1,c2,λw2 h2=>(h.kp w2 h2).oh _ x t hx ht,?_⟩
 have esl:(if R.op.cap=0 then R.op.a else R.op.a.map (λx=>x.add (0 * 3)))=R.op.a:=by rw[if_neg (by omega),ha];show some (a.add (0 * 3))=_;rw[Nat.zero_mul,yKR]
 rw[esl,Nat.sub_zero,Nat.sub_zero]
theorem rend_c (h:zQT X w R σ) (hv:zQg σ.t=0) (hne:σ.done ≠ []) (hn:σ.done.length<=1000000) (hl:σ.lev.length<=1000000):Calls prog 60 #[R.ptr] w (zJI X w R (.int .i64 (zJl σ)) (xVA σ)):=by
 have hol:=h.op.len zQv (by decide)
 have holn:=h.oln
 refine xXH _ w _ ⟨R.op,h.cell 4,Br.of (λc=>?_) (λc=>?_)⟩
 ·have c:R.op.len=0:=by simpa using c
  have hlev:σ.lev=[]:=List.eq_nil_of_length_eq_zero (by omega)
  have e1:zJl σ=9:=by unfold zJl;rw[if_pos hlev]
  have e2:xVA σ=σ:=by unfold xVA;rw[if_pos hlev]
  rw[e1,e2]
  exact⟨rfl,R,h,zXu.refl w R⟩
 ·have c:¬R.op.len=0:=by simpa using c
  have hlne:σ.lev ≠ []:=λe=>by rw[e]at holn;simp at holn;rw[holn]at hol;simp at hol;exact c hol
  have e1:zJl σ=0:=by unfold zJl;rw[if_neg hlne]
  refine zQb λw3 ax _=>?_
  have h3:=h.pu ax
  obtain⟨l0,x,v0,t,a,hoh,hlev,ha,hpos,hcap,hwr,c0,c1,c2,hK,esl⟩:=zYH h3 hl hlne
  have e2:xVA σ=zZy { σ with lev:=v0 }:=by unfold xVA;rw[if_neg hlne,hlev,List.dropLast_concat]
  refine⟨R.op,h3.cell 4,R.op,h3.cell 4,?_⟩
  rw[hwr,zXf,esl]
  refine⟨by omega,by omega,by omega,?_⟩
  rw[zZq]
  refine h3.popO hoh hlev λw7 R7 h7 hl7 _=>?_
  rw[show(Value.pointer (some ⟨R.S,0,none⟩))=R7.ptr from hl7.toPtr]
  refine(yZV h7 hv hne hn).mono ?_
  rintro e w8 ⟨rfl,R8,h8,tH⟩
  refine⟨rfl,?_⟩
  rw[e1,e2]
  exact⟨rfl,R8,h8,((zXu.pu ax R).trans hl7).trans tH⟩
theorem xYs(h:zQT X w R σ)(hl:σ.lev.length<=1000000):Calls prog 61 #[R.ptr] w (zJI X w R (.int .i64 (zJl σ)) (zVl σ)):=by
 have hol:=h.op.len zQv (by decide)
 have holn:=h.oln
 refine xQT _ w _ ⟨R.op,h.cell 4,Br.of (λc=>?_) (λc=>?_)⟩
 ·have c:R.op.len=0:=by simpa using c
  have hlev:σ.lev=[]:=List.eq_nil_of_length_eq_zero (by omega)
  have e1:zJl σ=9:=by unfold zJl;rw[if_pos hlev]
  have e2:zVl σ=σ:=by unfold zVl;rw[if_pos hlev]
  rw[e1,e2]
  exact⟨rfl,R,h,zXu.refl w R⟩
 ·have c:¬R.op.len=0:=by simpa using c
  have hlne:σ.lev ≠ []:=λe=>by rw[e]at holn;simp at holn;rw[holn]at hol;simp at hol;exact c hol
  have e1:zJl σ=0:=by unfold zJl;rw[if_neg hlne]
  refine zQb λw3 ax _=>?_
  have h3:=h.pu ax
  obtain⟨l0,x,v0,t,a,hoh,hlev,ha,hpos,hcap,hwr,c0,c1,c2,hK,esl⟩:=zYH h3 hl hlne
  have e2:zVl σ={ σ with t:=t,lev:=v0 }:=by unfold zVl;rw[if_neg hlne,hlev,List.dropLast_concat,List.getLast?_concat];rfl
  refine⟨R.op,h3.cell 4,R.op,h3.cell 4,a,ha,?_⟩
  rw[hwr,zXf]
  refine⟨by omega,by omega,x.page,c0,x.f,c1,x.r,c2,?_⟩
  rw[zZq]
  refine h3.setT hK λw8 h8 tH=>zQb λw9 cG _=>?_
  have h9:=h8.pu cG
  refine⟨R.op,h9.cell 4,R.op,h9.cell 4,?_⟩
  rw[hwr,zXf,esl]
  refine⟨by omega,by omega,by omega,?_⟩
  rw[zZq]
  refine h9.popO hoh hlev λw7 R7 h7 hl7 _=>?_
  rw[e1,e2]
  exact⟨rfl,R7,h7,(((zXu.pu ax R).trans tH).trans (zXu.pu cG _)).trans hl7⟩
theorem xJz(h:zQT X w R σ):Calls prog 68 #[R.ptr] w λe w'=>e=.returned (.int .i64 (zVA σ))/\Pu w w':=by
 have hol:=h.op.len zQv (by decide)
 have holn:=h.oln
 refine yYG _ w _ ⟨R.op,h.cell 4,Br.of (λc=>⟨?_,Pu.refl _⟩) (λc=>⟨?_,Pu.refl _⟩)⟩
 ·unfold zVA;rw[if_neg (λe=>by have:=zQk c;rw[e]at holn;simp at holn;rw[holn]at hol;simp at hol;omega)]
 ·unfold zVA;rw[if_pos (List.eq_nil_of_length_eq_zero (by have:=zQe c;omega))]
theorem yXJ(h:zQT X w R σ)(k:Int):Calls prog 101 #[R.ptr,.int .i64 k] w λe w'=>e=.returned (.bool (zXh σ k))/\w'=w:=by
 have hrl:=h.kp0.t.2.recs.len
 refine yKX _ _ w _ (Br.of (λc=>⟨R.t.r,h.cell 2,?_,rfl⟩) (λc=>⟨?_,rfl⟩))
 ·have c:=zQk c
  unfold zXh
  rw[hrl,decide_eq_true (show 1<=k by omega),Bool.true_and]
 ·have c:=zQe c
  unfold zXh
  rw[decide_eq_false (show ¬1<=k by omega),Bool.false_and]
end Go.Proofs.YtaeecpjhfmcliaaGreatDoor
/- The log: the reference puts a record. No condition but those stated. -/
namespace Go.Proofs.YtaeecpjhfmcliaaGreatDoor
open Go.Sh Go.RowKit Tryz
variable {w0 w w' : World} {X : Nat -> Prop} {R R' : RL} {σ σ' : Sto}
def xYD(R:Rt)(p0:Option Addr)(n1:Int)(r5 r6:Nat)(ds:Ds)(w8:World):Prop:=
 dwE w8 λw9=>
 ∃S1:World->Prop,S1 w9/\
 ∃bY:SV,(∀w',S1 w'->w'.cell? ((⟨r6,0,none⟩:Addr).add 2)=some (.slice bY.a bY.len bY.cap))/\
 ∃gQ:Bool,(∀w',S1 w'->w'.cell? ((⟨r5,0,none⟩:Addr).add 0)=some (.bool gQ))/\
 ∃ci:SV,(∀w',S1 w'->w'.cell? ((⟨r5,0,none⟩:Addr).add 1)=some (.slice ci.a ci.len ci.cap))/\
 Calls prog 102 #[.agg #[.bool gQ,.slice ci.a ci.len ci.cap]] w9 λe aN=>
 ∃dD:Bool,∃aP:SV,e=.returned (.agg #[.bool dD,.slice aP.a aP.len aP.cap])/\
 S1 aN/\
 ∃dR:Addr,bY.a=some dR/\0<=(IntKind.i64.wrap (n1 - 1))/\(IntKind.i64.wrap (n1 - 1))<((bY.len:Nat):Int)/\
 stA prog 67 (dR.add ((IntKind.i64.wrap (n1 - 1)).toNat * 2)) #[.bool dD,.slice aP.a aP.len aP.cap] aN λaO=>
 ∃bM:Int,aO.cell? ((⟨r6,0,none⟩:Addr).add 0)=some (.int .i64 bM)/\
 ∃aQ:SV,aO.cell? ((⟨r6,0,none⟩:Addr).add 1)=some (.slice aQ.a aQ.len aQ.cap)/\
 ∃aR:SV,aO.cell? ((⟨r6,0,none⟩:Addr).add 2)=some (.slice aR.a aR.len aR.cap)/\
 zQh p0 λlq=>
 stA prog 35 lq #[.int .i64 bM,.slice aQ.a aQ.len aQ.cap,.slice aR.a aR.len aR.cap] aO λbt=>
 Calls prog 99 #[.pointer p0] bt λe br=>
 e=.returned (.tuple #[])/\
 zQc prog ds br λbI=>
 R (.returned (.tuple #[])) bI
theorem zJI.behind{v:Value}{wa:World}(hl:zXu w wa R R'){e:Ending}{wb:World}(h:zJI X wa R' v σ' e wb):zJI X w R v σ' e wb:=by
 obtain⟨rfl,R2,h2,pA⟩:=h
 exact⟨rfl,R2,h2,hl.trans pA⟩
theorem yZI (h0:zQT X w0 R σ) (hp:Pu w0 w) (hne:σ.done ≠ []) (hn:σ.done.length<=1000000) {l:List Rec} {qf s q:SV} {r5 r6 j:Nat} {x:Rec} (h5:w.heap[r5]?=some (.cells #[.bool x.gone,slV q] 67)) (hr:RdV w q x.v) (hx:x.v.length<=1000000)
  (h6:w.heap[r6]?=some (.cells #[.int .i64 σ.t.page,slV qf,slV s] 35)) (ho:zJq w0 w { σ.t with recs:=l } qf s) (hj:j<l.length) (hl:l.length<=1000000) (hv:zQg { σ.t with recs:=l.set j x }=0) :
  xYD (zJI X w0 R (.tuple #[]) (zXK σ (l.set j x))) (some ⟨R.S,0,none⟩) ((j:Int)+1) r5 r6 [] w:=by
 refine zQb λw9 cG _=>?_
 have b5:=cG.blk h5
 have b6:=cG.blk h6
 have hsl:=ho.rs.len
 have hsl:s.len=l.length:=hsl
 refine⟨λu=>Pu w9 u,Pu.refl _,s,λu hu=>cl (hu.blk b6) 2,x.gone,λu hu=>cl (hu.blk b5) 0,q,λu hu=>cl (hu.blk b5) 1,(zKG (hr.pu cG) hx).mono ?_⟩
 rintro e aN ⟨q',rfl,hq',dM⟩
 have hp010:=(hp.trans cG).trans dM
 have qO:=(ho.pu cG).pu dM
 have b610:=dM.blk b6
 rw[show(j:Int)+1 - 1=(j:Int)by omega,zQa (by omega) (by omega)]
 obtain⟨a,ha,hst⟩:=(show zKj w0 aN s l from qO.rs).set (k:=j) hj (x:=x) (hq'.low (hp.trans cG).size) (K:=λaO=>
   ∃bM:Int,aO.cell? ((⟨r6,0,none⟩:Addr).add 0)=some (.int .i64 bM)/\
   ∃aQ:SV,aO.cell? ((⟨r6,0,none⟩:Addr).add 1)=some (.slice aQ.a aQ.len aQ.cap)/\
   ∃aR:SV,aO.cell? ((⟨r6,0,none⟩:Addr).add 2)=some (.slice aR.a aR.len aR.cap)/\
   zQh (some ⟨R.S,0,none⟩) λlq=>
   stA prog 35 lq #[.int .i64 bM,.slice aQ.a aQ.len aQ.cap,.slice aR.a aR.len aR.cap] aO λbt=>
   Calls prog 99 #[.pointer (some ⟨R.S,0,none⟩)] bt λe br=>e=.returned (.tuple #[])/\zQc prog [] br λbI=>zJI X w0 R (.tuple #[]) (zXK σ (l.set j x)) (.returned (.tuple #[])) bI) λaO hN12 eH=>by
  have nk:∀{b:Nat} {c:Array Value},aN.heap[b]?=some (.cells c 35)->¬b ∈ zQd s:=λhb hk=>by obtain⟨qs,k1,_⟩:=qO.rs;exact k1.other hb (by decide) hk
  have cN:=eH.blk b610 (nk b610)
  have hF12:zKH w0 aO qf σ.t.fields:=(show zKH w0 aN qf σ.t.fields from qO.fs).fr eH λk hk e=>by obtain⟨qs,k1,_⟩:=qO.rs;exact zQn qO.fs.1 k1 (by decide) k hk e
  have ho12:zJq w0 aO { σ.t with recs:=l.set j x } qf s:=⟨hF12,hN12⟩
  have wY:Pu w0 aO:=hp010.andNew eH qO.rs.own
  have nA:=h0.pu wY
  refine⟨_,cl cN 0,qf,cl cN 1,s,cl cN 2,?_⟩
  rw[zZq]
  have hk:=ho12.keepR (R:=R) (X:=X) hv (λb hb=>h0.own_lt hb) h0.xl
  refine nA.setT (q:=⟨σ.t.page,qf,s,[]⟩) (t:={ σ.t with recs:=l.set j x }) (λw2 h2=>⟨rfl,hk w2 h2⟩) λbt h14 hl14=>?_
  refine(yZV h14 hv hne hn).mono ?_
  rintro e br ⟨rfl,R15,sH,hl15⟩
  exact⟨rfl,rfl,R15,sH,((zXu.pu wY R).trans hl14).trans hl15⟩
 exact⟨x.gone,q',rfl,dM,a,ha,by omega,by omega,by rw[zXf];exact hst⟩
def yYf(l:List Rec)(j:Nat)(x:Rec):List Rec:=if j<l.length then l.set j x else l ++ [x]
theorem xJ0{α:Type}(l:List α)(z x:α):(l ++ [z]).set l.length x=l ++ [x]:=by
 induction l with
 | nil=>rfl
 | cons y l ih=>simp[List.set,ih]
theorem yKg (h:zQT X w R σ) (hv:zQg σ.t=0) (hne:σ.done ≠ []) (hn:σ.done.length<=1000000) {s:SV} {x:Rec} (hr:RdV w s x.v) (hl:x.v.length<=1000000) {j:Nat} (hj:j<=σ.t.recs.length) (hv':zQg { σ.t with recs:=yYf σ.t.recs j x }=0) :
  Calls prog 100 #[R.ptr,.int .i64 ((j:Int)+1),.agg #[.bool x.gone,slV s]] w (zJI X w R (.tuple #[]) (zXK σ (yYf σ.t.recs j x))):=by
 have cJ:=(zQN.of hv).n300
 refine yV0 _ _ _ _ w _ (alB λw1 aq aB=>?_)
 have h1:=h.pu aq
 refine⟨R.t.page,h1.cell 0,R.t.f,h1.cell 1,R.t.r,h1.cell 2,?_⟩
 rw[h1.kp0.t.1]
 refine(zY9 h1.kp0.t.2 hv).mono ?_
 rintro e w3 ⟨qf,qr,rfl,hO,ax⟩
 refine⟨_,qf,qr,rfl,alB λw4 aK du=>zQi du zKZ.symm rfl rfl λw5 bq cI _=>?_⟩
 have bQ:Pu w3 w5:=aK.andNew cI λi hi=>by rw[show i=_ from hi];exact Nat.le_refl _
 have fh:=ax.trans bQ
 have cM:=aq.trans fh
 have z1:=aq.size
 have z3:=ax.size
 have hO5:zJq w w5 σ.t qf qr:=(((hO.pu aK).other cI du)).low z1
 have hql:qr.len=σ.t.recs.length:=hO5.rs.len
 have j4:=fh.blk aB
 refine⟨qr,cl bq 2,Br.of (λc=>?_) (λc=>?_)⟩
 ·have c:=zQk c
  have ej:j=σ.t.recs.length:=by omega
  subst ej
  have eP:yYf σ.t.recs σ.t.recs.length x=(σ.t.recs ++ [(⟨false,[]⟩:Rec)]).set σ.t.recs.length x:=by unfold yYf;rw[if_neg (by omega),xJ0]
  rw[eP]at hv' ⊢
  refine⟨qr,cl bq 2,alB λw6 bn fT=>?_⟩
  have yF:=hO5.pu bn
  obtain⟨s',w7,hra,n7,kh⟩:=yF.rs.push (g:=false) (vs:=[]) (q:=(⟨none,0,0⟩:SV)) (cM.trans bn).size (⟨zQl.nil _ 73 3,by simp[zQd]⟩:zKa w w6 ⟨none,0,0⟩ []) fT rfl (by omega)
  have b56:=bn.blk bq
  have nk:∀{b:Nat} {c:Array Value},w6.heap[b]?=some (.cells c 35)->¬b ∈ zQd qr:=λhb hk=>by obtain⟨qs,k1,_⟩:=yF.rs;exact k1.other hb (by decide) hk
  have b57:=kh.blk b56 (nk b56)
  refine⟨s',w7,hra,zQt b57 (by show 2<3;omega) λw8 hw8 j8=>?_⟩
  have oQ:Fr (·=w3.heap.size) w7 w8:=by rw[hw8];exact Fr.cell w7 _ _ _
  have hF7:zKH w w7 qf σ.t.fields:=yF.fs.fr kh λk hk e=>by obtain⟨qs,k1,_⟩:=yF.rs;exact zQn yF.fs.1 k1 (by decide) k hk e
  have hO8:zJq w w8 { σ.t with recs:=σ.t.recs ++ [(⟨false,[]⟩:Rec)] } qf s':=zJq.other (t:={ σ.t with recs:=σ.t.recs ++ [(⟨false,[]⟩:Rec)] }) ⟨hF7,n7⟩ oQ b57
  have dw:Pu w w8:=((cM.trans bn).andNew kh yF.rs.own).andNew oQ λi hi=>by rw[show i=_ from hi];omega
  have lt0:w.heap.size<w1.heap.size:=zQy aB
  have sW:w7.heap[w.heap.size]?=some (.cells #[.bool x.gone,slV s] 67):=kh.blk (bn.blk j4) λhk=>by
   have hown:∀b ∈ zQd qr,w1.heap.size<=b:=hO.rs.own
   have:=hown _ hk;omega
  have pi:=oQ.blk sW (show ¬w.heap.size=w3.heap.size by omega)
  exact yZI h dw hne hn pi (hr.pu dw) hl j8 hO8 (by rw[List.length_append,List.length_singleton];omega) (by rw[List.length_append,List.length_singleton];omega) hv'
 ·have c:=zQe c
  have ej:j<σ.t.recs.length:=by omega
  have eP:yYf σ.t.recs j x=σ.t.recs.set j x:=by unfold yYf;rw[if_pos ej]
  rw[eP]at hv' ⊢
  exact yZI h cM hne hn j4 (hr.pu cM) hl bq hO5 ej (by omega) hv'
end Go.Proofs.YtaeecpjhfmcliaaGreatDoor
/- The log: records are replaced and marked; values are set; the log is made clean. No condition but those stated. -/
namespace Go.Proofs.YtaeecpjhfmcliaaGreatDoor
open Go.Sh Go.RowKit Tryz
variable {w0 w w' : World} {X : Nat -> Prop} {L L' : SL} {d d' : Dat} {mu : Int} {p : Int} {f : List Fld}
theorem zJ9{σ:Sto}{k:Int}(h:zXh σ k=true)(hn:σ.t.recs.length<=300):∃j:Nat,k=(j:Int)+1/\j<σ.t.recs.length/\(k - 1).toNat=j/\IntKind.i64.wrap (k - 1)=(j:Int):=by
 unfold zXh at h
 simp only[Bool.and_eq_true,decide_eq_true_eq]at h
 refine⟨(k - 1).toNat,by omega,by omega,rfl,?_⟩
 rw[zQa (by omega) (by omega)];omega
theorem modW (hi:Inv p f d) {j:Nat} {g:Rec->Rec} (hg:∀y,d.σ.t.recs[j]?=some y->zQ1 f p (g y)=0):InvW p f (d.to { d.σ with t:={ d.σ.t with recs:=d.σ.t.recs.modify j g } }):=
 zJ4 hi (by rw[List.length_modify];exact(zQN.of hi.t.ok).n300) (by rw[List.length_modify];exact Nat.le_refl _) λx hx=>by
  rcases zVp hx with hx|⟨y,hy,rfl⟩
  ·exact hi.recR x hx
  ·exact hg y hy
theorem put_c(h:zQJ X w L d 0)(hi:Inv p f d)(hs:Fit d)(k:Int){s:SV}{r:Rec}(hr:RecK w L s r):Calls prog 38 #[L.ptr,.int .i64 k,.agg #[.bool r.gone,slV s]] w (yXr X w L (.int .i64 (yJb d.σ k r)) (d.put k r)):=by
 have hS:=h.S_lt
 have cJ:=(zQN.of hi.t.ok).n300
 have hrl:=h.now.rlen
 refine xQy _ _ _ _ w _ (alB λw1 aq aB=>(zX0 h aq).mono ?_)
 rintro e w2 ⟨rfl,hI,hf,hsz⟩
 have h2:=hI.at_ h
 have nG:w.heap.size<w1.heap.size:=zQy aB
 have b2:=hf.blk aB (show ¬w.heap.size=L.S by omega)
 have stay:∀{w3:World} (c:Int),yJb d.σ k r=c->c ≠ 0->Pu w2 w3->zQc prog [zZf L] w3 λw4=>yXr X w L (.int .i64 (yJb d.σ k r)) (d.put k r) (.returned (.int .i64 c)) w4:=λ{w3} c hc h0 hp=>by
  have e2:d.put k r=d:=by unfold Dat.put;rw[if_neg (by rw[hc];exact h0)]
  rw[e2,hc]
  exact zXQ (h2.pu hp) (hI.left.trans (zZi.pu hp L))
 refine⟨_,_,rfl,zJB (Br.of (λc=>by cases c) λ_=>(zYK h2 (by omega) k).mono ?_)⟩
 rintro e w4 ⟨rfl,rfl⟩
 refine⟨_,rfl,Br.of (λc=>?_) (λc=>?_)⟩
 ·have c:zXh d.σ k=false:=by simpa using c
  exact stay 4 (by unfold yJb;rw[if_neg (by rw[c];simp)]) (by decide) (Pu.refl _)
 have c:zXh d.σ k=true:=by simpa using c
 have eC:yJb d.σ k r=zQ1 d.σ.t.fields d.σ.t.page r:=by unfold yJb;rw[if_pos c]
 obtain⟨j,hk,hj,hjn,hwj⟩:=zJ9 c cJ
 have jx:zX7 w4 s r.v:=hr w4 (hI.left.fr)
 refine⟨r.gone,cl b2 0,s,cl b2 1,(xJZ h2 hi.t.ok jx).mono ?_⟩
 rintro e w6 ⟨rfl,bn⟩
 refine⟨_,rfl,Br.of (λc1=>stay _ eC (zQ3 c1) bn) (λc1=>?_)⟩
 have c1:zQ1 d.σ.t.fields d.σ.t.page r=0:=zQs c1
 have pw:r.v.length<=1000000:=by have:=zX3 c1;have:=(zJj.of hi.t.ok).n16;omega
 refine zQb λw8 bU _=>?_
 have iv:=bn.trans bU
 have h8:=h2.pu iv
 have b8:=iv.blk b2
 refine⟨λu=>Pu w8 u,Pu.refl _,L.now.r,λu hu=>(h8.pu hu).cellB 2 2,r.gone,λu hu=>cl0 (hu.blk b8),s,λu hu=>cl (hu.blk b8) 1,(yXD (RdV.of (jx.pu iv)) pw).mono ?_⟩
 rintro e aN ⟨q,rfl,hq,hqn,dM⟩
 have oT:=h8.pu dM
 have hnl:∀b,(b ∈ zQd L.now.r∨b ∈ vBl L.now.hs)->b<w8.heap.size:=λb hb=>h8.own_lt (xX5 hb)
 have eA:d.put k r=d.recs (d.σ.t.recs.set j r):=by unfold Dat.put;rw[if_pos (by rw[eC];exact c1),hjn]
 refine⟨q,rfl,dM,?_⟩
 rw[hwj]
 obtain⟨a,ha,hst⟩:=oT.now.set hj (x:=r) hq (λb hb hc=>by have:=hqn b hb;have:=hnl b (.inr hc);omega) (K:=λaO=>Calls prog 79 #[L.ptr] aO λe aI=>e=.returned (.tuple #[])/\zQc prog [zZf L] aI λbt=>yXr X w L (.int .i64 (yJb d.σ k r)) (d.put k r) (.returned (.int .i64 0)) bt) λaO py eH=>by
  have kM:=eH.blk oT.st (oT.now.rw_.other oT.st (by decide))
  obtain⟨nA,sI⟩:=h8.reNow dM eH (λb hb=>.inr (.inl hb)) (q:={ L.now with hs:=L.now.hs.set j (r.gone,q) }) (t:={ d.σ.t with recs:=d.σ.t.recs.set j r }) kM py (λb hb=>by
   rcases hb with hb|hb
   ·exact .inl (.inl hb)
   ·rcases xYO (by rw[oT.now.len];exact hj) b hb with hb|hb
    ·exact .inl (.inr hb)
    ·exact .inr (hqn b hb)) rfl rfl
  have hLall:=(hI.left.trans (zZi.pu iv L)).trans sI
  have hW:=zJ4 (l:=d.σ.t.recs.set j r) hi (by rw[List.length_set];omega) (by rw[List.length_set];exact Nat.le_refl _) λx hx=>by
   rcases List.mem_or_eq_of_mem_set hx with hx|rfl
   ·exact hi.recR x hx
   ·rw[←hi.t.fields,←hi.t.page];exact c1
  refine(yXI nA hLall hW ⟨hs.l1,hs.l2,hs.wn,hs.dn⟩).mono ?_
  rintro e br ⟨rfl,L2,sH,j9⟩
  refine⟨rfl,?_⟩
  rw[eA,eC,c1]
  exact zZe sH j9 j9.ptr.symm
 exact⟨a,ha,by omega,by omega,by rw[zXf];exact hst⟩
theorem mark_c(h:zQJ X w L d 0)(hi:Inv p f d)(hs:Fit d)(k:Int)(g:Bool):Calls prog 39 #[L.ptr,.int .i64 k,.bool g] w (yXr X w L (.int .i64 (zYE d.σ k)) (d.mark k g)):=by
 have hS:=h.S_lt
 have cJ:=(zQN.of hi.t.ok).n300
 have hrl:=h.now.rlen
 refine yYl _ _ _ w _ ((zX0 h (Pu.refl w)).mono ?_)
 rintro e w2 ⟨rfl,hI,hf,hsz⟩
 have h2:=hI.at_ h
 refine⟨_,_,rfl,zJB (Br.of (λc=>by cases c) λ_=>(zYK h2 (by omega) k).mono ?_)⟩
 rintro e w4 ⟨rfl,rfl⟩
 refine⟨_,rfl,Br.of (λc=>?_) (λc=>?_)⟩
 ·have c:zXh d.σ k=false:=by simpa using c
  have e1:zYE d.σ k=4:=by unfold zYE;rw[if_neg (by rw[c];simp)]
  have e2:d.mark k g=d:=by unfold Dat.mark;rw[if_neg (by rw[c];simp)]
  rw[e1,e2]
  exact zXQ h2 hI.left
 have c:zXh d.σ k=true:=by simpa using c
 obtain⟨j,hk,hj,hjn,hwj⟩:=zJ9 c cJ
 have e1:zYE d.σ k=0:=by unfold zYE;rw[if_pos c]
 have e2:d.mark k g=d.recs (d.σ.t.recs.modify j λr=>{ r with gone:=g }):=by unfold Dat.mark;rw[if_pos c,hjn]
 refine⟨L.now.r,h2.cellB 2 2,?_⟩
 rw[hwj]
 obtain⟨a,ha,hst⟩:=h2.now.mark hj g (K:=λaO=>Calls prog 79 #[L.ptr] aO λe aI=>e=.returned (.tuple #[])/\zQc prog [zZf L] aI λbt=>yXr X w L (.int .i64 (zYE d.σ k)) (d.mark k g) (.returned (.int .i64 0)) bt) λaO hs' py hv12 eH=>by
  have kM:=eH.blk h2.st (h2.now.rw_.other h2.st (by decide))
  obtain⟨nA,sI⟩:=h2.reNow (Pu.refl _) eH (λb hb=>.inr (.inl hb)) (q:={ L.now with hs:=hs' }) (t:={ d.σ.t with recs:=d.σ.t.recs.modify j λr=>{ r with gone:=g } }) kM py (λb hb=>.inl (hb.imp id λhb=>by rw[←hv12];exact hb)) rfl rfl
  have hW:=modW hi (j:=j) (g:=λr=>{ r with gone:=g }) λy hy=>hi.recR y (List.mem_of_getElem? hy)
  refine(yXI nA (hI.left.trans sI) hW ⟨hs.l1,hs.l2,hs.wn,hs.dn⟩).mono ?_
  rintro e br ⟨rfl,L2,sH,j9⟩
  refine⟨rfl,?_⟩
  rw[e1,e2]
  exact zZe sH j9 j9.ptr.symm
 exact⟨a,ha,by omega,by omega,by rw[zXf];exact hst⟩
theorem xY8(h:zQJ X w L d 0)(hi:Inv p f d)(hs:Fit d)(k:Int)(nm:ByteArray)(v:Val):Calls prog 40 #[L.ptr,.int .i64 k,.string nm,.agg #[.int .i64 v.kind,.int .i64 v.n,.string v.s]] w (yXr X w L (.int .i64 (yXQ d.σ k nm v)) (d.set k nm v)):=by
 have hS:=h.S_lt
 have cJ:=(zQN.of hi.t.ok).n300
 have hrl:=h.now.rlen
 refine xQ3 _ _ _ _ _ _ w _ (alB λw1 aq aB=>(zX0 h aq).mono ?_)
 rintro e w2 ⟨rfl,hI,hf,hsz⟩
 have h2:=hI.at_ h
 have nG:w.heap.size<w1.heap.size:=zQy aB
 have b2:=hf.blk aB (show ¬w.heap.size=L.S by omega)
 refine⟨_,_,rfl,zJB (Br.of (λc=>by cases c) λ_=>⟨L.now.f,h2.cellB 2 1,(xYx h2.kp0.nf nm).mono ?_⟩)⟩
 rintro e w5 ⟨rfl,aT⟩
 have h5:=h2.pu aT
 have stay:∀{w3:World} (c:Int),Ins w w3 L->yXQ d.σ k nm v=c->d.set k nm v=d->zQc prog [zZf L] w3 λw4=>yXr X w L (.int .i64 (yXQ d.σ k nm v)) (d.set k nm v) (.returned (.int .i64 c)) w4:=λ{w3} c hi3 hc hd=>by
  rw[hd,hc]
  exact zXQ (hi3.at_ h) hi3.left
 refine⟨_,_,rfl,Br.of (λc=>?_) (λc=>?_)⟩
 ·have c:yQr d.σ.t.fields nm=none:=by simpa using c
  exact stay 4 (hI.pu aT) (by unfold yXQ;rw[c]) (by unfold Dat.set;rw[c])
 have c:(yQr d.σ.t.fields nm).isSome=true:=by simpa using c
 obtain⟨i,hidx⟩:=Option.isSome_iff_exists.1 c
 have hil:=xQK hidx
 have eK:xZy d.σ.t.fields nm=(i:Int):=by unfold xZy;rw[hidx];rfl
 have eC:yXQ d.σ k nm v=if zXh d.σ k then(zZS (d.σ.t.fields.getD i default) d.σ.t.page v).2 else 4:=by unfold yXQ;rw[hidx]
 have eS:d.set k nm v=if zXh d.σ k/\(zZS (d.σ.t.fields.getD i default) d.σ.t.page v).2=0 then d.recs (d.σ.t.recs.modify (k - 1).toNat λr=>{ r with v:=r.v.set i (zZS (d.σ.t.fields.getD i default) d.σ.t.page v).1 })else d:=by unfold Dat.set;rw[hidx]
 refine(zYK h5 (by omega) k).mono ?_
 rintro e w7 ⟨rfl,rfl⟩
 refine⟨_,rfl,Br.of (λc1=>?_) (λc1=>zQb λw9 cG _=>?_)⟩
 ·have c1:zXh d.σ k=false:=by simpa using c1
  exact stay 4 (hI.pu aT) (by rw[eC,if_neg (by rw[c1];simp)]) (by rw[eS,if_neg (by rw[c1];simp)])
 have c1:zXh d.σ k=true:=by simpa using c1
 obtain⟨j,hk,hj,hjn,hwj⟩:=zJ9 c1 cJ
 have qL:=aT.trans cG
 have h9:=h2.pu qL
 have b9:=qL.blk b2
 obtain⟨fl,hfl⟩:=zQL hil
 have efl:d.σ.t.fields.getD i default=fl:=by rw[List.getD_eq_getElem?_getD,hfl];rfl
 rw[efl]at eC eS
 obtain⟨a,ha,hia,_,_,_,f0,f1,f2,f3⟩:=zJk h9.kp0.nf hfl
 rw[eK]
 have fB:=List.all_eq_true.1 (zJj.of hi.t.ok).all fl (List.mem_of_getElem? hfl)
 refine⟨L.now.f,h9.cellB 2 1,a,ha,by omega,by omega,_,by rw[zXf];exact f0,_,by rw[zXf];exact f1,_,by rw[zXf];exact f2,_,by rw[zXf];exact f3,d.σ.t.page,by rw[h9.cellA 2,←h9.now.page];rfl,_,cl b9 0,_,cl b9 1,_,cl b9 2,(fit_c fl d.σ.t.page v (by have:=(zXc fB).2.1;omega) w9).mono ?_⟩
 rintro e aI ⟨rfl,bl⟩
 refine⟨_,_,_,_,rfl,zQi (bl.blk b9) xYj.symm rfl rfl λbt iH oR _=>?_⟩
 have hI14:Ins w bt L:=((hI.pu qL).pu bl).box oR hS (Nat.le_refl _)
 refine Br.of (λc2=>?_) (λc2=>zQb λbI dN _=>?_)
 ·have c2:(zZS fl d.σ.t.page v).2 ≠ 0:=zQ3 c2
  exact stay _ hI14 (by rw[eC,if_pos c1]) (by rw[eS,if_neg (λe=>c2 e.2)])
 have c2:(zZS fl d.σ.t.page v).2=0:=zQs c2
 have hI16:=hI14.pu dN
 have i8:=hI16.at_ h
 have kb:=dN.blk iH
 obtain⟨y,hy⟩:=zQL (l:=L.now.hs) (k:=j) (by rw[h.now.len];exact hj)
 obtain⟨r,hrj⟩:=zQL hj
 have hvl:r.v.length=d.σ.t.fields.length:=zX3 ((zQN.of hi.t.ok).recs r (List.mem_of_getElem? hrj))
 obtain⟨e1,hV⟩:=i8.now.rec_ j y r hy hrj
 have hyl:=hV.len zXB (by decide)
 obtain⟨aa,haa,_,g1⟩:=i8.now.rw_.elem zQS hy (o:=1) rfl
 rw[hwj,zXf]
 refine⟨L.now.r,i8.cellB 2 2,aa,haa,by omega,by omega,y.2,g1,_,cl kb 0,_,cl kb 1,_,cl kb 2,?_⟩
 have eA:d.set k nm v=d.recs (d.σ.t.recs.modify j λr=>{ r with v:=r.v.set i (zZS fl d.σ.t.page v).1 }):=by rw[eS,if_pos ⟨c1,c2⟩,hjn]
 have eC2:yXQ d.σ k nm v=0:=by rw[eC,if_pos c1];exact c2
 obtain⟨av,hav,hst⟩:=i8.now.setV hrj (i:=i) (by omega) (zZS fl d.σ.t.page v).1 hy (K:=λaO=>Calls prog 79 #[L.ptr] aO λe aI=>e=.returned (.tuple #[])/\zQc prog [zZf L] aI λbt=>yXr X w L (.int .i64 (yXQ d.σ k nm v)) (d.set k nm v) (.returned (.int .i64 0)) bt) λaO py eH=>by
  have kM:=eH.blk i8.st (hV.other i8.st (by decide))
  obtain⟨nA,sI⟩:=i8.reNow (Pu.refl _) eH (λb hb=>.inr (.inr (zV5 (List.mem_of_getElem? hy) hb))) (q:=L.now) (t:={ d.σ.t with recs:=d.σ.t.recs.modify j λr=>{ r with v:=r.v.set i (zZS fl d.σ.t.page v).1 } }) kM py (λb hb=>.inl hb) rfl rfl
  have hW:=modW hi (j:=j) (g:=λr=>{ r with v:=r.v.set i (zZS fl d.σ.t.page v).1 }) λy hy=>zYp (hi.recR y (List.mem_of_getElem? hy)) λg hg=>by
   have:g=fl:=by rw[←hi.t.fields,hfl]at hg;exact(Option.some.inj hg).symm
   rw[this,←hi.t.page]
   exact yXu c2
  refine(yXI nA (hI16.left.trans sI) hW ⟨hs.l1,hs.l2,hs.wn,hs.dn⟩).mono ?_
  rintro e br ⟨rfl,L2,sH,j9⟩
  refine⟨rfl,?_⟩
  rw[eA,eC2]
  exact zZe sH j9 j9.ptr.symm
 exact⟨av,hav,by omega,by omega,by rw[zXf];exact hst⟩
end Go.Proofs.YtaeecpjhfmcliaaGreatDoor
/- The log: the reference puts records behind, replaces and marks them; sets values; tells what differs. No condition but those stated. -/
namespace Go.Proofs.YtaeecpjhfmcliaaGreatDoor
open Go.Sh Go.RowKit Tryz
variable {w0 w w' : World} {X : Nat -> Prop} {R R' : RL} {p : Int} {f : List Fld} {d : Dat}
def xYQ(R:Rt)(p0:Option Addr)(n1 dJ cF:Int)(co:Nat)(ds:Ds)(cj:World):Prop:=
 Br (cF != 0) (
 zQc prog ds cj λcr=>
 R (.returned (.int .i64 cF)) cr) (
 zQh p0 λo2=>
 ∃kC:SV,cj.cell? (o2.add 2)=some (.slice kC.a kC.len kC.cap)/\
 ∃ph:Addr,kC.a=some ph/\0<=(IntKind.i64.wrap (n1 - 1))/\(IntKind.i64.wrap (n1 - 1))<((kC.len:Nat):Int)/\
 ∃j0:Bool,cj.cell? ((ph.add ((IntKind.i64.wrap (n1 - 1)).toNat * 2)).add 0)=some (.bool j0)/\
 ∃de:SV,cj.cell? ((ph.add ((IntKind.i64.wrap (n1 - 1)).toNat * 2)).add 1)=some (.slice de.a de.len de.cap)/\
 Calls prog 102 #[.agg #[.bool j0,.slice de.a de.len de.cap]] cj λe dx=>
 ∃j1:Bool,∃bD:SV,e=.returned (.agg #[.bool j1,.slice bD.a bD.len bD.cap])/\
 alE (.cells #[.bool false,.slice none 0 0] 67) dx λkT gj=>
 stA prog 67 (⟨kT,0,none⟩:Addr) #[.bool j1,.slice bD.a bD.len bD.cap] gj λfm=>
 xJr R p0 n1 dJ (some (⟨co,0,none⟩:Addr)) (some (⟨kT,0,none⟩:Addr)) ds fm)
theorem yQI {α:Type} {l:List α} {j:Nat} {y:α} (hj:l[j]?=some y) (g:α->α):l.modify j g=l.set j (g y):=by
 have hlt:=(List.getElem?_eq_some_iff.1 hj).1
 apply List.ext_getElem?
 intro i
 rw[List.getElem?_modify,List.getElem?_set]
 by_cases e:j=i
 ·subst e
  rw[if_pos rfl,if_pos hlt,hj];simp
 ·rw[if_neg e];simp[e]
theorem zYF{l:List Rec}{j:Nat}(h:j<l.length)(x:Rec):yYf l j x=l.set j x:=by unfold yYf;rw[if_pos h]
theorem yKE(l:List Rec)(x:Rec):yYf l l.length x=l ++ [x]:=by unfold yYf;rw[if_neg (by omega)]
theorem yYx(hi:Inv p f d){r:Rec}(hr:zQ1 d.σ.t.fields d.σ.t.page r=0)(hn:d.σ.t.recs.length<300):zQg { d.σ.t with recs:=yYf d.σ.t.recs d.σ.t.recs.length r }=0:=by
 rw[yKE]
 exact(zJ4 (l:=d.σ.t.recs ++ [r]) hi (by rw[List.length_append,List.length_singleton];omega) (by rw[List.length_append];omega) λx hx=>by
  rcases List.mem_append.1 hx with hx|hx
  ·exact hi.recR x hx
  ·rw[List.mem_singleton.1 hx,←hi.t.fields,←hi.t.page];exact hr).t.ok
theorem zYM(hi:Inv p f d){r:Rec}{j:Nat}(hj:j<d.σ.t.recs.length)(hr:zQ1 d.σ.t.fields d.σ.t.page r=0):zQg { d.σ.t with recs:=yYf d.σ.t.recs j r }=0:=by
 rw[zYF hj]
 exact(zJ4 (l:=d.σ.t.recs.set j r) hi (by rw[List.length_set];exact(zQN.of hi.t.ok).n300) (by rw[List.length_set];exact Nat.le_refl _) λx hx=>by
  rcases List.mem_or_eq_of_mem_set hx with hx|rfl
  ·exact hi.recR x hx
  ·rw[←hi.t.fields,←hi.t.page];exact hr).t.ok
theorem rapp_c(h:zQT X w R d.σ)(hi:Inv p f d)(hn:d.σ.done.length<=1000000){s:SV}{r:Rec}(hr:zX7 w s r.v):Calls prog 63 #[R.ptr,.agg #[.bool r.gone,slV s]] w (zJI X w R (.tuple #[.int .i64 (yYe d.σ r),.int .i64 (yJa d.σ r)]) (xW7 d.σ r)):=by
 have cJ:=(zQN.of hi.t.ok).n300
 have hrl:=h.kp0.t.2.recs.len
 refine xQw _ _ _ w _ (alB λw1 aq aB=>?_)
 have h1:=h.pu aq
 have stay:∀{w3:World} (c:Int),yJa d.σ r=c->c ≠ 0->Pu w w3->zJI X w R (.tuple #[.int .i64 (yYe d.σ r),.int .i64 (yJa d.σ r)]) (xW7 d.σ r) (.returned (.tuple #[.int .i64 0,.int .i64 c])) w3:=λ{w3} c hc h0 hp=>by
  have e1:yYe d.σ r=0:=by unfold yYe;rw[if_neg (by rw[hc];exact h0)]
  have e2:xW7 d.σ r=d.σ:=by unfold xW7;rw[if_neg (by rw[hc];exact h0)]
  rw[e1,e2,hc]
  exact⟨rfl,R,h.pu hp,zXu.pu hp R⟩
 refine⟨R.t.r,h1.cell 2,?_⟩
 rw[zQa (by omega) (by omega)]
 refine Br.of (λc=>stay 3 (by unfold yJa;rw[if_pos (by have:=zQk c;omega)]) (by decide) aq) (λc=>zQb λw4 aK _=>?_)
 have c:¬300<=d.σ.t.recs.length:=by have:=zQe c;omega
 have eC:yJa d.σ r=zQ1 d.σ.t.fields d.σ.t.page r:=by unfold yJa;rw[if_neg c]
 have cq:=aq.trans aK
 have h4:=h.pu cq
 have b4:=aK.blk aB
 refine⟨R.t.f,h4.cell 1,R.t.page,h4.cell0,r.gone,cl b4 0,s,cl b4 1,?_⟩
 rw[h4.kp0.t.1]
 refine(zWz d.σ.t.page h4.kp0.t.2.fields (hr.pu cq)).mono ?_
 rintro e w7 ⟨rfl,ck⟩
 have fU:=cq.trans ck
 have b7:=ck.blk b4
 refine⟨_,rfl,Br.of (λc1=>stay _ eC (zQ3 c1) fU) (λc1=>⟨r.gone,cl b7 0,s,cl b7 1,?_⟩)⟩
 have c1:zQ1 d.σ.t.fields d.σ.t.page r=0:=zQs c1
 have pw:r.v.length<=1000000:=by have:=zX3 c1;have:=(zJj.of hi.t.ok).n16;omega
 have e0:((R.t.r.len:Nat):Int)+1=(d.σ.t.recs.length:Int)+1:=by omega
 rw[e0]
 refine(yKg (h.pu fU) hi.t.ok hi.ne hn (RdV.of (hr.pu fU)) pw (Nat.le_refl _) (yYx hi c1 (by omega))).mono ?_
 rintro e w9 ⟨rfl,R9,h9,xY⟩
 have e1:yYe d.σ r=(d.σ.t.recs.length:Int)+1:=by unfold yYe;rw[if_pos (by rw[eC];exact c1)]
 have e2:xW7 d.σ r=zXK d.σ (d.σ.t.recs ++ [r]):=by unfold xW7;rw[if_pos (by rw[eC];exact c1)]
 rw[yKE]at h9
 refine⟨rfl,?_⟩
 rw[e1,e2,eC,c1]
 exact⟨rfl,R9,h9,(zXu.pu fU R).trans xY⟩
theorem xY7(h:zQT X w R d.σ)(hi:Inv p f d)(hn:d.σ.done.length<=1000000)(k:Int){s:SV}{r:Rec}(hr:zX7 w s r.v):Calls prog 64 #[R.ptr,.int .i64 k,.agg #[.bool r.gone,slV s]] w (zJI X w R (.int .i64 (yJb d.σ k r)) (xKC d.σ k r)):=by
 have cJ:=(zQN.of hi.t.ok).n300
 refine xXN _ _ _ _ w _ (alB λw1 aq aB=>?_)
 have stay:∀{w3:World} (c:Int),yJb d.σ k r=c->c ≠ 0->Pu w w3->zJI X w R (.int .i64 (yJb d.σ k r)) (xKC d.σ k r) (.returned (.int .i64 c)) w3:=λ{w3} c hc h0 hp=>by
  have e2:xKC d.σ k r=d.σ:=by unfold xKC;rw[if_neg (by rw[hc];exact h0)]
  rw[e2,hc]
  exact⟨rfl,R,h.pu hp,zXu.pu hp R⟩
 refine(yXJ (h.pu aq) k).mono ?_
 rintro e w2 ⟨rfl,rfl⟩
 refine⟨_,rfl,Br.of (λc=>?_) (λc=>zQb λw4 aK _=>?_)⟩
 ·have c:zXh d.σ k=false:=by simpa using c
  exact stay 4 (by unfold yJb;rw[if_neg (by rw[c];simp)]) (by decide) aq
 have c:zXh d.σ k=true:=by simpa using c
 have eC:yJb d.σ k r=zQ1 d.σ.t.fields d.σ.t.page r:=by unfold yJb;rw[if_pos c]
 obtain⟨j,hk,hj,hjn,hwj⟩:=zJ9 c cJ
 have cq:=aq.trans aK
 have h4:=h.pu cq
 have b4:=aK.blk aB
 refine⟨R.t.f,h4.cell 1,R.t.page,h4.cell0,r.gone,cl b4 0,s,cl b4 1,?_⟩
 rw[h4.kp0.t.1]
 refine(zWz d.σ.t.page h4.kp0.t.2.fields (hr.pu cq)).mono ?_
 rintro e w7 ⟨rfl,ck⟩
 have fU:=cq.trans ck
 have b7:=ck.blk b4
 refine⟨_,rfl,Br.of (λc1=>stay _ eC (zQ3 c1) fU) (λc1=>⟨r.gone,cl b7 0,s,cl b7 1,?_⟩)⟩
 have c1:zQ1 d.σ.t.fields d.σ.t.page r=0:=zQs c1
 have pw:r.v.length<=1000000:=by have:=zX3 c1;have:=(zJj.of hi.t.ok).n16;omega
 have eS:xKC d.σ k r=zXK d.σ (d.σ.t.recs.set j r):=by unfold xKC;rw[if_pos (by rw[eC];exact c1),hjn]
 rw[eS,eC,c1,hk]
 refine(yKg (h.pu fU) hi.t.ok hi.ne hn (RdV.of (hr.pu fU)) pw (Nat.le_of_lt hj) (zYM hi hj c1)).mono ?_
 rintro e w9 ⟨rfl,R9,h9,xY⟩
 rw[zYF hj]at h9
 exact⟨rfl,rfl,R9,h9,(zXu.pu fU R).trans xY⟩
theorem xYG(h:zQT X w R d.σ)(hi:Inv p f d)(hn:d.σ.done.length<=1000000)(k:Int)(g:Bool):Calls prog 65 #[R.ptr,.int .i64 k,.bool g] w (zJI X w R (.int .i64 (zYE d.σ k)) (yJJ d.σ k g)):=by
 have cJ:=(zQN.of hi.t.ok).n300
 have hrl:=h.kp0.t.2.recs.len
 refine xZc _ _ _ w _ ((yXJ h k).mono ?_)
 rintro e w1 ⟨rfl,rfl⟩
 refine⟨_,rfl,Br.of (λc=>?_) (λc=>?_)⟩
 ·have c:zXh d.σ k=false:=by simpa using c
  have e1:zYE d.σ k=4:=by unfold zYE;rw[if_neg (by rw[c];simp)]
  have e2:yJJ d.σ k g=d.σ:=by unfold yJJ;rw[if_neg (by rw[c];simp)]
  rw[e1,e2]
  exact⟨rfl,R,h,zXu.refl _ R⟩
 have c:zXh d.σ k=true:=by simpa using c
 obtain⟨j,hk,hj,hjn,hwj⟩:=zJ9 c cJ
 obtain⟨y,hy⟩:=zQL hj
 have e1:zYE d.σ k=0:=by unfold zYE;rw[if_pos c]
 have e2:yJJ d.σ k g=zXK d.σ (d.σ.t.recs.set j { y with gone:=g }):=by unfold yJJ;rw[if_pos c,hjn,yQI hy]
 obtain⟨a,q,ha,hjl,hV,c0,c1⟩:=zWo h.kp0.t.2.recs hy
 rw[hwj,zXf,e1,e2]
 have hyR:=hi.recR y (List.mem_of_getElem? hy)
 have pz:=zZr hi.t.ok y (List.mem_of_getElem? hy)
 refine⟨R.t.r,h.cell 2,a,ha,by omega,by omega,y.gone,c0,q,c1,(zKG (RdV.of hV) pz.2).mono ?_⟩
 rintro e w5 ⟨q',rfl,hq',aT⟩
 refine⟨_,q',rfl,alB λw6 bn fT=>zQi fT yWG.symm rfl rfl λw7 jw kh _=>?_⟩
 have lm:Pu w5 w7:=bn.andNew kh λi hi=>by rw[show i=_ from hi];exact Nat.le_refl _
 have z5:=aT.size
 refine zQt jw (by show 0<2;omega) λw8 hw8 j8=>?_
 have oQ:Fr (·=w5.heap.size) w7 w8:=by rw[hw8];exact Fr.cell w7 _ _ _
 have dw:Pu w1 w8:=(aT.trans lm).andNew oQ λi hi=>by rw[show i=_ from hi];exact z5
 have sJ:Pu w5 w8:=lm.andNew oQ λi hi=>by rw[show i=_ from hi];exact Nat.le_refl _
 have hq8:zX7 w8 q' y.v:=(hq'.pu sJ).rdS pz.2 pz.1
 have hR2:zQ1 d.σ.t.fields d.σ.t.page { y with gone:=g }=0:=by rw[hi.t.fields,hi.t.page];exact hyR
 refine⟨g,cl j8 0,q',cl j8 1,?_⟩
 rw[hk]
 refine(yKg (x:={ y with gone:=g }) (h.pu dw) hi.t.ok hi.ne hn (RdV.of hq8) pz.2 (Nat.le_of_lt hj) (zYM hi hj hR2)).mono ?_
 rintro e w9 ⟨rfl,R9,h9,xY⟩
 rw[zYF hj]at h9
 exact⟨rfl,rfl,R9,h9,(zXu.pu dw R).trans xY⟩
end Go.Proofs.YtaeecpjhfmcliaaGreatDoor
/- The log: the reference sets values, and tells what differs. No condition but those stated. -/
namespace Go.Proofs.YtaeecpjhfmcliaaGreatDoor
open Go.Sh Go.RowKit Tryz
variable {w0 w w' : World} {X : Nat -> Prop} {R R' : RL} {p : Int} {f : List Fld} {d : Dat}
theorem yZf (h:zQT X w0 R d.σ) (hi:Inv p f d) (hn:d.σ.done.length<=1000000) (hp:Pu w0 w) {k:Int} {nm:ByteArray} {v:Val} {i:Nat} {fl:Fld} {co:Nat} (hidx:yQr d.σ.t.fields nm=some i) (hfl:d.σ.t.fields[i]?=some fl) (c:zXh d.σ k=true)
  (hb:w.heap[co]?=some (.cells #[.int .i64 (zZS fl d.σ.t.page v).1.kind,.int .i64 (zZS fl d.σ.t.page v).1.n,.string (zZS fl d.σ.t.page v).1.s] 73)) :
  xYQ (zJI X w0 R (.int .i64 (yXQ d.σ k nm v)) (yVI d.σ k nm v)) (some ⟨R.S,0,none⟩) k (i:Int) (zZS fl d.σ.t.page v).2 co [] w:=by
 have cJ:=(zQN.of hi.t.ok).n300
 have efl:d.σ.t.fields.getD i default=fl:=by rw[List.getD_eq_getElem?_getD,hfl];rfl
 have eC:yXQ d.σ k nm v=(zZS fl d.σ.t.page v).2:=by unfold yXQ;rw[hidx];dsimp only;rw[if_pos c,efl]
 have eS:yVI d.σ k nm v=if zXh d.σ k/\(zZS fl d.σ.t.page v).2=0 then zXK d.σ (d.σ.t.recs.modify (k - 1).toNat λr=>{ r with v:=r.v.set i (zZS fl d.σ.t.page v).1 })else d.σ:=by unfold yVI;rw[hidx];dsimp only;rw[efl]
 obtain⟨j,hk,hj,hjn,hwj⟩:=zJ9 c cJ
 obtain⟨y,hy⟩:=zQL hj
 have hw:=h.pu hp
 refine Br.of (λc2=>?_) (λc2=>?_)
 ·have c2:=zQ3 c2
  rw[eC,eS,if_neg (λe=>c2 e.2)]
  exact⟨rfl,R,hw,zXu.pu hp R⟩
 have c2:=zQs c2
 have hrl:=hw.kp0.t.2.recs.len
 obtain⟨nv,hnv⟩:∃nv,nv=(zZS fl d.σ.t.page v).1:=⟨_,rfl⟩
 rw[eC,eS,if_pos ⟨c,c2⟩,c2,hjn,yQI hy]
 rw[←hnv]at hb ⊢
 obtain⟨a,q,ha,hjl,hV,c0,c1⟩:=zWo hw.kp0.t.2.recs hy
 have hyR:=hi.recR y (List.mem_of_getElem? hy)
 have pz:=zZr hi.t.ok y (List.mem_of_getElem? hy)
 have hvl:y.v.length=d.σ.t.fields.length:=zX3 ((zQN.of hi.t.ok).recs y (List.mem_of_getElem? hy))
 have hil:=(List.getElem?_eq_some_iff.1 hfl).1
 rw[hwj,zXf]
 refine⟨R.t.r,hw.cell 2,a,ha,by omega,by omega,y.gone,c0,q,c1,(zKG (RdV.of hV) pz.2).mono ?_⟩
 rintro e w5 ⟨q',rfl,hq',aT⟩
 refine⟨_,q',rfl,alB λw6 bn fT=>zQi fT yWG.symm rfl rfl λw7 jw kh _=>?_⟩
 have lm:Pu w5 w7:=bn.andNew kh λi hi=>by rw[show i=_ from hi];exact Nat.le_refl _
 have hpw7:=aT.trans lm
 have hq7:=hq'.pu lm
 have b7:=hpw7.blk hb
 have hql:q'.len=y.v.length:=hq'.len
 have hR2:zQ1 d.σ.t.fields d.σ.t.page { y with v:=y.v.set i nv }=0:=by
  rw[hi.t.fields,hi.t.page]
  refine zYp hyR λg hg=>?_
  have:g=fl:=by rw[←hi.t.fields,hfl]at hg;exact(Option.some.inj hg).symm
  rw[this,hnv,←hi.t.page]
  exact yXu c2
 have hv':=zYM hi hj hR2
 refine⟨q',cl jw 1,_,cl b7 0,_,cl b7 1,_,cl b7 2,?_⟩
 obtain⟨av,hav,hst⟩:=hq7.1.stElem (P:=prog) (t:=73) zXB (by decide) (i:=i) (by omega) nv xYj.symm rfl (K:=λw4=>zQh (some (⟨w5.heap.size,0,none⟩:Addr)) λa5=>
   ∃oH:Bool,w4.cell? (a5.add 0)=some (.bool oH)/\
   ∃fS:SV,w4.cell? (a5.add 1)=some (.slice fS.a fS.len fS.cap)/\
   Calls prog 100 #[.pointer (some ⟨R.S,0,none⟩),.int .i64 k,.agg #[.bool oH,.slice fS.a fS.len fS.cap]] w4 λe w6=>
   e=.returned (.tuple #[])/\zQc prog [] w6 λw7=>zJI X w0 R (.int .i64 0) (zXK d.σ (d.σ.t.recs.set j { y with v:=y.v.set i nv })) (.returned (.int .i64 0)) w7) λw8 hN8 oQ _=>by
  have b8:=oQ.blk jw (hq7.1.other jw (by decide))
  have hpw8:Pu w w8:=hpw7.andNew oQ hq'.2
  have dw:=hp.trans hpw8
  rw[zZq]
  refine⟨y.gone,cl b8 0,q',cl b8 1,?_⟩
  rw[hk]
  have hx64:V64 (y.v.set i nv):=(zZr hv' { y with v:=y.v.set i nv } (by rw[zYF hj];exact List.mem_of_getElem? (List.getElem?_set_self hj))).1
  have tH:(y.v.set i nv).length<=1000000:=by rw[List.length_set];exact pz.2
  refine(yKg (x:={ y with v:=y.v.set i nv }) (h.pu dw) hi.t.ok hi.ne hn (RdV.of (xQH hN8 tH hx64)) tH (Nat.le_of_lt hj) hv').mono ?_
  rintro e w9 ⟨rfl,R9,h9,xY⟩
  rw[zYF hj]at h9
  exact⟨rfl,rfl,R9,h9,(zXu.pu dw R).trans xY⟩
 exact⟨av,hav,by omega,by omega,by rw[zXf];exact hst⟩
theorem rset_c(h:zQT X w R d.σ)(hi:Inv p f d)(hn:d.σ.done.length<=1000000)(k:Int)(nm:ByteArray)(v:Val):Calls prog 67 #[R.ptr,.int .i64 k,.string nm,.agg #[.int .i64 v.kind,.int .i64 v.n,.string v.s]] w (zJI X w R (.int .i64 (yXQ d.σ k nm v)) (yVI d.σ k nm v)):=by
 refine xQO _ _ _ _ _ _ w _ (alB λw1 aq aB=>?_)
 have h1:=h.pu aq
 refine⟨R.t.f,h1.cell 1,(xZx h1.kp0.t.2.fields nm).mono ?_⟩
 rintro e w2 ⟨rfl,ar⟩
 have aG:=aq.trans ar
 have h2:=h.pu aG
 have stay:∀{w3:World} (c:Int),Pu w w3->yXQ d.σ k nm v=c->yVI d.σ k nm v=d.σ->zJI X w R (.int .i64 (yXQ d.σ k nm v)) (yVI d.σ k nm v) (.returned (.int .i64 c)) w3:=λ{w3} c hp hc hd=>by
  rw[hd,hc]
  exact⟨rfl,R,h.pu hp,zXu.pu hp R⟩
 refine⟨_,_,rfl,(yXJ h2 k).mono ?_⟩
 rintro e w3 ⟨rfl,rfl⟩
 refine⟨_,rfl,Br.of (λc1=>?_) (λc1=>Br.of (λc=>?_) (λc=>zQb λw4 aK _=>?_))⟩
 ·have c1:zXh d.σ k=false:=by simpa using c1
  refine stay 4 aG ?_ ?_
  ·unfold yXQ
   cases yQr d.σ.t.fields nm with
   | none=>rfl
   | some i=>dsimp only;rw[if_neg (by rw[c1];simp)]
  ·unfold yVI
   cases yQr d.σ.t.fields nm with
   | none=>rfl
   | some i=>dsimp only;rw[if_neg (by rw[c1];simp)]
 ·have c:yQr d.σ.t.fields nm=none:=by simpa using c
  exact stay 4 aG (by unfold yXQ;rw[c]) (by unfold yVI;rw[c])
 have c1:zXh d.σ k=true:=by simpa using c1
 have c:(yQr d.σ.t.fields nm).isSome=true:=by simpa using c
 obtain⟨i,hidx⟩:=Option.isSome_iff_exists.1 c
 have hil:=xQK hidx
 have eK:xZy d.σ.t.fields nm=(i:Int):=by unfold xZy;rw[hidx];rfl
 obtain⟨fl,hfl⟩:=zQL hil
 have cq:=aG.trans aK
 have h4:=h.pu cq
 have b4:=aK.blk (ar.blk aB)
 rw[eK]
 obtain⟨a,ha,hia,_,_,_,f0,f1,f2,f3⟩:=zJk h4.kp0.t.2.fields hfl
 refine⟨λu=>Pu w4 u,Pu.refl _,R.t.f,λu hu=>(h4.pu hu).cell 1,a,ha,by omega,by omega,_,λu hu=>by rw[zXf];exact hu.cell f0,_,λu hu=>by rw[zXf];exact hu.cell f1,_,λu hu=>by rw[zXf];exact hu.cell f2,_,λu hu=>by rw[zXf];exact hu.cell f3,R.t.page,λu hu=>(h4.pu hu).cell0,_,λu hu=>cl (hu.blk b4) 0,_,λu hu=>cl (hu.blk b4) 1,_,λu hu=>cl (hu.blk b4) 2,?_⟩
 rw[h4.kp0.t.1]
 refine⟨(xYd fl d.σ.t.page v w4).mono ?_,alB λw5 aT bq=>⟨aT,(xYd fl d.σ.t.page v w5).mono ?_⟩⟩
 ·rintro e w5 ⟨rfl,aT⟩
  refine⟨_,_,_,_,rfl,alB λw6 bn fT=>zQi fT xYj.symm rfl rfl λw7 jw kh _=>?_⟩
  have lm:Pu w5 w7:=bn.andNew kh λi hi=>by rw[show i=_ from hi];exact Nat.le_refl _
  exact yZf h hi hn ((cq.trans aT).trans lm) hidx hfl c1 jw
 ·rintro e w6 ⟨rfl,bn⟩
  refine⟨_,_,_,_,rfl,zQi (bn.blk bq) xYj.symm rfl rfl λw7 jw kh _=>?_⟩
  have hp47:Pu w4 w7:=(aT.trans bn).andNew kh λi hi=>by rw[show i=_ from hi];exact Nat.le_refl _
  exact yZf h hi hn (cq.trans hp47) hidx hfl c1 jw
end Go.Proofs.YtaeecpjhfmcliaaGreatDoor
/- The log: what is too much in a script; a script's records and values. No condition but those stated. -/
namespace Go.Proofs.YtaeecpjhfmcliaaGreatDoor
open Go.Sh Go.RowKit Tryz
variable {w0 w w' : World} {x : zZd} {s : ScV}
theorem over_c(h:xQ4 w x s):Calls prog 15 #[scA x s] w λe w'=>∃b:Bool,e=.returned (.bool b)/\Pu w w'/\(b=false->x.acts.length<=80/\x.t.recs.length<=60):=by
 have hrl:=h.rs.len
 have hal:=h.ac.len
 have htl:=h.t.recs.len
 have hrm:=h.rs.lim
 have ham:=h.ac.lim
 refine xXX _ _ _ _ _ _ w _ (alB λw1 aq aB=>zQb λw2 ar _=>?_)
 have aG:=aq.trans ar
 have b2:=ar.blk aB
 refine⟨λu=>Pu w2 u,Pu.refl _,_,λu hu=>cl (hu.blk b2) 0,s.f,λu hu=>cl (hu.blk b2) 1,s.r,λu hu=>cl (hu.blk b2) 2,s.vs,λu hu=>cl (hu.blk b2) 4,s.rs,λu hu=>cl (hu.blk b2) 3,(xZw (h.t.pu aG)).mono ?_⟩
 rintro e w3 ⟨n3,rfl,ax⟩
 refine⟨n3,rfl,ax,(zVx (h.vs.pu (aG.trans ax))).mono ?_⟩
 rintro e w4 ⟨n4,rfl,aK⟩
 have fV:=ax.trans aK
 refine⟨n4,rfl,fV,?_⟩
 refine zQx x.recs.length (λk t w'=>t.2=(k:Int)/\Pu w2 w') ⟨rfl,fV⟩ ?_
 rintro k J ⟨n,m⟩ wa hk ⟨hm,hpa⟩ hJ
 obtain rfl:m=(k:Int):=hm
 dsimp only
 have ba:=hpa.blk b2
 refine⟨s.rs,cl ba 3,Br.of (λc=>?_) (λc=>?_)⟩
 ·have hkn:k<x.recs.length:=by have:=zQk c;omega
  obtain⟨r,hr⟩:=zQL hkn
  obtain⟨a,q,ha,_,hV,_,c1⟩:=zWo (h.rs.pu (aG.trans hpa)) hr
  refine⟨s.rs,cl ba 3,a,ha,by omega,by omega,q,by rw[zXf];exact c1,(zVx hV).mono ?_⟩
  rintro e wb ⟨nb,rfl,hpb⟩
  rw[zQa (n:=(k:Int)+1) (by omega) (by omega)]
  exact⟨nb,rfl,hJ _ _ hkn ⟨by dsimp only;omega,hpa.trans hpb⟩⟩
 ·refine zQx x.acts.length (λk t w'=>t.2=(k:Int)/\Pu w2 w') ⟨rfl,hpa⟩ ?_
  rintro k2 J2 ⟨n2,m2⟩ wb aH ⟨yo,hpb⟩ hJ2
  obtain rfl:m2=(k2:Int):=yo
  dsimp only
  have bb:=hpb.blk b2
  refine⟨s.ac,cl bb 5,Br.of (λc=>?_) (λc=>?_)⟩
  ·have hkn:k2<x.acts.length:=by have:=zQk c;omega
   obtain⟨r,hr⟩:=zQL hkn
   obtain⟨a,ha,_,_,_,_,_,_,c4,_⟩:=actAt (h.ac.pu (aG.trans hpb)) hr
   refine⟨s.ac,cl bb 5,a,ha,by omega,by omega,r.s,by rw[zXf];exact c4,?_⟩
   rw[zQa (n:=(k2:Int)+1) (by omega) (by omega)]
   exact hJ2 _ _ hkn ⟨by dsimp only;omega,hpb⟩
  ·have hp0b:=aG.trans hpb
   refine Br.of (λ_=>⟨true,rfl,hp0b,λe=>by cases e⟩) (λ_=>⟨s.ac,cl bb 5,Br.of (λ_=>⟨true,rfl,hp0b,λe=>by cases e⟩) (λc2=>⟨s.r,cl bb 2,_,rfl,hp0b,λe=>?_⟩)⟩)
   have c2:=zQe c2
   have c3:=zQe e
   omega
def noR:Rec:=⟨false,[]⟩
def zVy(x:zZd)(n:Int):Rec:=if 0<=n/\n<x.recs.length then x.recs.getD n.toNat noR else noR
def zWB(x:zZd)(n:Int):Val:=if 0<=n/\n<x.vals.length then x.vals.getD n.toNat noV else noV
theorem nil_rd(w:World):zX7 w ⟨none,0,0⟩ ([]:List Val):=⟨rfl,Nat.le_refl _,by show 0<=_;omega,λi v hv=>by simp at hv⟩
theorem yXC(h:xQ4 w0 x s)(hp:Pu w0 w)(n:Int):Calls prog 62 #[scA x s,.int .i64 n] w λe w'=>∃q:SV,e=.returned (.agg #[.bool (zVy x n).gone,slV q])/\zX7 w0 q (zVy x n).v/\Pu w w':=by
 have hrl:=h.rs.len
 refine xQG _ _ _ _ _ _ _ w _ (alB λw1 aq aB=>alB λw2 ar aM=>?_)
 have aG:=aq.trans ar
 have cN:=ar.blk aB
 have z1:=aq.size
 have bad:¬(0<=n/\n<x.recs.length)->stA prog 67 (⟨w1.heap.size,0,none⟩:Addr) #[.bool false,.slice none 0 0] w2 λw3=>zQc prog [] w3 λw4=>
   ∃bN:Bool,w4.cell? ((⟨w1.heap.size,0,none⟩:Addr).add 0)=some (.bool bN)/\∃ab:SV,w4.cell? ((⟨w1.heap.size,0,none⟩:Addr).add 1)=some (.slice ab.a ab.len ab.cap)/\
   ∃q:SV,Ending.returned (.agg #[.bool bN,.slice ab.a ab.len ab.cap])=.returned (.agg #[.bool (zVy x n).gone,slV q])/\zX7 w0 q (zVy x n).v/\Pu w w4:=λhn=>by
  have e:zVy x n=noR:=by unfold zVy;rw[if_neg hn]
  rw[e]
  exact zQi aM yWG.symm rfl rfl λw3 bp gd _=>⟨_,cl bp 0,⟨none,0,0⟩,cl bp 1,⟨none,0,0⟩,rfl,nil_rd w0,aG.andNew gd λi hi=>by rw[show i=_ from hi];exact z1⟩
 refine Br.of (λc=>bad (by have:=zQk c;omega)) (λc=>⟨s.rs,cl cN 3,Br.of (λc1=>bad (by have:=zQk c1;omega)) (λc1=>?_)⟩)
 have c:=zQe c
 have c1:=zQe c1
 have hn:0<=n/\n<x.recs.length:=by omega
 obtain⟨k,rfl⟩:∃k:Nat,n=(k:Int):=⟨n.toNat,by omega⟩
 obtain⟨r,hr⟩:=zQL (l:=x.recs) (k:=k) (by omega)
 have e:zVy x (k:Int)=r:=by unfold zVy;rw[if_pos hn,zXf,List.getD_eq_getElem?_getD,hr];rfl
 obtain⟨a,q,ha,_,hV,c0,pj⟩:=zWo h.rs hr
 have hpw:=hp.trans aG
 rw[e]
 refine⟨s.rs,cl cN 3,a,ha,by omega,by omega,r.gone,by rw[zXf];exact hpw.cell c0,q,by rw[zXf];exact hpw.cell pj,?_⟩
 exact zQi aM yWG.symm rfl rfl λw3 bp gd _=>⟨_,cl bp 0,q,cl bp 1,q,rfl,hV,aG.andNew gd λi hi=>by rw[show i=_ from hi];exact z1⟩
theorem xXt(h:xQ4 w0 x s)(hp:Pu w0 w)(n:Int):Calls prog 66 #[scA x s,.int .i64 n] w λe w'=>e=.returned (.agg #[.int .i64 (zWB x n).kind,.int .i64 (zWB x n).n,.string (zWB x n).s])/\Pu w w':=by
 have hrl:=h.vs.len
 refine yYQ _ _ _ _ _ _ _ w _ (alB λw1 aq aB=>alB λw2 ar aM=>?_)
 have aG:=aq.trans ar
 have cN:=ar.blk aB
 have z1:=aq.size
 have bad:¬(0<=n/\n<x.vals.length)->stA prog 73 (⟨w1.heap.size,0,none⟩:Addr) #[.int .i64 0,.int .i64 0,.string (⟨#[]⟩:ByteArray)] w2 λw3=>zQc prog [] w3 λw4=>
   ∃ag:Int,w4.cell? ((⟨w1.heap.size,0,none⟩:Addr).add 0)=some (.int .i64 ag)/\∃aj:Int,w4.cell? ((⟨w1.heap.size,0,none⟩:Addr).add 1)=some (.int .i64 aj)/\∃ak:ByteArray,w4.cell? ((⟨w1.heap.size,0,none⟩:Addr).add 2)=some (.string ak)/\
   Ending.returned (.agg #[.int .i64 ag,.int .i64 aj,.string ak])=.returned (.agg #[.int .i64 (zWB x n).kind,.int .i64 (zWB x n).n,.string (zWB x n).s])/\Pu w w4:=λhn=>by
  have e:zWB x n=noV:=by unfold zWB;rw[if_neg hn]
  rw[e]
  exact zQi aM xYj.symm rfl rfl λw3 bp gd _=>⟨_,cl bp 0,_,cl bp 1,_,cl bp 2,rfl,aG.andNew gd λi hi=>by rw[show i=_ from hi];exact z1⟩
 refine Br.of (λc=>bad (by have:=zQk c;omega)) (λc=>⟨s.vs,cl cN 4,Br.of (λc1=>bad (by have:=zQk c1;omega)) (λc1=>?_)⟩)
 have c:=zQe c
 have c1:=zQe c1
 have hn:0<=n/\n<x.vals.length:=by omega
 obtain⟨k,rfl⟩:∃k:Nat,n=(k:Int):=⟨n.toNat,by omega⟩
 obtain⟨r,hr⟩:=zQL (l:=x.vals) (k:=k) (by omega)
 have e:zWB x (k:Int)=r:=by unfold zWB;rw[if_pos hn,zXf,List.getD_eq_getElem?_getD,hr];rfl
 obtain⟨a,ha,_,_,_,c0,pj,c2⟩:=yVU h.vs hr
 have hpw:=hp.trans aG
 rw[e]
 refine⟨s.vs,cl cN 4,a,ha,by omega,by omega,_,by rw[zXf];exact hpw.cell c0,_,by rw[zXf];exact hpw.cell pj,_,by rw[zXf];exact hpw.cell c2,?_⟩
 exact zQi aM xYj.symm rfl rfl λw3 bp gd _=>⟨_,cl bp 0,_,cl bp 1,_,cl bp 2,rfl,aG.andNew gd λi hi=>by rw[show i=_ from hi];exact z1⟩
end Go.Proofs.YtaeecpjhfmcliaaGreatDoor
/- The log: the table is written into the data file, and the log made empty. No condition but those stated. -/
namespace Go.Proofs.YtaeecpjhfmcliaaGreatDoor
open Go.Sh Go.RowKit Tryz
variable {w0 w w' : World} {X : Nat -> Prop} {L L' : SL} {d d' : Dat} {mu : Int} {p : Int} {f : List Fld}
theorem zJn.fr {w0:World} {q:SV} {wh:List (Int × Int × SV)} {l:List Wr} {B:Nat->Prop} (h:zJn w0 w q wh l) (hf:Fr B w w') (hB:∀k,w0.heap.size<=k->k<w.heap.size->¬B k):zJn w0 w' q wh l:=
 ⟨h.row.fr hf λk hk=>hB k (h.rn k hk) (h.row.lt k hk),h.rn,h.len,λi x y hx hy=>⟨(h.each i x y hx hy).1,(h.each i x y hx hy).2.1,(h.each i x y hx hy).2.2.fr hf hB⟩⟩
theorem xYk(h:zQJ X w L d 0)(hi:Inv p f d)(hs:Fit d):Calls prog 41 #[L.ptr] w (yXr X w L (.int .i64 (zVA d.σ)) d.clean):=by
 have hS:=h.S_lt
 have hlv:=h.lv.len zQv (by decide)
 have hll:=h.ll
 have hv:=hi.t.ok
 have hbo:zQC d.σ.t=zQj d.σ.t:=by unfold zQC;rw[if_pos hv]
 refine xQJ _ w _ ((zX0 h (Pu.refl w)).mono ?_)
 rintro e w1 ⟨rfl,hI,hf,hsz⟩
 have h1:=hI.at_ h
 refine⟨_,_,rfl,zJB (Br.of (λc=>by cases c) λ_=>⟨L.lv,h1.cellA 5,Br.of (λc=>?_) (λc=>?_)⟩)⟩
 ·have hlne:d.σ.lev ≠ []:=λe=>by
   have:d.σ.lev.length=0:=by rw[e];rfl
   have:=zQk c
   omega
  have e1:zVA d.σ=9:=by unfold zVA;rw[if_neg hlne]
  have e2:d.clean=d:=by unfold Dat.clean;rw[if_neg λe=>hlne e.1]
  rw[e1,e2]
  exact zXQ h1 hI.left
 have hlev:d.σ.lev=[]:=List.eq_nil_of_length_eq_zero (by have:=zQe c;omega)
 have e1:zVA d.σ=0:=by unfold zVA;rw[if_pos hlev]
 obtain⟨al,hal,cl0',tG⟩:=h1.kp0.la.ex
 have hll2:=h1.kp0.la.len
 have hb1l:=h1.kp0.la.b1.len
 refine⟨L.last,h1.cellA 8,al,hal,by omega,by omega,L.l1,tG,Br.of (λc1=>?_) (λc1=>?_)⟩
 ·have c1:L.l1.len=0:=by simpa using c1
  have e2:d.clean=d:=by unfold Dat.clean;rw[if_neg λe=>e.2 (List.eq_nil_of_length_eq_zero (by omega))]
  rw[e1,e2]
  exact zXQ h1 hI.left
 have c1:¬L.l1.len=0:=by simpa using c1
 have hne:d.last.2 ≠ []:=λe=>by rw[e]at hb1l;simp at hb1l;omega
 have e2:d.clean=(zQ8 (d.write d.whole).last).foldl Dat.write (d.write d.whole):=by unfold Dat.clean;rw[if_pos ⟨hlev,hne⟩]
 refine zQb λaI bl _=>?_
 have m7:=h1.pu bl
 refine⟨λu=>Pu aI u,Pu.refl _,L.last,λu hu=>(m7.pu hu).cellA 8,al,hal,by omega,by omega,L.l1,λu hu=>hu.cell (bl.cell tG),_,λu hu=>(m7.pu hu).cellB 2 0,L.now.f,λu hu=>(m7.pu hu).cellB 2 1,L.now.r,λu hu=>(m7.pu hu).cellB 2 2,?_⟩
 rw[m7.now.page]
 refine(xQz (m7.rdNow hv) hv).mono ?_
 rintro e bJ ⟨q17,rfl,iM,kL⟩
 have h17:=m7.pu kL
 have hle:=zW3 d.σ.t
 have hrl:(zZY 119 (zQC d.σ.t)).length<=700000:=by rw[zJp];omega
 have hy:okW d.whole:=⟨.inr rfl,by show 0<=(d.last.2.length:Int);omega,hrl⟩
 refine⟨q17,rfl,kL,?_⟩
 rw[show((L.l1.len:Nat):Int)=((d.last.2.length:Nat):Int)by omega]
 refine Calls.mono (yX0 (y:=d.whole) (q:=q17) h17 hy (iM.keepBy (by omega) m7.xw) ⟨by have:=hs.l1;omega,by have:=hs.l2;omega⟩ (by have:=hs.wn;omega)) ?_
 rintro e bR ⟨rfl,L1,yE,ql⟩
 have hL01:zZi w bR L L1:=(hI.left.trans (zZi.pu (bl.trans kL) L)).trans ql
 have hfile:zQ9 d.last=(some d.σ.t,[],false):=by rw[hi.at0 hlev];exact hi.file
 have hW:=yQ8 hfile hv
 have ew:(d.write d.whole).last=(d.last.1,d.last.2 ++ zZY 119 (zQj d.σ.t)):=by
  show zQw d.last d.whole=_
  unfold Dat.whole;rw[hbo];exact zKB (t:=d.σ.t)
 have hfo:(zQ9 (d.write d.whole).last).1=some d.σ.t:=by rw[ew,hW]
 have xK:(d.write d.whole).last.1.length<=800000000:=by rw[ew];exact hs.l1
 have pA:(d.write d.whole).last.2.length<=800700000:=by
  rw[ew,List.length_append,←hbo]
  have:=hs.l2
  omega
 rw[←ql.ptr]
 refine⟨rfl,L1.last,yE.cellA 8,(zYD (yE.kp0).la ⟨by omega,by omega⟩ hfo).mono ?_⟩
 rintro e cj ⟨iZ,q,wh,rfl,hWr⟩
 have qN:=yE.pu iZ
 have hql:=hWr.row.len zXH (by decide)
 have hwl:=hWr.len
 have hml:=zYs (d.write d.whole).last
 have hkW:∀w2,Fr (λb=>L1.own b∨X b) cj w2->zJn bR w2 q wh (zQ8 (d.write d.whole).last):=λw2 h2=>hWr.fr h2 λk hk hlt e=>by have:=yE.xw k e;omega
 refine⟨q,rfl,?_⟩
 have ka:(d.write d.whole).wr.length=d.wr.length+1:=by show(d.wr ++ [d.whole]).length=_;simp
 generalize d.write d.whole=d1 at *
 refine zQx (zQ8 d1.last).length (λk u w'=>u=(k:Int)/\∃Lk,zQJ X w' Lk (((zQ8 d1.last).take k).foldl Dat.write d1) 1/\zZi cj w' L1 Lk) ⟨rfl,L1,qN,zZi.refl _ _⟩ ?_
 rintro k J u wa hk ⟨hu,Lk,hSk,hLk⟩ hJ
 obtain rfl:u=(k:Int):=hu
 dsimp only
 obtain⟨g1,g2,g3,g4,g5⟩:=yKJ ((zQ8 d1.last).take k) d1
 have hkWa:=hLk.keep (X:=X) hkW qN.xl
 refine Br.of (λc2=>?_) (λc2=>?_)
 ·have aH:k<(zQ8 d1.last).length:=by have:=zQk c2;omega
  obtain⟨y,ri⟩:=zQL aH
  have hok:=zJO (List.mem_of_getElem? ri)
  obtain⟨a,x,ha,hka,z0,z1,z2,hB⟩:=(hkWa wa (Fr.refl _ _)).at_ ri
  have hkx:∀w2,Fr (λb=>Lk.own b∨X b) wa w2->ByV w2 x y.b:=λw2 h2=>by
   obtain⟨a',x',ha',_,_,_,z2',hB'⟩:=(hkWa w2 h2).at_ ri
   rw[ha]at ha';cases ha'
   have hcell:w2.cell? ((a.add (k * 3)).add 2)=some (slV x):=by
    obtain⟨xx,hxx⟩:=zQL (l:=wh) (k:=k) (by rw[hwl];exact aH)
    obtain⟨b1,aB,_,m1⟩:=(hkWa w2 h2).row.elem zXH hxx (o:=2) rfl
    obtain⟨b2,aM,_,m2⟩:=(hkWa wa (Fr.refl _ _)).row.elem zXH hxx (o:=2) rfl
    rw[ha]at aB aM;cases aB;cases aM
    rw[m1,←m2];exact z2
   rw[hcell]at z2'
   have:x=x':=by
    obtain⟨p1,p2,p3⟩:=x;obtain⟨p1',p2',p3'⟩:=x'
    simp at z2';obtain⟨rfl,rfl,rfl⟩:=z2';rfl
   rw[this];exact hB'.by (by have:=hok.2.2;omega)
  refine⟨a,ha,by omega,by omega,_,by rw[zXf];exact z0,_,by rw[zXf];exact z1,x,by rw[zXf];exact z2,alB λwb hpb hbb=>zQi hbb vk90.symm rfl rfl λwc hbc hfc _=>?_⟩
  have hpac:Pu wa wc:=hpb.andNew hfc λi hi=>by rw[show i=_ from hi];exact Nat.le_refl _
  refine⟨_,cl hbc 0,_,cl hbc 1,x,cl hbc 2,?_⟩
  have hszk:=zKt (F:=d1.last) (W:=(zQ8 d1.last).take k) (c:=800700000) ⟨by omega,by omega⟩ λy hy=>(zJO (List.mem_of_mem_take hy)).2.2
  have htl:((zQ8 d1.last).take k).length<=4:=by rw[List.length_take];omega
  rw[←hLk.ptr]
  refine Calls.mono (yX0 (y:=y) (q:=x) (hSk.pu hpac) hok (xQn hkx hpac) ⟨by rw[g5];omega,by rw[g5];omega⟩ (by
   rw[g4,List.length_append]
   have:=hs.wn
   omega)) ?_
  rintro e wd ⟨rfl,Lm,hSm,hLm⟩
  refine⟨rfl,?_⟩
  rw[zQa (by omega) (by omega)]
  refine hJ _ _ aH ⟨rfl,Lm,?_,hLk.trans ((zZi.pu hpac Lk).trans hLm)⟩
  rw[zQE ri,List.foldl_append]
  exact hSm
 ·have aH:k=(zQ8 d1.last).length:=by have:=zQe c2;omega
  subst aH
  rw[List.take_length]at hSk
  rw[e1,e2]
  have hL:=(hL01.trans (zZi.pu iZ L1)).trans hLk
  exact zZe hSk hL hL.ptr.symm
end Go.Proofs.YtaeecpjhfmcliaaGreatDoor
/- The log: how many writes and commits there are behind some acts. In plain words. No condition but those stated. -/
namespace Go.Proofs.YtaeecpjhfmcliaaGreatDoor
open Go.Sh Go.RowKit Tryz
structure Sz(F:Fls)(n:Nat)(d:Dat):Prop where
 first:d.first=F
 wn:d.wr.length<=5 * n
 dn:d.σ.done.length<=n+1
variable {p : Int} {f : List Fld} {d : Dat} {F : Fls} {n : Nat}
theorem Sz.new(t:Tbl)(F:Fls):Sz F 0 (Dat.new t F):=⟨rfl,Nat.le_refl _,Nat.le_refl _⟩
theorem Sz.up(h:Sz F n d):Sz F (n+1) d:=⟨h.first,by have:=h.wn;omega,by have:=h.dn;omega⟩
theorem Sz.to(h:Sz F n d){σ:Sto}(e:σ.done=d.σ.done):Sz F n (d.to σ):=⟨h.first,h.wn,by show σ.done.length<=_;rw[e];exact h.dn⟩
theorem Sz.commit(h:Sz F n d):Sz F (n+1) d.commit:=by
 unfold Dat.commit
 split
 ·refine⟨h.first,?_,?_⟩
  ·show(d.wr ++ [d.rec_]).length<=_
   have:=h.wn
   rw[List.length_append,List.length_singleton];omega
  ·show(d.σ.done ++ [d.σ.t]).length<=_
   have:=h.dn
   rw[List.length_append,List.length_singleton];omega
 ·exact h.up
theorem Sz.begin(h:Sz F n d):Sz F (n+1) d.begin:=(h.to (by unfold zJc;split <;> rfl)).up
theorem Sz.back(h:Sz F n d):Sz F (n+1) d.back:=(h.to (by unfold zVl;split <;> rfl)).up
theorem Sz.end_(h:Sz F n d):Sz F (n+1) d.end_:=by
 unfold Dat.end_
 split
 ·exact h.up
 ·exact Sz.commit (h.to rfl)
theorem Sz.recs(h:Sz F n d)(l:List Rec):Sz F (n+1) (d.recs l):=Sz.commit (h.to rfl)
theorem Sz.app(h:Sz F n d)(r:Rec):Sz F (n+1) (d.app r):=by
 unfold Dat.app
 split
 ·exact h.recs _
 ·exact h.up
theorem Sz.put(h:Sz F n d)(k:Int)(r:Rec):Sz F (n+1) (d.put k r):=by
 unfold Dat.put
 split
 ·exact h.recs _
 ·exact h.up
theorem Sz.mark(h:Sz F n d)(k:Int)(g:Bool):Sz F (n+1) (d.mark k g):=by
 unfold Dat.mark
 split
 ·exact h.recs _
 ·exact h.up
theorem Sz.set(h:Sz F n d)(k:Int)(nm:ByteArray)(v:Val):Sz F (n+1) (d.set k nm v):=by
 unfold Dat.set
 cases yQr d.σ.t.fields nm with
 | none=>exact h.up
 | some i=>
  dsimp only
  split
  ·exact h.recs _
  ·exact h.up
theorem Sz.clean(h:Sz F n d)(hi:Inv p f d):Sz F (n+1) d.clean:=by
 by_cases hc:d.σ.lev=[]/\d.last.2 ≠ []
 ·have e:d.clean=(zQ8 (d.write d.whole).last).foldl Dat.write (d.write d.whole):=by unfold Dat.clean;rw[if_pos hc]
  obtain⟨e1,e2,e3,e4,_⟩:=yKJ (zQ8 (d.write d.whole).last) (d.write d.whole)
  rw[←e]at e1 e2 e3 e4
  have hm:=(zVP hi hc.1).1
  refine⟨by rw[e2];exact h.first,?_,by rw[e1];exact h.up.dn⟩
  rw[e4,hm]
  show((d.wr ++ [d.whole]) ++ [_,_,_]).length<=_
  have:=h.wn
  simp only[List.length_append,List.length_cons,List.length_nil];omega
 ·have e:d.clean=d:=by unfold Dat.clean;rw[if_neg hc]
  rw[e];exact h.up
theorem Sz.small(h:Sz F n d)(hi:Inv p f d)(hF:F.1.length<=400000000/\F.2.length<=400000000)(hn:n<=100):Small d:=⟨by rw[h.first];exact hF.1,by rw[h.first];exact hF.2,by have:=h.wn;omega,hi.wb⟩
theorem Sz.fit(h:Sz F n d)(hi:Inv p f d)(hF:F.1.length<=400000000/\F.2.length<=400000000)(hn:n<=100):Fit d:=by
 have hs:=(h.small hi hF hn).files d.wr.length
 rw[←hi.eq]at hs
 exact⟨by omega,by omega,by have:=h.wn;omega,by have:=h.dn;omega⟩
end Go.Proofs.YtaeecpjhfmcliaaGreatDoor
/- The log: what is known of a store that is played in the way that the document shows. No condition. -/
namespace Go.Proofs.YtaeecpjhfmcliaaGreatDoor
open Go.Sh Go.RowKit Tryz
variable {w w' : World}
def yKk(n:Int):Val:=⟨2,n,⟨#[]⟩⟩
def oneR(n:Int):Rec:=⟨false,[yKk n]⟩
def oneF:List Fld:=[⟨⟨#[78]⟩,2,3,false⟩]
def zYi(l:List Int):Tbl:=⟨0,oneF,l.map oneR⟩
theorem one_c {r:Nat} {l:List Int} (hl:l.length<=1000) (hb:w.heap[r]?=some (.cells (l.map (Value.int .i64)).toArray 3)):Calls prog 44 #[.slice (some ⟨r,0,none⟩) l.length l.length] w λe w'=>∃f q:SV,e=.returned (zVe (zYi l) f q)/\zJq w w' (zYi l) f q/\Pu w w':=by
 refine xXk ⟨some ⟨r,0,none⟩,l.length,l.length⟩ w _ (alB λw1 aq aB=>alB λw2 ar aM=>alB λw3 ax bp=>zQi bp zKZ.symm rfl rfl λw4 du gR _=>?_)
 have pv:Pu w2 w4:=ax.andNew gR λi hi=>by rw[show i=_ from hi];exact Nat.le_refl _
 have oP:=ar.trans pv
 have cq:=aq.trans oP
 have lt0:w.heap.size<w1.heap.size:=zQy aB
 have nG:w1.heap.size<w2.heap.size:=zQy aM
 obtain⟨qf,hqf⟩:∃qf:SV,qf=⟨some ⟨w1.heap.size,0,none⟩,1,1⟩:=⟨_,rfl⟩
 have yx:zKH w w4 qf (zYi l).fields:=by
  rw[hqf]
  exact⟨⟨rfl,.inr ⟨_,_,rfl,pv.blk aM,Nat.le_refl _,by show 1<=maxLen;unfold maxLen;omega,rfl,rfl⟩⟩,λb hb=>by simp[zQd]at hb;omega⟩
 have S0:ChS w w2.heap.size w.heap.size (zYi l) qf [] w4:=⟨⟨⟨none,0,0⟩,by rw[du,hqf];rfl,zKj.nil _ _⟩,oP.blk aB,yx,cq,by omega,by omega,by omega⟩
 clear hqf
 refine zQx l.length (λk u w'=>u=(k:Int)/\ChS w w2.heap.size w.heap.size (zYi l) qf ((l.take k).map oneR) w') ⟨rfl,by simpa using S0⟩ ?_
 rintro k J u wa hk ⟨hu,hS⟩ hJ
 obtain rfl:u=(k:Int):=hu
 refine Br.of (λc=>zQb λwb hpb _=>?_) (λc=>?_)
 ·have hkn:k<l.length:=by have:(k:Int)<((l.length:Nat):Int):=zQk c;omega
  obtain⟨x,hx⟩:=zQL hkn
  have hSb:=hS.on hpb
  obtain⟨s,g1,g2⟩:=hSb.ex
  refine⟨λu=>Pu wb u,Pu.refl _,s,λu hu=>cl (hu.blk g1) 2,_,rfl,by omega,by show(k:Int)<((l.length:Nat):Int);omega,x,λu hu=>?_,(xXP x wb).mono ?_⟩
  ·rw[zXf,Nat.mul_one,cl (hu.blk (hSb.pu.blk hb)) k]
   simp[hx]
  rintro e wc ⟨rfl,hpc⟩
  refine⟨_,_,_,rfl,hpc,alB λwd hpd hbd=>⟨hpc.trans hpd,alB λwe hpe hbe=>⟨(hpc.trans hpd).trans hpe,?_⟩⟩⟩
  have hpbe:=(hpc.trans hpd).trans hpe
  have hSe:=hSb.on hpbe
  have g1e:=hpbe.blk g1
  have g2e:=g2.pu hpbe
  have zb:=hSb.pu.size
  have zc:=hpc.size
  have hv:zKa w we ⟨some ⟨wc.heap.size,0,none⟩,1,1⟩ [yKk x]:=⟨⟨rfl,.inr ⟨_,_,rfl,hpe.blk hbd,Nat.le_refl _,by show 1<=maxLen;unfold maxLen;omega,rfl,rfl⟩⟩,λb hb=>by simp[zQd]at hb;omega⟩
  obtain⟨s',wf,hra,nf,hff⟩:=g2e.push (g:=false) (vs:=[yKk x]) hSe.pu.size hv hbe rfl (by rw[List.length_map,List.length_take];omega)
  refine⟨s',wf,hra,?_⟩
  have nk:∀{b:Nat} {c:Array Value},we.heap[b]?=some (.cells c 35)->¬b ∈ zQd s:=λhb hk=>by obtain⟨qs,k1,_⟩:=g2e;exact k1.other hb (by decide) hk
  have g1f:=hff.blk g1e (nk g1e)
  refine zQt g1f (by show 2<3;omega) λwg hwg hbg=>?_
  have hfg:Fr (·=w2.heap.size) wf wg:=by rw[hwg];exact Fr.cell wf _ _ _
  have hqe:zKH w wf qf (zYi l).fields:=hSe.qf.fr hff λk hk e=>by obtain⟨qs,k1,_⟩:=g2e;exact zQn hSe.qf.1 k1 (by decide) k hk e
  rw[zQa (by omega) (by omega)]
  refine hJ _ _ hkn ⟨rfl,⟨⟨s',hbg,?_⟩,hfg.blk (hff.blk hSe.b4 (nk hSe.b4)) (Ne.symm hSe.ne),hqe.fr hfg λk hk e=>hqe.1.other g1f (by decide) (by rw[←show k=_ from e];exact hk),(hSe.pu.andNew hff g2e.own).andNew hfg λi hi=>by rw[show i=_ from hi];exact hSe.z2,hSe.z2,hSe.z4,hSe.ne⟩⟩
  rw[zQE hx,List.map_append]
  exact nf.other hfg g1f (by decide) (by decide)
 ·have hkn:k=l.length:=by have:¬(k:Int)<((l.length:Nat):Int):=zQe c;omega
  subst hkn
  rw[List.take_length]at hS
  obtain⟨s,g1,g2⟩:=hS.ex
  exact⟨_,cl g1 0,qf,cl g1 1,s,cl g1 2,zQi hS.b4 zKZ.symm rfl rfl λwz hbz hfz _=>⟨_,cl hbz 0,qf,cl hbz 1,s,cl hbz 2,qf,s,rfl,⟨hS.qf.fr hfz λk hk e=>hS.qf.1.other hS.b4 (by decide) (by rw[←show k=_ from e];exact hk),g2.other hfz hS.b4 (by decide) (by decide)⟩,hS.pu.andNew hfz λi hi=>by rw[show i=_ from hi];exact hS.z4⟩⟩
theorem yZa (l:List Int) (h:l=[1,2]∨l=[5,2]):zQg (zYi l)=0:=by
 rcases h with rfl|rfl <;> decide +kernel
def k0:Sto:=Sto.new (zYi [1,2])
def k1:Sto:=zJc k0
def k2:Sto:=yVI k1 1 ⟨#[78]⟩ (yKk 5)
def k3:Sto:=zJc k2
def k4:Sto:=yVI k3 2 ⟨#[78]⟩ (yKk 6)
def k5:Sto:=zVl k4
def k6:Sto:=xVA k5
theorem k1_c:zKf k0=0:=by decide +kernel
theorem k2_c:yXQ k1 1 ⟨#[78]⟩ (yKk 5)=0:=by decide +kernel
theorem k3_c:zKf k2=0:=by decide +kernel
theorem k4_c:yXQ k3 2 ⟨#[78]⟩ (yKk 6)=0:=by decide +kernel
theorem k5_c:zJl k4=0:=by decide +kernel
theorem k6_c:zJl k5=0:=by decide +kernel
theorem k6_t:k6.t=zYi [5,2]:=by decide +kernel
theorem xYP:k6.done=[zYi [1,2],zYi [5,2]]:=by decide +kernel
end Go.Proofs.YtaeecpjhfmcliaaGreatDoor
/- The log: that the program commits what the document says: that call, walked. No condition. -/
namespace Go.Proofs.YtaeecpjhfmcliaaGreatDoor
open Go.Sh Go.RowKit Tryz
variable {w0 w w' : World} {X : Nat -> Prop}
structure KnS(X:Nat->Prop)(w0 w:World)(S:Nat)(p:Int)(f:List Fld)(F:Fls)(n:Nat)(d:Dat)(L:SL):Prop where
 S:L.S=S
 at_:zQJ X w L d 0
 inv:Inv p f d
 sz:Sz F n d
 pu:Pu w0 w
 own:∀b,L.own b->w0.heap.size<=b
variable {S : Nat} {p : Int} {f : List Fld} {F : Fls} {n : Nat} {d d' : Dat} {L : SL}
theorem KnS.on(h:KnS X w0 w S p f F n d L)(hp:Pu w w'):KnS X w0 w' S p f F n d L:=⟨h.S,h.at_.pu hp,h.inv,h.sz,h.pu.trans hp,h.own⟩
theorem KnS.act (h:KnS X w0 w S p f F n d L) {i:Nat} {v:Value} {args:Array Value} (hc:Calls prog i args w (yXr X w L v d')) (hi:Inv p f d') (hz:Sz F (n+1) d'):Calls prog i args w λe w'=>e=.returned v/\∃L',KnS X w0 w' S p f F (n+1) d' L':=by
 refine hc.mono ?_
 rintro e w2 ⟨rfl,L2,h2,hl⟩
 exact⟨rfl,L2,hl.ptr.trans h.S,h2,hi,hz,h.pu.andNew hl.fr h.own,λb hb=>(hl.own b hb).elim (h.own b) λhb=>by have:=h.pu.size;omega⟩
theorem KnS.ptr(h:KnS X w0 w S p f F n d L):Value.pointer (some ⟨S,0,none⟩)=L.ptr:=by rw[←h.S]
theorem xYJ(w:World):Calls prog 10 #[] w λe w'=>e=.returned (.bool true)/\Pu w w':=by
 have yG:=yZa [1,2] (.inl rfl)
 have v52:=yZa [5,2] (.inr rfl)
 refine xXJ w _ (alB λw1 aq aB=>(one_c (l:=[1,2]) (by decide) aB).mono ?_)
 rintro e w2 ⟨f,q,rfl,hO,ar⟩
 have aG:=aq.trans ar
 refine⟨_,f,q,rfl,(new_c (X:=λ_=>False) (hO.rd (zX8 yG)) (zZC yG) λb hb=>hb.elim).mono ?_⟩
 rintro e w3 ⟨ax,⟨nr,_⟩|⟨_,p,rfl,L,rfl,h3,own⟩⟩
 ·exact absurd yG nr
 have hF:(zQj (zYi [1,2])).length<=400000000/\([]:List UInt8).length<=400000000:=⟨by have:=zJh (zJj.of yG);show(zQj (zYi [1,2])).length<=_;omega,by simp⟩
 have K0:KnS (λ_=>False) w w3 L.S 0 oneF (zQj (zYi [1,2]),[]) 0 (Dat.new (zYi [1,2]) (zQj (zYi [1,2]),[])) L:=⟨rfl,h3,yXW yG (yXy yG),Sz.new _ _,aG.trans ax,λb hb=>by have:=own b hb;have:=aG.size;omega⟩
 obtain⟨S,hS⟩:∃S:Nat,S=L.S:=⟨_,rfl⟩
 rw[←hS]at K0 ⊢
 clear hS h3 own
 obtain⟨d0,wU⟩:∃d0,d0=Dat.new (zYi [1,2]) (zQj (zYi [1,2]),[]):=⟨_,rfl⟩
 have s0:d0.σ=k0:=by rw[wU];rfl
 rw[←wU]at K0
 clear wU
 refine⟨_,_,rfl,Br.of (λc=>by cases c) λ_=>?_⟩
 rw[K0.ptr]
 refine(K0.act (yJI K0.at_ K0.inv.toInvW) (zYW K0.inv) K0.sz.begin).mono ?_
 rintro e w4 ⟨rfl,L1,K1⟩
 rw[s0,k1_c]
 have s1:d0.begin.σ=k1:=by show zJc d0.σ=_;rw[s0];rfl
 refine⟨_,rfl,Br.of (λc=>by cases c) λ_=>(xXP 5 w4).mono ?_⟩
 rintro e w5 ⟨rfl,aT⟩
 replace K1:=K1.on aT
 refine⟨_,_,_,rfl,?_⟩
 rw[←K0.ptr,K1.ptr]
 refine(K1.act (xY8 K1.at_ K1.inv (K1.sz.fit K1.inv hF (by omega)) 1 ⟨#[78]⟩ (yKk 5)) (yJ2 K1.inv _ _ _) (K1.sz.set _ _ _)).mono ?_
 rintro e w6 ⟨rfl,L2,K2⟩
 rw[s1,k2_c]
 have s2:(d0.begin.set 1 ⟨#[78]⟩ (yKk 5)).σ=k2:=by rw[Dat.set_σ,s1];rfl
 refine⟨_,rfl,Br.of (λc=>by cases c) λ_=>?_⟩
 rw[←K1.ptr,K2.ptr]
 refine(K2.act (yJI K2.at_ K2.inv.toInvW) (zYW K2.inv) K2.sz.begin).mono ?_
 rintro e w7 ⟨rfl,L3,K3⟩
 rw[s2,k3_c]
 have s3:(d0.begin.set 1 ⟨#[78]⟩ (yKk 5)).begin.σ=k3:=by show zJc (d0.begin.set 1 ⟨#[78]⟩ (yKk 5)).σ=_;rw[s2];rfl
 refine⟨_,rfl,Br.of (λc=>by cases c) λ_=>(xXP 6 w7).mono ?_⟩
 rintro e w8 ⟨rfl,bU⟩
 replace K3:=K3.on bU
 refine⟨_,_,_,rfl,?_⟩
 rw[←K2.ptr,K3.ptr]
 refine(K3.act (xY8 K3.at_ K3.inv (K3.sz.fit K3.inv hF (by omega)) 2 ⟨#[78]⟩ (yKk 6)) (yJ2 K3.inv _ _ _) (K3.sz.set _ _ _)).mono ?_
 rintro e w9 ⟨rfl,L4,K4⟩
 rw[s3,k4_c]
 obtain⟨d4,hd4⟩:∃d4,d4=(d0.begin.set 1 ⟨#[78]⟩ (yKk 5)).begin.set 2 ⟨#[78]⟩ (yKk 6):=⟨_,rfl⟩
 have s4:d4.σ=k4:=by rw[hd4,Dat.set_σ,s3];rfl
 rw[←hd4]at K4
 clear hd4
 refine⟨_,rfl,Br.of (λc=>by cases c) λ_=>?_⟩
 rw[←K3.ptr,K4.ptr]
 refine(K4.act (xVb K4.at_ K4.inv.l8) (yKd K4.inv) K4.sz.back).mono ?_
 rintro e aN ⟨rfl,L5,K5⟩
 rw[s4,k5_c]
 have s5:d4.back.σ=k5:=by show zVl d4.σ=_;rw[s4];rfl
 refine⟨_,rfl,Br.of (λc=>by cases c) λ_=>?_⟩
 rw[←K4.ptr,K5.ptr]
 refine(K5.act (end_c K5.at_ K5.inv (K5.sz.fit K5.inv hF (by omega))) (xQx K5.inv) K5.sz.end_).mono ?_
 rintro e aV ⟨rfl,L6,K6⟩
 rw[s5,k6_c]
 have s6:d4.back.end_.σ=k6:=by rw[Dat.end_σ,s5];rfl
 obtain⟨d6,hd6⟩:∃d6,d6=d4.back.end_:=⟨_,rfl⟩
 rw[←hd6]at K6 s6
 clear hd6
 refine⟨_,rfl,Br.of (λc=>by cases c) λ_=>?_⟩
 rw[K6.ptr]
 have hdone:d6.σ.done=[zYi [1,2],zYi [5,2]]:=by rw[s6,xYP]
 refine(yJk K6.at_ (λt ht=>(K6.inv.done t ht).ok) 1).mono ?_
 rintro e aO ⟨x,rfl,hx,dL⟩
 have eC:yJA d6.σ 1=0:=by unfold yJA;rw[hdone];rfl
 have eT:yZD d6.σ 1=zYi [5,2]:=by unfold yZD;rw[hdone];rfl
 rw[eC]
 rw[eT]at hx
 refine⟨_,x.f,x.r,_,rfl,alB λaI bl oO=>zQi oO zKZ.symm rfl rfl λbt iH oR _=>zQb λbr fh _=>?_⟩
 have fV:Pu aO bt:=bl.andNew oR λi hi=>by rw[show i=_ from hi];exact Nat.le_refl _
 have nq:=fV.trans fh
 have j4:=fh.blk iH
 have K7:=(K6.on dL).on nq
 have hx15:=hx.pu nq
 refine⟨λu=>Pu br u,Pu.refl _,Br.of (λ_=>(xXu K7.at_ (by rw[hdone];decide)).mono ?_) (λc=>by cases c)⟩
 rintro e bI ⟨rfl,dN⟩
 rw[hdone]
 refine⟨_,rfl,dN,Br.of (λ_=>⟨x.page,λu hu=>cl (hu.blk j4) 0,x.f,λu hu=>cl (hu.blk j4) 1,x.r,λu hu=>cl (hu.blk j4) 2,alB λbJ kL tF=>⟨dN.trans kL,(one_c (l:=[5,2]) (by decide) tF).mono ?_⟩⟩) (λc=>by cases c)⟩
 rintro e bR ⟨f2,q2,rfl,hO2,nw⟩
 have sJ:=(dN.trans kL).trans nw
 have hp_x:x.page=(zYi [5,2]).page:=hx.tab.page
 refine⟨_,f2,q2,rfl,sJ,?_⟩
 rw[hp_x]
 refine(zY7 ((hx15.pu sJ).rd v52) (hO2.rd (zX8 v52))).mono ?_
 rintro e cK ⟨rfl,hp19⟩
 rw[decide_eq_true rfl]
 have tI:=sJ.trans hp19
 refine⟨_,rfl,tI,Br.of (λ_=>⟨x.page,λu hu=>cl (hu.blk j4) 0,x.f,λu hu=>cl (hu.blk j4) 1,x.r,λu hu=>cl (hu.blk j4) 2,?_⟩) (λc=>by cases c)⟩
 have K8:=K7.on tI
 have e8:d6.σ.t=zYi [5,2]:=by rw[s6,k6_t]
 refine(zZA K8.at_ K8.inv.t.ok).mono ?_
 rintro e cj ⟨y,rfl,hy,iZ⟩
 rw[e8]at hy
 have hp_y:y.page=(zYi [5,2]).page:=hy.tab.page
 refine⟨_,y.f,y.r,rfl,tI.trans iZ,?_⟩
 rw[hp_x,hp_y]
 refine(zY7 (hy.rd v52) ((hx15.pu (tI.trans iZ)).rd v52)).mono ?_
 rintro e cr ⟨rfl,sB⟩
 rw[decide_eq_true rfl]
 exact⟨_,rfl,rfl,(K8.on (iZ.trans sB)).pu⟩
end Go.Proofs.YtaeecpjhfmcliaaGreatDoor
