import Derived.Test.YtcihcbfcgjepfaaGreatDoorBfOwH
import Derived.Test.YtcihcbfcgjepfaaGreatDoorBfPrB
import Derived.Test.YtcihcbfcgjepfaaGreatDoorBfOwG
import Derived.Test.YtcihcbfcgjepfaaGreatDoorBfClone
/- Desks: the reference's tables copied; a new desk of the reference. No condition but those stated. -/
set_option maxRecDepth 100000
set_option linter.unusedVariables false
set_option linter.unusedSimpArgs false
namespace Go.Proofs.YtcihcbfcgjepfaaGreatDoor
open Go.Sh Go.RowKit Tryz
variable {w w' : World} {d d' : zQs} {val : Nat -> List Val}
theorem zQK.lt:∀{hs:List zQx} {rs:List Rec},zQK w hs rs->∀b ∈ vB hs,b<w.heap.size
 | [],[],_,b,hb=>by simp[vB]at hb
 | x :: hs,y :: rs,⟨⟨_,h1⟩,h2⟩,b,hb=>by
  rw[zXl,List.mem_append]at hb
  rcases hb with hb|hb
  ·exact h1.lt b hb
  ·exact zQK.lt h2 b hb
theorem zXb.fr{B:Nat->Prop}{w0:World}{q:SV}{hs:List zQx}{rs:List Rec}(h:zXb w0 w q hs rs)(hf:Fr B w w')(hn:∀b,w0.heap.size<=b->¬B b):zXb w0 w' q hs rs:=
 ⟨h.row.fr hf λb hb=>hn b (h.new b hb),h.new,h.recs.fr hf λb hb=>hn b (h.vnew b hb).1,h.vnew,h.nd⟩
theorem zXb.push{w0 w1 w5:World}{q s':SV}{hs:List zQx}{rs:List Rec}{r:Rec}{b:Nat}(hq:zXb w0 w1 q hs rs)(hp:Pu w1 w5)(hz:w0.heap.size<=w1.heap.size)(hV:zZ8 w1 w5 s' r.v)
  (aP:w5.heap[b]?=some (.cells #[.bool r.gone,.slice s'.a s'.len s'.cap] 77)) (hlen:rs.length<=100000) :
  ∃(q':SV) (w6:World),(Builtin.append_ #[23,23] 23 #[.slice q.a q.len q.cap,.slice (some ⟨b,0,none⟩) 1 1]).run prog w5=.ok (.slice q'.a q'.len q'.cap) w6/\zXb w0 w6 q' (hs ++ [⟨r.gone,s'⟩]) (rs ++ [r])/\Fr (· ∈ zQb q) w5 w6:=by
 have hq5:=hq.pu hp
 have hql:=hq.row.len zQk (by decide)
 have hhl:=hq.recs.len
 have z5:=hp.size
 have hlt5:∀b ∈ zQb s',b<w5.heap.size:=hV.1.lt
 have hqlt:∀b ∈ zQb q,b<w1.heap.size:=hq.row.lt
 have hvlt:∀b ∈ vB hs,b<w1.heap.size:=hq.recs.lt
 obtain⟨q',w6,hra,iE,bb,dM,_⟩:=zQ6 (P:=prog) (ty:=23) xZy zJd rfl (by omega) hq5.row (A:=some ⟨b,0,none⟩) (m:=1) (c:=1) (news:=[.bool r.gone,.slice s'.a s'.len s'.cap]) rfl (λj x hx=>⟨_,rfl,by rw[cl aP];simpa using hx⟩) (λx hx=>by simp at hx;rcases hx with rfl|rfl <;> rfl) (by show(q.len+1) * (32+1)<=_;omega)
 refine⟨q',w6,hra,⟨?_,λb hb=>?_,?_,λb hb=>?_,?_⟩,bb⟩
 ·rw[List.flatMap_append,List.flatMap_singleton];exact iE
 ·rcases dM b hb with h1|h1
  ·exact hq.new b h1
  ·omega
 ·refine((hq5.recs).fr bb λb hb=>(hq.vnew b hb).2).push rfl (hV.1.fr bb λb hb hx=>?_)
  have:=hV.2 b hb
  have:=hqlt b hx
  omega
 ·rw[zYf,List.mem_append]at hb
  have hq':∀b,b ∈ zQb q'->b ∈ zQb q∨w5.heap.size<=b:=dM
  rcases hb with hb|hb
  ·have h1:=hq.vnew b hb
   refine⟨h1.1,λhx=>?_⟩
   rcases hq' b hx with h2|h2
   ·exact h1.2 h2
   ·have:=hvlt b hb;omega
  ·have hb:b ∈ zQb s':=hb
   have h1:=hV.2 b hb
   have h3:=hlt5 b hb
   refine⟨by omega,λhx=>?_⟩
   rcases hq' b hx with h2|h2
   ·have:=hqlt b h2;omega
   ·omega
 ·rw[zYf]
  refine List.nodup_append.2 ⟨hq.nd,zZT _,λa ha b hb e=>?_⟩
  subst e
  have hb:a ∈ zQb s':=hb
  have h1:=hV.2 a hb
  have:=hvlt a ha
  omega
theorem zV3 {w0 w:World} {R:Rt} {t:Tbl} {f r qf:SV} {r1 r2 r3:Nat} (hp:Pu w0 w) (hr:zXQ w0 r t.recs) (b1:w.heap[r1]?=some (.cells #[.int .i64 t.page,.slice f.a f.len f.cap,.slice r.a r.len r.cap] 25)) (b2:w.heap[r2]?=some (.cells #[.int .i64 0,.slice none 0 0,.slice none 0 0] 25))
  (b3:w.heap[r3]?=some (.cells #[.int .i64 t.page,.slice qf.a qf.len qf.cap,.slice none 0 0] 25)) (ba:r1 ≠ r3) (du:r2 ≠ r3) (z2:w0.heap.size<=r2) (z3:w0.heap.size<=r3) (hrl:t.recs.length<=100000) (hv:∀x ∈ t.recs,x.v.length<=1000000)
  (hR:∀w' qr hs,zXb w w' qr hs t.recs->Fr (λb=>b=r2∨b=r3) w w'->R (.returned (zY2 t qf qr)) w'):yYU R (some ⟨r1,0,none⟩) (some ⟨r2,0,none⟩) (some ⟨r3,0,none⟩) 0 [] w:=by
 have hlen:=hr.len
 have l3:=zQy b3
 have l2:=zQy b2
 refine zQ1 t.recs.length (λk s w'=>s=(k:Int)/\∃q hs,w'.heap[r3]?=some (.cells #[.int .i64 t.page,.slice qf.a qf.len qf.cap,.slice q.a q.len q.cap] 25)/\zXb w w' q hs (t.recs.take k)/\Fr (·=r3) w w')
  ⟨rfl,⟨none,0,0⟩,[],b3,⟨zQl.nil _ _ _,by simp[zQb],trivial,by simp[vB],by simp[vB]⟩,Fr.refl _ _⟩ ?_
 rintro k J s w1 hk ⟨hs,q,iJ,c3,hq,hf⟩ hJ
 obtain rfl:s=(k:Int):=hs
 have al:Pu w0 w1:=hp.andNew hf λi hi=>by rw[show i=r3 from hi];exact z3
 have c1:=hf.blk b1 ba
 have htl:=List.length_take_le k t.recs
 refine⟨r,cl c1 2,Br.of (λd1=>zQf λw2 aj _=>?_) (λd1=>?_)⟩
 ·have ak:k<t.recs.length:=by have:=zQm d1;omega
  obtain⟨x,hx⟩:=zXe ak
  obtain⟨a,s0,ha,g0,g1,hV⟩:=(hr.pu (al.trans aj)).get k x hx
  have e1:=aj.blk c1
  have e3:=aj.blk c3
  refine⟨λy=>Pu w2 y,Pu.refl _,q,λy hy=>cl (hy.blk e3) 2,r,λy hy=>cl (hy.blk e1) 2,a,ha,by omega,by omega,x.gone,λy hy=>hy.cell (by rw[zQI];exact g0),s0,λy hy=>hy.cell (by rw[zQI];exact g1),(zZo hV (hv x (List.mem_of_getElem? hx))).mono ?_⟩
  rintro e w4 ⟨s',rfl,hs',ar⟩
  refine⟨_,s',rfl,ar,alB λw5 aB aP=>⟨ar.trans aB,?_⟩⟩
  have aT:=(aj.trans ar).trans aB
  obtain⟨q',w6,hra,qg,bb⟩:=hq.push aT hf.size ((hs'.pu aB).low aj.size) aP (by omega)
  refine⟨q',w6,hra,?_⟩
  have nq:¬r3 ∈ zQb q:=λe=>by have:=hq.new _ e;omega
  rw[zQn,zQc]
  refine zQt (bb.blk (aT.blk c3) nq) (by show 0+2<3;omega) λw7 uG bQ=>?_
  have dg:Fr (·=r3) w6 w7:=by rw[uG];exact Fr.cell w6 _ _ _
  rw[zQd (by omega) (by omega)]
  refine hJ _ _ ak ⟨by omega,q',iJ ++ [⟨x.gone,s'⟩],bQ,?_,((hf.trans (Fr.pu aT:Fr (·=r3) w1 w5) λi hi _=>hi).trans bb λi hi hlt=>?_).trans dg λi hi _=>hi⟩
  ·rw[zQP hx]
   exact qg.fr dg λb hb e=>by have e:b=r3:=e;omega
  ·have:=hq.new i hi;omega
 ·have ak:k=t.recs.length:=by have:=zQh d1;omega
  subst ak
  rw[List.take_length]at hq
  have c2:=hf.blk b2 du
  refine⟨_,cl c3 0,qf,cl c3 1,q,cl c3 2,zQj c2 xJi.symm rfl rfl λw4 aZ bp _=>⟨_,cl aZ 0,qf,cl aZ 1,q,cl aZ 2,?_⟩⟩
  exact hR w4 q iJ (hq.fr bp λb hb e=>by have e:b=r2:=e;omega) ((hf.mono (B':=λb=>b=r2∨b=r3) λi hi _=>.inr hi).trans bp λi hi _=>.inl hi)
theorem cloneF_row{s:SV}{l:List Fld}(h:zXP w s l)(hb:l.length<=1000000):∃(q:SV) (w':World),(Builtin.append_ #[22,22] 22 #[.slice none 0 0,.slice s.a s.len s.cap]).run prog w=.ok (.slice q.a q.len q.cap) w'/\zQl w' 38 4 q (l.flatMap zKW)/\(∀b ∈ zQb q,w.heap.size<=b)/\Pu w w':=by
 have fl:∀f:Fld,(zKW f).length=4:=λf=>rfl
 have hlen:=h.len
 obtain⟨t,w2,hr,hrow,hf,hblk,_⟩:=zQ6 (P:=prog) (ty:=22) bu22 yVE rfl (by omega) (zQl.nil w 38 4) (A:=s.a) (m:=s.len) (c:=s.cap) (news:=l.flatMap zKW) (by rw[zQ0 fl,hlen]) (λj x hx=>by
  have hj:j<l.length * 4:=by have:=(List.getElem?_eq_some_iff.1 hx).1;rwa [zQ0 fl]at this
  obtain⟨v,hv⟩:=zXe (l:=l) (k:=j / 4) (by omega)
  obtain⟨a,ha,_,_,_,_,c0,c1,c2,c3⟩:=zZ2 h hv
  have h2:=zXU fl hv (j % 4) (by omega)
  rw[show j / 4 * 4+j % 4=j by omega,hx]at h2
  refine⟨a,ha,?_⟩
  have e:a.add j=(a.add (j / 4 * 4)).add (j % 4):=by
   rw[Addr.add_add];congr 1;omega
  rw[e]
  rcases(by omega:j % 4=0∨j % 4=1∨j % 4=2∨j % 4=3)with e2|e2|e2|e2 <;> rw[e2]at h2 ⊢ <;> simp[zKW]at h2 <;> subst h2 <;> assumption) (λx hx=>by
   obtain⟨y,_,hy⟩:=List.mem_flatMap.1 hx
   simp[zKW]at hy
   rcases hy with rfl|rfl|rfl|rfl <;> rfl) (by show(0+s.len) * (40+1)<=_;omega)
 rw[List.nil_append]at hrow
 refine⟨t,w2,hr,hrow,λb hb=>?_,(Pu.refl w).andNew hf λb hb=>by simp[zQb]at hb⟩
 rcases hblk b hb with h|h
 ·simp[zQb]at h
 ·exact h
theorem zVY{t:Tbl}{f r:SV}(hf:zXP w f t.fields)(hr:zXQ w r t.recs)(hfl:t.fields.length<=1000000)(hrl:t.recs.length<=100000)(hv:∀x ∈ t.recs,x.v.length<=1000000) :
  Calls prog 80 #[zY2 t f r] w λe w'=>∃qf qr hs,e=.returned (zY2 t qf qr)/\zQl w' 38 4 qf (t.fields.flatMap zKW)/\(∀b ∈ zQb qf,w.heap.size<=b)/\zXb w w' qr hs t.recs/\Pu w w':=by
 refine yVJ _ _ _ w _ (alB λw1 al ay=>alB λw2 aj ag=>zQf λw3 am _=>?_)
 have aF:=(al.trans aj).trans am
 have c1:=am.blk (aj.blk ay)
 have c2:=am.blk ag
 have l1:w.heap.size<w1.heap.size:=zQy ay
 have l2:w1.heap.size<w2.heap.size:=zQy ag
 have z3:=am.size
 refine⟨λy=>Pu w3 y,Pu.refl _,_,λy hy=>cl0 (hy.blk c1),f,λy hy=>cl (hy.blk c1) 1,?_,?_⟩
 ·obtain⟨qf,w4,hra,hrow,hnew,ar⟩:=cloneF_row (hf.pu aF) hfl
  refine⟨qf,w4,hra,ar,alB λw5 aB aP=>⟨ar.trans aB,zQj aP xJi.symm rfl rfl λw6 dx bb _=>?_⟩⟩
  have hp45:Pu w4 w6:=aB.andNew bb λi hi=>by rw[show i=w4.heap.size from hi];exact Nat.le_refl _
  have bm:=ar.trans hp45
  have z4:=ar.size
  refine zV3 (aF.trans bm) hr (bm.blk c1) (bm.blk c2) dx (by omega) (by omega) (by omega) (by omega) hrl hv λw' qr hs hN hF=>?_
  refine⟨qf,qr,hs,rfl,(hrow.pu hp45).fr hF λb hb e=>?_,λb hb=>?_,⟨hN.row,λb hb=>?_,hN.recs,λb hb=>⟨?_,(hN.vnew b hb).2⟩,hN.nd⟩,(aF.trans bm).andNew hF λi hi=>?_⟩
  ·have h1:=hnew b hb;have h2:=hrow.lt b hb;omega
  ·have h1:=hnew b hb;omega
  ·have:=hN.new b hb;have:=(aF.trans bm).size;omega
  ·have:=(hN.vnew b hb).1;have:=(aF.trans bm).size;omega
  ·omega
 ·refine alB λw5 aB aP=>⟨aB,?_⟩
  obtain⟨qf,w4,hra,hrow,hnew,ar⟩:=cloneF_row (hf.pu (aF.trans aB)) hfl
  refine⟨qf,w4,hra,aB.trans ar,zQj (ar.blk aP) xJi.symm rfl rfl λw6 dx bb _=>?_⟩
  have l5:w3.heap.size<w5.heap.size:=zQy aP
  have bm:Pu w3 w6:=(aB.trans ar).andNew bb λi hi=>by rw[show i=w3.heap.size from hi];exact Nat.le_refl _
  have z4:=ar.size
  refine zV3 (aF.trans bm) hr (bm.blk c1) (bm.blk c2) dx (by omega) (by omega) (by omega) (by omega) hrl hv λw' qr hs hN hF=>?_
  refine⟨qf,qr,hs,rfl,(hrow.fr bb λb hb e=>?_).fr hF λb hb e=>?_,λb hb=>?_,⟨hN.row,λb hb=>?_,hN.recs,λb hb=>⟨?_,(hN.vnew b hb).2⟩,hN.nd⟩,(aF.trans bm).andNew hF λi hi=>?_⟩
  ·have h1:=hnew b hb;have e:b=w3.heap.size:=e;omega
  ·have h1:=hnew b hb;omega
  ·have h1:=hnew b hb;omega
  ·have:=hN.new b hb;have:=(aF.trans bm).size;omega
  ·have:=(hN.vnew b hb).1;have:=(aF.trans bm).size;omega
  ·omega
def zJ1(S L:Nat)(t:Tbl)(fs rs:SV)(hs:List zQx):zQs where
 sd:=true
 o b:=if b=S then some .S else if b=L then some .L else if b ∈ zQb fs then some .F else if b ∈ zQb rs then some .R else if b ∈ vB hs then some .V else none
 S:=S
 L:=L
 C _:=0
 page:=t.page
 flds:=t.fields
 fs:=fs
 rs:=rs
 rh:=hs
 mode _:=0
 at_ _:=0
 asv _:=⟨none,0,0⟩
 ah _:=[]
 cs _:=⟨none,0,0⟩
 ch _:=[]
 lk _:=none
theorem xQL{t:Tbl}{f r:SV}(h:zJG w t f r):Calls prog 61 #[zY2 t f r] w λe w'=>Pu w w'/\(zQQ t ≠ 0->e=.returned (.tuple #[.pointer none,.int .i64 (zQQ t)]))/\
  (zQQ t=0->∃d val,e=.returned (.tuple #[d.ptr,.int .i64 0])/\zQr w' d val/\zQa d val=Dsk.new t/\∀b,d.o b ≠ none->w.heap.size<=b):=by
 refine yK9 _ _ _ w _ (alB λw1 al ay=>?_)
 refine⟨_,cl ay 0,f,cl ay 1,r,cl ay 2,(yQM (h.pu al)).mono ?_⟩
 rintro e w2 ⟨rfl,aj⟩
 have aG:=al.trans aj
 refine⟨_,rfl,Br.of (λc=>?_) (λc=>?_)⟩
 ·have c:=zQ4 c
  exact⟨aG,λ_=>rfl,λe=>absurd e c⟩
 have c:=zQu c
 have hI:=zVa c
 have ag:=aj.blk ay
 have f16:t.fields.length<=16:=hI.f16
 have r300:t.recs.length<=300:=hI.r300
 refine⟨_,cl ag 0,f,cl ag 1,r,cl ag 2,(zVY (h.fields.pu aG) (zXQ.of (h.recs.pu aG)) (by omega) (by omega) λx hx=>by have h1:=zQ2 (hI.gr x hx);have e:(Dsk.new t).flds.length=t.fields.length:=rfl;omega).mono ?_⟩
 rintro e w4 ⟨qf,qr,hs,rfl,hqf,hqn,hN,ar⟩
 refine⟨_,qf,qr,rfl,zXz λw5 hw5=>alB λw6 bx dx=>?_⟩
 have aB:Pu w4 w5:=by rw[hw5];exact Pu.alloc w4 _
 have s5:w5.heap.size=w4.heap.size+1:=by rw[hw5];simp
 have hm5:zQ3 w5 zQM zQM w4.heap.size ([]:List (Int × Int)):=by rw[hw5];exact zQ3.new w4 _ _
 have m8:=aB.trans bx
 have z02:=aG.size
 have z4:=ar.size
 have l6:w5.heap.size<w6.heap.size:=zQy dx
 have zf:∀b ∈ zQb qf,w2.heap.size<=b/\b<w4.heap.size:=λb hb=>⟨hqn b hb,hqf.lt b hb⟩
 have zr:∀b ∈ zQb qr,w2.heap.size<=b/\b<w4.heap.size:=λb hb=>⟨hN.new b hb,hN.row.lt b hb⟩
 have zv:∀b ∈ vB hs,w2.heap.size<=b/\b<w4.heap.size:=λb hb=>⟨(hN.vnew b hb).1,hN.recs.lt b hb⟩
 have apR:∀b ∈ zQb qr,b ∉ zQb qf:=zZO hN.row hqf (by decide)
 have apV:∀b ∈ vB hs,b ∉ zQb qf:=λb hb=>by
  obtain⟨x,hx,hxb⟩:=List.mem_flatMap.1 hb
  exact zZO (valOf_row hN.recs hN.nd x hx) hqf (by decide) b hxb
 have o0:∀{b:Nat},b<w4.heap.size->(zJ1 w5.heap.size w4.heap.size t qf qr hs).o b=if b ∈ zQb qf then some .F else if b ∈ zQb qr then some .R else if b ∈ vB hs then some .V else none:=λ{b} hb=>by
  show(if b=w5.heap.size then _ else if b=w4.heap.size then _ else _)=_
  rw[if_neg (by omega),if_neg (by omega)]
 have own:∀b,(zJ1 w5.heap.size w4.heap.size t qf qr hs).o b ≠ none->w2.heap.size<=b/\b<w6.heap.size:=λb hb=>by
  have hb:(if b=w5.heap.size then some zXx.S else if b=w4.heap.size then some .L else if b ∈ zQb qf then some .F else if b ∈ zQb qr then some .R else if b ∈ vB hs then some .V else none) ≠ none:=hb
  by_cases e1:b=w5.heap.size
  ·omega
  rw[if_neg e1]at hb
  by_cases e2:b=w4.heap.size
  ·omega
  rw[if_neg e2]at hb
  by_cases e4:b ∈ zQb qf
  ·have:=zf b e4;omega
  rw[if_neg e4]at hb
  by_cases e5:b ∈ zQb qr
  ·have:=zr b e5;omega
  rw[if_neg e5]at hb
  by_cases e6:b ∈ vB hs
  ·have:=zv b e6;omega
  rw[if_neg e6]at hb;exact absurd rfl hb
 have eAll:zQX (zJ1 w5.heap.size w4.heap.size t qf qr hs)=hs:=by simp[zQX,uH,chH,zJ1]
 have qg:=hN.pu m8
 refine⟨(aG.trans ar).trans m8,λe=>absurd c e,λ_=>⟨zJ1 w5.heap.size w4.heap.size t qf qr hs,zWj hs t.recs,rfl,⟨dx,?_,rfl⟩,?_,λb hb=>by have:=own b hb;omega⟩⟩
 ·refine⟨hqf.pu m8,qg.row,λu hu=>zQl.nil _ _ _,λe=>(by cases e),λ_ u hu=>zQl.nil _ _ _,⟨[],hm5.pu bx,λk=>rfl⟩,λx hx=>?_,λv hv=>⟨rfl,rfl⟩,by rw[eAll];exact hN.nd,?_,?_,λe=>(by cases e),λ_ u hu b hb=>by simp[zJ1,zQb]at hb,λb hb=>?_,λb hb=>?_,λu hu b hb=>by simp[zJ1,zQb]at hb,λb hb=>?_,λb hb=>(own b hb).2⟩
  ·rw[eAll]at hx;exact valOf_row qg.recs hN.nd x hx
  ·show(if w5.heap.size=w5.heap.size then _ else _)=_;rw[if_pos rfl]
  ·show(if w4.heap.size=w5.heap.size then _ else if w4.heap.size=w4.heap.size then _ else _)=_;rw[if_neg (by omega),if_pos rfl]
  ·replace hb:b ∈ zQb qf:=hb
   rw[o0 (zf b hb).2,if_pos hb]
  ·replace hb:b ∈ zQb qr:=hb
   rw[o0 (zr b hb).2,if_neg (apR b hb),if_pos hb]
  ·rw[eAll]at hb
   rw[o0 (zv b hb).2,if_neg (apV b hb),if_neg (hN.vnew b hb).2,if_pos hb]
 ·have e:=zKg hN.recs hN.nd
  simp only[zQa,zJ1,Dsk.new,e]
  rfl
theorem zQr.rdR (h:zQr w d val) (hI:Inv (zQa d val)):zXQ w d.rs (zQa d val).recs:=by
 refine⟨by rw[h.rs_len];simp[zQa],λi r hr=>?_⟩
 have hr:(d.rh.map (toR val))[i]?=some r:=hr
 rw[List.getElem?_map]at hr
 obtain⟨x,hx,rfl⟩:=Option.map_eq_some_iff.1 hr
 obtain⟨a,ha,_,h0⟩:=h.bd.rw_.elem zQk hx (o:=0) rfl
 obtain⟨a1,dm,_,h1⟩:=h.bd.rw_.elem zQk hx (o:=1) rfl
 rw[ha]at dm;cases dm
 exact⟨a,x.s,ha,h0,h1,(h.read hI (zQJ (List.mem_of_getElem? hx))).1⟩
theorem yY7 (h:zQr w d val) (hI:Inv (zQa d val)) :
  Calls prog 27 #[d.ptr] w λe w'=>∃f r:SV,e=.returned (zY2 (zQa d val).tbl f r)/\RdT w' (zQa d val).tbl f r/\Pu w w':=by
 refine yVL _ w _ (alB λw1 al ay=>?_)
 have h1:=h.pu al
 have jM:=hI.r300
 have dA:d.flds.length<=16:=hI.f16
 have hv:∀r ∈ (zQa d val).recs,r.v.length<=1000000:=λr hr=>by have h1:=zQ2 (hI.gr r hr);have e:(zQa d val).flds.length=d.flds.length:=rfl;omega
 refine⟨d.page,by rw[zKk];exact h1.page,d.fs,h1.flds,d.rs,h1.recs,(zVY (t:=(zQa d val).tbl) (h1.fld hI.vf) (h1.rdR hI) (by show d.flds.length<=_;omega) (by show(zQa d val).recs.length<=_;omega) hv).mono ?_⟩
 rintro e w3 ⟨qf,qr,hs,rfl,hqf,hqn,hN,am⟩
 have l1:w.heap.size<w1.heap.size:=zQy ay
 refine⟨_,qf,qr,rfl,zQj (am.blk ay) xJi.symm rfl rfl λw4 aZ bp _=>⟨_,cl aZ 0,qf,cl aZ 1,qr,cl aZ 2,qf,qr,rfl,⟨?_,?_⟩,(al.trans am).andNew bp λi hi=>by rw[show i=w.heap.size from hi];exact Nat.le_refl _⟩⟩
 ·exact yQF (hqf.fr bp λb hb e=>by have:=hqn b hb;have e:b=w.heap.size:=e;omega) (by show d.flds.length<=_;omega)
 ·have uW:=hN.fr bp λb hb e=>by have e:b=w.heap.size:=e;omega
  exact yVh uW.row uW.recs hv
end Go.Proofs.YtcihcbfcgjepfaaGreatDoor
/- Desks: Old of the program; what tells whether tables and numbers are equal. No condition but those stated. -/
namespace Go.Proofs.YtcihcbfcgjepfaaGreatDoor
open Go.Sh Go.RowKit Tryz
variable {w w' : World} {d d' : zQs} {val : Nat -> List Val}
theorem old_c (h:zQg w d 0 val) (hI:Inv (zQa d val)) (u k:Int) (field:ByteArray) :
  Calls prog 68 #[d.ptr,.int .i64 u,.int .i64 k,.string field] w λe w'=>e=.returned (.tuple #[zZh (oldR u k field (zQa d val)).1,.int .i64 (oldR u k field (zQa d val)).2])/\zQB w w' d d 0 val:=by
 refine yWl _ u k field w _ (alB λw1 al ay=>(zQU h al u).mono ?_)
 rintro e w2 ⟨rfl,h2,dh,fC⟩
 have z1:=al.size
 have lr:w.heap.size<w1.heap.size:=zQy ay
 have ho:d.o w.heap.size=none:=h.bd.out (Nat.le_refl _)
 have nS:¬w.heap.size=d.S:=λe=>by rw[e,h.bd.oS]at ho;cases ho
 have ag:=dh.blk ay nS
 refine⟨_,_,_,rfl,Br.of (λc=>?_) (λc=>?_)⟩
 ·have hu:=zJZ c
  have e1:uC u=1:=by rw[uC,if_neg hu]
  have e2:oldR u k field (zQa d val)=(noV,1):=by rw[oldR,if_pos hu]
  exact zVd h (Nat.le_refl _) h2 rfl ag noV (uC u) (by rw[e2,e1])
 have hu:=zKs c
 obtain⟨n,rfl,hn⟩:=zQY hu
 rw[zWf hn]
 refine(yWc h2.at_ hn k (by have:=hI.ah hn;omega) (by have:=hI.rh;omega)).mono ?_
 rintro e w5 ⟨rfl,aB⟩
 refine⟨_,_,_,rfl,alB λw6 bx dx=>zQj dx yQk.symm rfl rfl λw7 bQ dg _=>?_⟩
 have bU:Pu w2 w7:=(aB.trans bx).andNew dg λi hi=>by rw[show i=w5.heap.size from hi];exact aB.size
 have h7:=h2.pu bU
 have l6:w5.heap.size<w6.heap.size:=zQy dx
 have z7:=dg.size
 have z5:=aB.size
 refine⟨some (d.C n),h7.at_.uCh hn,_,(chG (d.ch n) k).1.s,_,(chG (d.ch n) k).2.s,_,w7,zYa (h7.at_.mp hn) k,alB λw9 bR kR=>zQj kR zYQ.symm rfl rfl λav bK c9 _=>?_⟩
 have kH:Pu w7 av:=bR.andNew c9 λi hi=>by rw[show i=w7.heap.size from hi];exact Nat.le_refl _
 have m5:=h7.pu kH
 have wm:=kH.blk bQ
 have eO:oldR (n:Int) k field (zQa d val)=valueR (zQa d val) (oldRec (zQa d val) n k) field:=by rw[oldR,if_neg (by simp[hu]),zQI]
 have es:seenR (zQa d val) n k=(zXy d n k).map (toR val):=(zKr d val n k).symm
 -- the end, with the record that is looked at
 have fin:∀{ao:World} {g:Bool} {s:SV} {l:List Val},yQ4 w ao d val->Pu w2 ao->((zXy d n k).isSome=true->RdV ao s l/\l.length=d.flds.length)->oldRec (zQa d val) n k=(if (zXy d n k).isSome then some ⟨g,l⟩else none)->ao.heap[w5.heap.size]?=some (.cells #[.bool g,.slice s.a s.len s.cap] 77)->
   ∃dK:Bool,ao.cell? ((⟨w5.heap.size,0,none⟩:Addr).add 0)=some (.bool dK)/\∃aO:SV,ao.cell? ((⟨w5.heap.size,0,none⟩:Addr).add 1)=some (.slice aO.a aO.len aO.cap)/\
   Calls prog 56 #[d.ptr,.agg #[.bool dK,.slice aO.a aO.len aO.cap],.bool (zXy d n k).isSome,.string field] ao λe aE=>∃bt:Int,∃bu:Int,∃bv:ByteArray,∃bN:Int,e=.returned (.tuple #[.agg #[.int .i64 bt,.int .i64 bu,.string bv],.int .i64 bN])/\
   stA prog 28 (⟨w.heap.size,0,none⟩:Addr) #[.int .i64 bt,.int .i64 bu,.string bv] aE λaI=>zQe prog [zX3 d] aI λaD=>∃aa:Int,aD.cell? ((⟨w.heap.size,0,none⟩:Addr).add 0)=some (.int .i64 aa)/\∃ac:Int,aD.cell? ((⟨w.heap.size,0,none⟩:Addr).add 1)=some (.int .i64 ac)/\
   ∃ae:ByteArray,aD.cell? ((⟨w.heap.size,0,none⟩:Addr).add 2)=some (.string ae)/\(Ending.returned (.tuple #[.agg #[.int .i64 aa,.int .i64 ac,.string ae],.int .i64 bN])=.returned (.tuple #[zZh (oldR (n:Int) k field (zQa d val)).1,.int .i64 (oldR (n:Int) k field (zQa d val)).2])/\zQB w aD d d 0 val):=λ{ao g s l} qY cV hs heq bL=>by
  refine⟨g,cl bL 0,s,cl bL 1,(yXt qY.at_ hI.vf (g:=g) (b:=(zXy d n k).isSome) (s:=s) (l:=l) hs field).mono ?_⟩
  rintro e aE ⟨rfl,aQ⟩
  refine⟨_,_,_,_,rfl,?_⟩
  exact zVd h (Nat.le_refl _) (qY.pu aQ) rfl ((cV.trans aQ).blk ag) _ _ (by rw[eO,heq])
 refine Br.of (λc1=>?_) (λc1=>Br.of (λc2=>Br.of (λc3=>?_) (λc3=>?_)) (λc2=>?_))
 ·obtain⟨cc,hcc⟩:=Option.isSome_iff_exists.1 c1
  have eG:chG (d.ch n) k=cc:=by rw[chG,hcc];rfl
  rw[eG]at bK
  have mc:=zXA hn (AL.get_mem hcc)
  have hkr:=(hI.gc n hn (toC val (k,cc)) (List.mem_map.2 ⟨_,AL.get_mem hcc,rfl⟩)).2
  have hkr:1<=k:=hkr.1
  refine⟨_,cl bK 0,cc.1.s,cl bK 1,zQj wm yQk.symm rfl rfl λao bL cQ _=>?_⟩
  have jN:Pu w2 ao:=(bU.trans kH).andNew cQ λi hi=>by rw[show i=w5.heap.size from hi];exact z5
  have qY:=h2.pu jN
  refine fin qY jN (λ_=>qY.at_.read hI mc.1) ?_ bL
  unfold oldRec
  rw[es]
  cases zXy d n k with
  | none=>rfl
  | some x=>
   simp only[Option.map_some,if_neg (show ¬k<0 by omega),zZ4,hcc,Option.isSome_some,if_true]
   rfl
 ·have c1:AL.get (d.ch n) k=none:=by simpa using c1
  have c3:=zQm c3
  refine⟨d.fs,m5.at_.flds,(yKC (m5.at_.fld hI.vf) (zWo hI.vf)).mono ?_⟩
  rintro e br ⟨q,rfl,hq,rP⟩
  have eB:zWE d.flds=d.flds.map zQ9:=by unfold zWE;rw[if_pos (show zQW d.flds=0 from hI.vf)]
  rw[eB]at hq
  refine⟨_,q,_,rfl,zQj (rP.blk wm) yQk.symm rfl rfl λao bL cQ _=>?_⟩
  have jN:Pu w2 ao:=((bU.trans kH).trans rP).andNew cQ λi hi=>by rw[show i=w5.heap.size from hi];exact z5
  have dA:d.flds.length<=16:=hI.f16
  have z11:=kH.size
  refine fin (l:=d.flds.map zQ9) (h2.pu jN) jN (λ_=>⟨(hq.fr cQ λb hb e=>by have:=hq.2 b hb;have e:b=w5.heap.size:=e;omega).rd (by simp;omega),by simp⟩) ?_ bL
  unfold oldRec
  rw[es]
  cases zXy d n k with
  | none=>rfl
  | some x=>
   simp only[Option.map_some,if_pos c3,Option.isSome_some,if_true]
   rfl
 ·have c1:AL.get (d.ch n) k=none:=by simpa using c1
  have c3:=zQh c3
  obtain⟨x,hx⟩:=Option.isSome_iff_exists.1 c2
  have hr:=m5.at_.read hI (yQw hn hx)
  refine fin (l:=hv val ((zXy d n k).getD h0)) m5 (bU.trans kH) (λ_=>by rw[hx];exact hr) ?_ wm
  unfold oldRec
  rw[es,hx]
  simp only[Option.map_some,if_neg c3,zZ4,c1,Option.map_none,Option.isSome_some,if_true,Option.getD_some]
  rfl
 ·have c2:(zXy d n k).isSome=false:=c2
  have e0:zXy d n k=none:=by simpa using c2
  refine fin (l:=[]) m5 (bU.trans kH) (λe=>by rw[c2]at e;cases e) ?_ wm
  unfold oldRec
  rw[es,e0];rfl
theorem yWo{a b:Tbl}{fa ra fb rb:SV}(ha:RdT w a fa ra)(hb:RdT w b fb rb)(hlm:a.recs.length<=1000000):Calls prog 23 #[zY2 a fa ra,zY2 b fb rb] w λe w'=>e=.returned (.bool (decide (a=b)))/\Pu w w':=by
 have tbl_eq:(a=b) ↔ (a.page=b.page/\a.fields=b.fields/\a.recs=b.recs):=by
  obtain⟨a1,a2,a3⟩:=a;obtain⟨b1,b2,b3⟩:=b;simp
 refine yWQ _ _ _ _ _ _ w _ (alB λw1 al ay=>alB λw2 aj ag=>?_)
 have aG:=al.trans aj
 have q1:∀{wz},Pu w2 wz->wz.heap[w.heap.size]?=_:=λ{wz} (h:Pu w2 wz)=>h.blk (aj.blk ay)
 have q2:∀{wz},Pu w2 wz->wz.heap[w1.heap.size]?=_:=λ{wz} (h:Pu w2 wz)=>h.blk ag
 have no:∀{w':World},Pu w2 w'->a ≠ b->(Ending.returned (.bool false)=.returned (.bool (decide (a=b)))/\Pu w w'):=λh hne=>⟨by rw[decide_eq_false hne],aG.trans h⟩
 refine⟨_,cl0 (q1 (Pu.refl _)),_,cl0 (q2 (Pu.refl _)),Br.of (λd=>no (Pu.refl _) λe=>zQ4 d (by rw[e])) (λd=>⟨fa,cl (q1 (Pu.refl _)) 1,fb,cl (q2 (Pu.refl _)) 1,(zY6 (ha.fl.pu aG) (hb.fl.pu aG)).mono ?_⟩)⟩
 have hpg:=zQu d
 rintro e w3 ⟨rfl,am⟩
 refine⟨_,rfl,Br.of (λd1=>no am λe=>by rw[e]at d1;simp at d1) (λd1=>⟨ra,cl (q1 am) 2,rb,cl (q2 am) 2,?_⟩)⟩
 have hfl:a.fields=b.fields:=by simpa using d1
 have hla:=ha.rc.len
 have hlb:=hb.rc.len
 refine Br.of (λd2=>no am λe=>zQ4 d2 (by rw[hla,hlb,e])) (λd2=>?_)
 have hlen:a.recs.length=b.recs.length:=by have:=zQu d2;omega
 refine zQ1 a.recs.length (λk t w'=>t=(k:Int)/\a.recs.take k=b.recs.take k/\Pu w2 w') ⟨rfl,by simp,am⟩ ?_
 rintro k J t w4 hk ⟨ht,he,hp⟩ hJ
 obtain rfl:t=(k:Int):=ht
 refine⟨ra,cl (q1 hp) 2,Br.of (λd3=>zQf λw5 aB _=>?_) (λd3=>?_)⟩
 ·have ak:k<a.recs.length:=by have:=zQm d3;omega
  have p5:=hp.trans aB
  obtain⟨x,hx⟩:=zXe ak
  obtain⟨y,hy⟩:=zXe (show k<b.recs.length by omega)
  obtain⟨p,sx,hpa,x0,x1,vx⟩:=(ha.rc.pu (aG.trans p5)).get k x hx
  obtain⟨q,sy,hqa,y0,y1,vy⟩:=(hb.rc.pu (aG.trans p5)).get k y hy
  refine⟨ra,cl (q1 p5) 2,p,hpa,by omega,by omega,_,by rw[zQI];exact x0,sx,by rw[zQI];exact x1,rb,cl (q2 p5) 2,q,hqa,by omega,by omega,_,by rw[zQI];exact y0,sy,by rw[zQI];exact y1,(zZ1 vx vy).mono ?_⟩
  rintro e w6 ⟨rfl,bx⟩
  refine⟨_,rfl,Br.of (λd4=>no (p5.trans bx) λe=>?_) (λd4=>?_)⟩
  ·have:x=y:=by rw[e]at hx;rw[hx]at hy;exact Option.some.inj hy
   subst this
   simp at d4
  ·rw[zQd (by omega) (by omega)]
   have hxy:x=y:=by
    rw[zVz]
    simpa using d4
   exact hJ _ _ ak ⟨by omega,zXW he hx hy hxy,p5.trans bx⟩
 ·have ak:k=a.recs.length:=by have:=zQh d3;omega
  subst ak
  rw[List.take_length,hlen,List.take_length]at he
  exact⟨by rw[decide_eq_true (tbl_eq.2 ⟨hpg,hfl,he⟩)],aG.trans hp⟩
end Go.Proofs.YtcihcbfcgjepfaaGreatDoor
/- Desks that are equal but for the order of the changes in a buffer: every call tells the same, and leaves such desks. In plain words. No condition but those stated. -/
namespace Go.Proofs.YtcihcbfcgjepfaaGreatDoor
open Go.Sh Go.RowKit Tryz
def Ech (l m:List (Int × (Rec × Rec))):Prop:=(∀k,AL.get l k=AL.get m k)/\l.length=m.length
theorem Ech.refl (l:List (Int × (Rec × Rec))):Ech l l:=⟨λ_=>rfl,rfl⟩
theorem zKC:∀(l:List (Int × (Rec × Rec))) (k:Int) (v:Rec × Rec),(AL.put l k v).length=if (AL.get l k).isSome then l.length else l.length+1
 | [],k,v=>rfl
 | (a,b) :: l,k,v=>by
  simp only[AL.put,AL.get]
  by_cases e:a=k
  ·simp[e]
  ·simp only[if_neg e,List.length_cons,zKC l k v]
   split <;> rfl
theorem Ech.put {l m:List (Int × (Rec × Rec))} (h:Ech l m) (k:Int) (v:Rec × Rec):Ech (AL.put l k v) (AL.put m k v):=
 ⟨λx=>by rw[AL.get_put,AL.get_put,h.1],by rw[zKC,zKC,h.1,h.2]⟩
theorem yW0:∀{l:List (Int × (Rec × Rec))} {c:Int × (Rec × Rec)},c ∈ l->(AL.get l c.1).isSome=true
 | [],c,h=>by cases h
 | (a,b) :: l,c,h=>by
  simp only[AL.get]
  by_cases e:a=c.1
  ·simp[e]
  ·rw[if_neg e]
   rcases List.mem_cons.1 h with h|h
   ·rw[h]at e;exact absurd rfl e
   ·exact yW0 h
theorem Ech.any {l m:List (Int × (Rec × Rec))} (h:Ech l m) (f:Int->Bool):(l.any λc=>f c.1)=(m.any λc=>f c.1):=by
 have key:∀{l m:List (Int × (Rec × Rec))},Ech l m->(l.any λc=>f c.1)=true->(m.any λc=>f c.1)=true:=λ{l m} h h1=>by
  obtain⟨c,hc,hf⟩:=List.any_eq_true.1 h1
  have h2:=yW0 hc
  rw[h.1]at h2
  obtain⟨v,hv⟩:=Option.isSome_iff_exists.1 h2
  exact List.any_eq_true.2 ⟨(c.1,v),AL.get_mem hv,hf⟩
 have sy:Ech m l:=⟨λk=>(h.1 k).symm,h.2.symm⟩
 cases e:m.any λc=>f c.1 with
 | true=>exact key sy e
 | false=>
  cases e2:l.any λc=>f c.1 with
  | false=>rfl
  | true=>rw[key h e2]at e;cases e
structure Eu(x y:Usr):Prop where
 md:x.mode=y.mode
 at_:x.at_=y.at_
 ap:x.ap=y.ap
 ch:Ech x.ch y.ch
theorem Eu.refl(x:Usr):Eu x x:=⟨rfl,rfl,rfl,Ech.refl _⟩
structure Eqv(σ ρ:Dsk):Prop where
 pg:σ.page=ρ.page
 fl:σ.flds=ρ.flds
 rc:σ.recs=ρ.recs
 lk:σ.lk=ρ.lk
 us:∀u,Eu (σ.us u) (ρ.us u)
theorem Eqv.refl(σ:Dsk):Eqv σ σ:=⟨rfl,rfl,rfl,rfl,λ_=>Eu.refl _⟩
variable {σ ρ : Dsk} {x y : Usr}
theorem Eu.emp(h:Eu x y):x.emp=y.emp:=by unfold Usr.emp;rw[h.ch.2,h.ap]
theorem Eu.rows(h:Eu x y):x.rows=y.rows:=by unfold Usr.rows;rw[h.md]
theorem Eqv.setU(h:Eqv σ ρ)(u:Nat)(k:Eu x y):Eqv (σ.setU u x) (ρ.setU u y):=⟨h.pg,h.fl,h.rc,h.lk,λv=>by
 show Eu (if v=u then x else σ.us v) (if v=u then y else ρ.us v)
 split
 ·exact k
 ·exact h.us v⟩
theorem Eqv.modeC(h:Eqv σ ρ)(u m:Int):modeC u m σ=modeC u m ρ:=by unfold Proofs.YtcihcbfcgjepfaaGreatDoor.modeC;rw[(h.us _).emp]
theorem Eqv.modeS(h:Eqv σ ρ)(u m:Int):Eqv (modeS u m σ) (modeS u m ρ):=by
 unfold Proofs.YtcihcbfcgjepfaaGreatDoor.modeS
 rw[h.modeC]
 split
 ·exact h.setU _ ⟨rfl,(h.us _).at_,(h.us _).ap,(h.us _).ch⟩
 ·exact h
theorem Eqv.seenR(h:Eqv σ ρ)(u:Nat)(k:Int):seenR σ u k=seenR ρ u k:=by unfold Proofs.YtcihcbfcgjepfaaGreatDoor.seenR;rw[(h.us u).ap,h.rc,(h.us u).ch.1]
theorem Eqv.recK(h:Eqv σ ρ)(k:Int):recK σ k=recK ρ k:=by unfold Proofs.YtcihcbfcgjepfaaGreatDoor.recK;rw[h.rc]
theorem Eqv.keysU(h:Eqv σ ρ)(u:Nat):keysU σ u=keysU ρ u:=by
 unfold Proofs.YtcihcbfcgjepfaaGreatDoor.keysU
 rw[h.rc]
 exact List.filter_congr λi _=>by rw[(h.us u).ch.1]
theorem Eqv.clashK(h:Eqv σ ρ)(u:Nat):clashK σ u=clashK ρ u:=by
 unfold Proofs.YtcihcbfcgjepfaaGreatDoor.clashK
 rw[h.rc]
 exact List.filter_congr λi _=>by rw[(h.us u).ch.1,h.recK]
theorem Eqv.busyB(h:Eqv σ ρ)(u:Nat):busyB σ u=busyB ρ u:=by
 unfold Proofs.YtcihcbfcgjepfaaGreatDoor.busyB
 rw[h.lk]
 exact(h.us u).ch.any λk=>match ρ.lk k with
  | some v=>!decide (v=(u:Int))
  | none=>false
theorem Eqv.storeC(h:Eqv σ ρ)(u:Nat)(f:Bool):storeC u f σ=storeC u f ρ:=by unfold Proofs.YtcihcbfcgjepfaaGreatDoor.storeC;rw[h.clashK,h.busyB]
theorem Eqv.storeL(h:Eqv σ ρ)(u:Nat):storeL u σ=storeL u ρ:=by unfold Proofs.YtcihcbfcgjepfaaGreatDoor.storeL;rw[(h.us u).ap,h.rc]
theorem Ech.apply {l m:List (Int × (Rec × Rec))} (h:Ech l m) (r:List Rec):zXo l r=zXo m r:=by
 unfold zXo
 congr 1
 funext i r
 rw[h.1]
theorem Eqv.clean(h:Eqv σ ρ)(u:Nat):Eqv (zXB u σ) (zXB u ρ):=by
 have k:=h.setU u (x:={ σ.us u with ch:=[],ap:=[] }) (y:={ ρ.us u with ch:=[],ap:=[] }) ⟨(h.us u).md,(h.us u).at_,rfl,Ech.refl _⟩
 exact⟨k.pg,k.fl,k.rc,by show(λk=>if σ.lk k=some (u:Int)then none else σ.lk k)=_;rw[h.lk];rfl,k.us⟩
theorem Eqv.storedS(h:Eqv σ ρ)(u:Nat):Eqv (storedS u σ) (storedS u ρ):=by
 unfold Proofs.YtcihcbfcgjepfaaGreatDoor.storedS
 refine Eqv.clean ?_ u
 refine Eqv.setU ?_ u ?_
 ·exact⟨h.pg,h.fl,by show zXo _ σ.recs ++ _=zXo _ ρ.recs ++ _;rw[h.rc,(h.us u).ap,(h.us u).ch.apply],h.lk,h.us⟩
 ·refine⟨(h.us u).md,?_,(h.us u).ap,(h.us u).ch⟩
  show(if (σ.us u).at_<0 then(σ.recs.length:Int) - (σ.us u).at_ else(σ.us u).at_)=(if (ρ.us u).at_<0 then(ρ.recs.length:Int) - (ρ.us u).at_ else(ρ.us u).at_)
  rw[h.rc,(h.us u).at_]
theorem Eqv.storeS(h:Eqv σ ρ)(u:Nat)(f:Bool):Eqv (storeS u f σ) (storeS u f ρ):=by
 unfold Proofs.YtcihcbfcgjepfaaGreatDoor.storeS
 rw[h.storeC]
 split
 ·exact h.storedS u
 ·exact h
theorem Eqv.leaveC(h:Eqv σ ρ)(u:Nat):leaveC u σ=leaveC u ρ:=by unfold Proofs.YtcihcbfcgjepfaaGreatDoor.leaveC;rw[(h.us u).rows,(h.us u).emp,h.storeC]
theorem Eqv.leaveS(h:Eqv σ ρ)(u:Nat):Eqv (leaveS u σ) (leaveS u ρ):=by
 unfold Proofs.YtcihcbfcgjepfaaGreatDoor.leaveS
 rw[(h.us u).rows,(h.us u).emp]
 split
 ·exact h
 ·exact h.storeS u false
theorem Eqv.storeE(h:Eqv σ ρ)(u:Int)(f:Bool):storeE u f σ=storeE u f ρ:=by unfold Proofs.YtcihcbfcgjepfaaGreatDoor.storeE;rw[h.storeC]
theorem Eqv.storeEL(h:Eqv σ ρ)(u:Int)(f:Bool):storeEL u f σ=storeEL u f ρ:=by unfold Proofs.YtcihcbfcgjepfaaGreatDoor.storeEL;rw[h.storeE,h.storeL]
theorem Eqv.storeES(h:Eqv σ ρ)(u:Int)(f:Bool):Eqv (storeES u f σ) (storeES u f ρ):=by
 unfold Proofs.YtcihcbfcgjepfaaGreatDoor.storeES
 split
 ·exact h.storeS _ f
 ·exact h
theorem Eqv.goC(h:Eqv σ ρ)(u k:Int):goC u k σ=goC u k ρ:=by unfold Proofs.YtcihcbfcgjepfaaGreatDoor.goC;rw[h.seenR,(h.us _).at_,h.leaveC]
theorem Eqv.at_(h:Eqv σ ρ)(u:Nat)(k:Int):Eqv (σ.setU u { σ.us u with at_:=k }) (ρ.setU u { ρ.us u with at_:=k }):=h.setU u ⟨(h.us u).md,rfl,(h.us u).ap,(h.us u).ch⟩
theorem Eqv.goS(h:Eqv σ ρ)(u k:Int):Eqv (goS u k σ) (goS u k ρ):=by
 unfold Proofs.YtcihcbfcgjepfaaGreatDoor.goS
 rw[h.goC]
 split
 ·exact h
 ·show Eqv (Dsk.setU (if k=(σ.us u.toNat).at_ then σ else Proofs.YtcihcbfcgjepfaaGreatDoor.leaveS u.toNat σ) _ _) (Dsk.setU (if k=(ρ.us u.toNat).at_ then ρ else Proofs.YtcihcbfcgjepfaaGreatDoor.leaveS u.toNat ρ) _ _)
  rw[(h.us u.toNat).at_]
  split
  ·exact h.at_ _ k
  ·exact(h.leaveS _).at_ _ k
theorem Eqv.allN(h:Eqv σ ρ):allN σ=allN ρ:=by unfold Proofs.YtcihcbfcgjepfaaGreatDoor.allN;rw[h.rc,(h.us 0).ap,(h.us 1).ap,(h.us 2).ap,(h.us 3).ap]
theorem Eqv.appC(h:Eqv σ ρ)(u:Int):appC u σ=appC u ρ:=by unfold Proofs.YtcihcbfcgjepfaaGreatDoor.appC;rw[h.leaveC,(h.leaveS _).allN]
theorem Eqv.blankR(h:Eqv σ ρ):blankR σ=blankR ρ:=by unfold Proofs.YtcihcbfcgjepfaaGreatDoor.blankR;rw[h.fl]
theorem Eqv.appendedS(h:Eqv σ ρ)(u:Nat):Eqv (appendedS u σ) (appendedS u ρ):=by
 unfold Proofs.YtcihcbfcgjepfaaGreatDoor.appendedS
 rw[(h.us u).md,h.blankR,h.rc,(h.us u).ap]
 split
 ·refine Eqv.setU ?_ u ?_
  ·exact⟨h.pg,h.fl,rfl,h.lk,h.us⟩
  ·exact⟨by first|rfl|exact(h.us u).md,rfl,by first|rfl|exact(h.us u).ap,(h.us u).ch⟩
 ·refine h.setU u ?_
  exact⟨by first|rfl|exact(h.us u).md,rfl,rfl,(h.us u).ch⟩
theorem Eqv.appS(h:Eqv σ ρ)(u:Int):Eqv (appS u σ) (appS u ρ):=by
 unfold Proofs.YtcihcbfcgjepfaaGreatDoor.appS
 rw[h.leaveC,(h.leaveS _).allN]
 split
 ·exact h
 ·split
  ·exact h
  ·split
   ·exact h.leaveS _
   ·exact(h.leaveS _).appendedS _
theorem Eqv.appN(h:Eqv σ ρ)(u:Int):appN u σ=appN u ρ:=by unfold Proofs.YtcihcbfcgjepfaaGreatDoor.appN;rw[h.appC,((h.appS u).us _).at_]
theorem Eqv.lockC(h:Eqv σ ρ)(u:Nat):lockC u σ=lockC u ρ:=by
 show(if (σ.us u).mode=2∨(σ.us u).mode=4∨(σ.us u).at_<0 then(0:Int)else match σ.lk (σ.us u).at_ with|some v=>if v=(u:Int)then 0 else 12|none=>0)=(if (ρ.us u).mode=2∨(ρ.us u).mode=4∨(ρ.us u).at_<0 then(0:Int)else match ρ.lk (ρ.us u).at_ with|some v=>if v=(u:Int)then 0 else 12|none=>0)
 rw[(h.us u).md,(h.us u).at_,h.lk]
theorem Eqv.lockS(h:Eqv σ ρ)(u:Nat):Eqv (lockS u σ) (lockS u ρ):=by
 show Eqv (if (σ.us u).mode=2∨(σ.us u).mode=4∨(σ.us u).at_<0∨(σ.us u).mode=0 then σ else { σ with lk:=λk=>if k=(σ.us u).at_ then some (u:Int)else σ.lk k }) (if (ρ.us u).mode=2∨(ρ.us u).mode=4∨(ρ.us u).at_<0∨(ρ.us u).mode=0 then ρ else { ρ with lk:=λk=>if k=(ρ.us u).at_ then some (u:Int)else ρ.lk k })
 rw[(h.us u).md,(h.us u).at_,h.lk]
 split
 ·exact h
 ·exact⟨h.pg,h.fl,h.rc,rfl,h.us⟩
theorem Eqv.alterS(h:Eqv σ ρ)(u:Nat)(f:Rec->Rec):Eqv (alterS u f σ) (alterS u f ρ):=by
 show Eqv (if (σ.us u).at_<0 then _ else if (σ.us u).mode=0 then _ else _) (if (ρ.us u).at_<0 then _ else if (ρ.us u).mode=0 then _ else _)
 rw[(h.us u).md,(h.us u).at_,(h.us u).ap,h.rc,(h.us u).ch.1,h.recK]
 split
 ·refine h.setU u ?_
  exact⟨by first|rfl|exact(h.us u).md,by first|rfl|exact(h.us u).at_,rfl,(h.us u).ch⟩
 ·split
  ·exact⟨h.pg,h.fl,rfl,h.lk,h.us⟩
  ·refine(h.lockS u).setU u ?_
   exact⟨by first|rfl|exact(h.us u).md,by first|rfl|exact(h.us u).at_,by first|rfl|exact(h.us u).ap,(h.us u).ch.put _ _⟩
theorem Eqv.setC(h:Eqv σ ρ)(u:Int)(nm:ByteArray)(v:Val):setC u nm v σ=setC u nm v ρ:=by unfold Proofs.YtcihcbfcgjepfaaGreatDoor.setC;rw[(h.us _).at_,h.fl,h.pg,h.lockC]
theorem Eqv.setS(h:Eqv σ ρ)(u:Int)(nm:ByteArray)(v:Val):Eqv (setS u nm v σ) (setS u nm v ρ):=by
 unfold Proofs.YtcihcbfcgjepfaaGreatDoor.setS
 rw[h.setC,h.fl,h.pg]
 split
 ·split
  ·exact h
  ·exact h.alterS _ _
 ·exact h
theorem Eqv.markC(h:Eqv σ ρ)(u:Int):markC u σ=markC u ρ:=by unfold Proofs.YtcihcbfcgjepfaaGreatDoor.markC;rw[(h.us _).at_,h.lockC]
theorem Eqv.markS(h:Eqv σ ρ)(u:Int)(g:Bool):Eqv (markS u g σ) (markS u g ρ):=by
 unfold Proofs.YtcihcbfcgjepfaaGreatDoor.markS
 rw[h.markC]
 split
 ·exact h.alterS _ _
 ·exact h
theorem Eqv.valueR(h:Eqv σ ρ)(r:Option Rec)(nm:ByteArray):valueR σ r nm=valueR ρ r nm:=by unfold Proofs.YtcihcbfcgjepfaaGreatDoor.valueR;rw[h.fl]
theorem Eqv.getR(h:Eqv σ ρ)(u k:Int)(nm:ByteArray):getR u k nm σ=getR u k nm ρ:=by unfold Proofs.YtcihcbfcgjepfaaGreatDoor.getR;rw[h.valueR,h.seenR]
theorem Eqv.oldRec(h:Eqv σ ρ)(u:Nat)(k:Int):oldRec σ u k=oldRec ρ u k:=by unfold Proofs.YtcihcbfcgjepfaaGreatDoor.oldRec;rw[h.seenR,h.blankR,(h.us u).ch.1]
theorem Eqv.oldR(h:Eqv σ ρ)(u k:Int)(nm:ByteArray):oldR u k nm σ=oldR u k nm ρ:=by unfold Proofs.YtcihcbfcgjepfaaGreatDoor.oldR;rw[h.valueR,h.oldRec]
theorem Eqv.nowR(h:Eqv σ ρ)(k:Int)(nm:ByteArray):nowR k nm σ=nowR k nm ρ:=by unfold Proofs.YtcihcbfcgjepfaaGreatDoor.nowR;rw[h.valueR,h.recK,h.rc]
theorem Eqv.changedL(h:Eqv σ ρ)(u:Int):changedL u σ=changedL u ρ:=by unfold Proofs.YtcihcbfcgjepfaaGreatDoor.changedL;rw[h.keysU,(h.us _).ap]
theorem Eqv.clashesL(h:Eqv σ ρ)(u:Int):clashesL u σ=clashesL u ρ:=by unfold Proofs.YtcihcbfcgjepfaaGreatDoor.clashesL;rw[h.clashK]
theorem Eqv.lockedR(h:Eqv σ ρ)(k:Int):lockedR k σ=lockedR k ρ:=by unfold Proofs.YtcihcbfcgjepfaaGreatDoor.lockedR;rw[h.rc,h.lk]
theorem Eqv.revertU(h:Eqv σ ρ)(u:Nat):Eqv (revertU u σ) (revertU u ρ):=by
 unfold Proofs.YtcihcbfcgjepfaaGreatDoor.revertU
 refine Eqv.clean ?_ u
 refine h.setU u ?_
 refine⟨(h.us u).md,?_,(h.us u).ap,(h.us u).ch⟩
 show(if (σ.us u).at_<0 then(0:Int)else(σ.us u).at_)=(if (ρ.us u).at_<0 then(0:Int)else(ρ.us u).at_)
 rw[(h.us u).at_]
theorem Eqv.revertN(h:Eqv σ ρ)(u:Int):revertN u σ=revertN u ρ:=by unfold Proofs.YtcihcbfcgjepfaaGreatDoor.revertN;rw[(h.us _).ch.2,(h.us _).ap]
theorem Eqv.revertS(h:Eqv σ ρ)(u:Int):Eqv (revertS u σ) (revertS u ρ):=by
 unfold Proofs.YtcihcbfcgjepfaaGreatDoor.revertS
 split
 ·exact h.revertU _
 ·exact h
theorem Eqv.fallS(h:Eqv σ ρ)(u:Int):Eqv (fallS u σ) (fallS u ρ):=by
 unfold Proofs.YtcihcbfcgjepfaaGreatDoor.fallS
 split
 ·have k:=h.revertU u.toNat
  exact k.setU _ ⟨rfl,rfl,(k.us _).ap,(k.us _).ch⟩
 ·exact h
end Go.Proofs.YtcihcbfcgjepfaaGreatDoor
/- Desks: the program's copy of a desk. No condition but those stated. -/
namespace Go.Proofs.YtcihcbfcgjepfaaGreatDoor
open Go.Sh Go.RowKit Tryz
variable {w w' : World} {d d' : zQs} {val : Nat -> List Val}
theorem yYo {b:Nat} {l:List (Int × Int)} (h:zQ3 w zQM zQM b l) :
  Calls prog 87 #[.map (some b)] w λe w'=>e=.returned (.map (some w.heap.size))/\zQ3 w' zQM zQM w.heap.size l/\Pu w w'/\w'.heap.size=w.heap.size+1:=by
 obtain⟨es,clk,h1,h2⟩:=h
 refine Calls.mono (AnyW.maps_Clone Tryz.mapsClone b es clk w h1) ?_
 rintro e w' ⟨rfl,rfl⟩
 exact⟨rfl,⟨es,clk,zX4 w _,h2⟩,Pu.alloc w _,by simp⟩
def ext(v:Nat->List Val)(H:List zQx)(R:List Rec):Nat->List Val:=λb=>if b ∈ vB H then zWj H R b else v b
theorem zJO{v:Nat->List Val}{H:List zQx}{R:List Rec}{x:zQx}(h:∀b ∈ zQb x.s,b ∉ vB H):hv (ext v H R) x=hv v x:=by
 unfold hv
 cases ha:x.s.a with
 | none=>rfl
 | some a=>
  simp only[ext]
  rw[if_neg (h _ (by simp[zQb,ha]))]
theorem yJW{v:Nat->List Val}{H:List zQx}{R:List Rec}{x:zQx}(h:x ∈ H):hv (ext v H R) x=hv (zWj H R) x:=by
 unfold hv
 cases ha:x.s.a with
 | none=>rfl
 | some a=>
  simp only[ext]
  rw[if_pos (zQN h (by simp[zQb,ha]))]
theorem zK9 {v:Nat->List Val} {H:List zQx} {R:List Rec} (h:zQK w H R) (hn:(vB H).Nodup):H.map (toR (ext v H R))=R:=by
 refine Eq.trans (List.map_congr_left λx hx=>?_) (zKg h hn)
 rw[toR,toR,yJW hx]
theorem ext_row {v:Nat->List Val} {H:List zQx} {R:List Rec} (h:zQK w H R) (hn:(vB H).Nodup) {x:zQx} (hx:x ∈ H):zQl w 28 3 x.s ((hv (ext v H R) x).flatMap zXJ):=by
 rw[yJW hx];exact valOf_row h hn x hx
theorem zQK.append:∀{H H':List zQx} {R R':List Rec},zQK w H R->zQK w H' R'->zQK w (H ++ H') (R ++ R')
 | [],H',[],R',_,h=>h
 | x :: H,H',y :: R,R',⟨h1,h2⟩,h=>⟨h1,zQK.append h2 h⟩
theorem zQE.vals{v v':Nat->List Val}(h:zQE w d v)(he:∀x ∈ zQX d,hv v' x=hv v x):zQE w d v':=
 ⟨h.fl,h.rw_,h.aw,h.mp,h.ml,h.lm,λx hx=>by rw[he x hx];exact h.vr x hx,h.low,h.nd,h.oS,h.oL,h.oC,h.oK,h.oF,h.oR,h.oA,h.oV,h.lt⟩
theorem zYm{v v':Nat->List Val}(hl:Low d)(he:∀x ∈ zQX d,hv v' x=hv v x):zQa d v'=zQa d v:=by
 have e:∀x ∈ zQX d,toR v' x=toR v x:=λx hx=>by rw[toR,toR,he x hx]
 simp only[zQa,Dsk.mk.injEq,true_and,and_true]
 refine⟨List.map_congr_left λx hx=>e x (zQJ hx),?_⟩
 funext u
 by_cases hu:u<4
 ·simp only[zZ9,Usr.mk.injEq,true_and]
  refine⟨List.map_congr_left λc hc=>?_,List.map_congr_left λx hx=>e x (zXj hu hx)⟩
  have mc:=zXA hu hc
  rw[toC,toC,e _ mc.1,e _ mc.2]
 ·obtain⟨h1,h2⟩:=hl u (by omega)
  simp only[zZ9,h1,h2];rfl
def yXG (l:List (Int × (Rec × Rec))):List Rec:=l.flatMap λc=>[c.2.1,c.2.2]
theorem zYp{v:Nat->List Val}:∀{l:List Chg} {m:List (Int × (Rec × Rec))},l.map Prod.fst=m.map Prod.fst->(chH l).map (toR v)=yXG m->l.map (toC v)=m
 | [],[],_,_=>rfl
 | [],_ :: _,h,_=>by simp at h
 | _ :: _,[],h,_=>by simp at h
 | (a,b) :: l,(c,d) :: m,h,k=>by
  simp only[List.map_cons,List.cons.injEq]at h
  simp only[chH,yXG,List.flatMap_cons,List.map_append,List.map_cons,List.map_nil,List.cons_append,List.nil_append,List.cons.injEq]at k
  simp only[List.map_cons,toC]
  rw[zYp (l:=l) (m:=m) h.2 k.2.2]
  obtain⟨k1,k2,_⟩:=k
  obtain⟨d1,d2⟩:=d
  simp only at k1 k2 h ⊢
  rw[k1,k2,h.1]
theorem zQg.rdA {mu:Int} (h:zQg w d mu val) {u:Nat} (hu:u<4) (hl:∀x ∈ d.ah u,(hv val x).length<=1000000):zXQ w (d.asv u) ((zQa d val).us u).ap:=by
 refine⟨by rw[h.as_len hu,zXr],λi r hr=>?_⟩
 have hr:((d.ah u).map (toR val))[i]?=some r:=hr
 rw[List.getElem?_map]at hr
 obtain⟨x,hx,rfl⟩:=Option.map_eq_some_iff.1 hr
 obtain⟨a,ha,_,h0⟩:=(h.bd.aw u hu).elem zQk hx (o:=0) rfl
 obtain⟨a1,dm,_,h1⟩:=(h.bd.aw u hu).elem zQk hx (o:=1) rfl
 rw[ha]at dm;cases dm
 have hm:=zXj hu (List.mem_of_getElem? hx)
 exact⟨a,x.s,ha,h0,h1,zZ8.rd (w0:={ w with heap:=#[] }) ⟨h.bd.vr x hm,λ_ _=>Nat.zero_le _⟩ (by have:=hl x (List.mem_of_getElem? hx);show(hv val x).length<=_;omega)⟩
theorem yY2 {R:Rt} {J1:Int->World->Prop} {E2:zQs} {i iI S:Nat} {it:Nat} {w1:World} (h:zQg w1 d 1 val) (hI:Inv (zQa d val)) (hi:i<4) {p0 p4:Option Addr} (hE2:E2.C i=iI) (hit:zQS w1 zQM chV it (d.C i) (d.ch i) (d.ch i)) (hm:zQ3 w1 zQM chV iI []) (hst:w1.heap[S]?=some (.cells (zQR 0 E2) 93))
  (nit:d.o it=none) (sk:d.o iI=none) (hSi:S ≠ it) (hS49:S ≠ iI) (hi49:it ≠ iI)
  (hJ:∀w' acc accR,Fr (λb=>b=it∨b=iI) w1 w'->zQ3 w' zQM chV iI acc->w'.heap[S]?=some (.cells (zQR 0 E2) 93)->acc.map Prod.fst=accR.map Prod.fst->zQK w' (chH acc) (yXG accR)->(∀b ∈ vB (chH acc),w1.heap.size<=b)->(vB (chH acc)).Nodup->Ech accR ((zQa d val).us i).ch->J1 (IntKind.i64.wrap ((i:Int)+1)) w') :
  xJ5 R J1 p0 p4 (some ⟨S,5+i * 4,none⟩) (i:Int) (some ⟨it,0,none⟩) [zX3 d] w1:=by
 have vv:=hI.chl hi
 have dA:d.flds.length<=16:=hI.f16
 have oC:=h.bd.oC h.sd i hi
 have eCh:((zQa d val).us i).ch=(d.ch i).map (toC val):=rfl
 have lit:it<w1.heap.size:=by obtain⟨_,_,_,_,_,h0,_⟩:=hit;exact zQy h0
 have l49:iI<w1.heap.size:=by obtain⟨_,_,h0,_⟩:=hm;exact zQy h0
 have lS:S<w1.heap.size:=zQy hst
 refine zJC (d.ch i).length (λm _ w'=>∃(todo acc:List Chg) (accR:List (Int × (Rec × Rec))),todo.length=m/\zQS w' zQM chV it (d.C i) (d.ch i) todo/\zQ3 w' zQM chV iI acc/\w'.heap[S]?=some (.cells (zQR 0 E2) 93)/\Fr (λb=>b=it∨b=iI) w1 w'/\
  acc.map Prod.fst=accR.map Prod.fst/\zQK w' (chH acc) (yXG accR)/\(∀b ∈ vB (chH acc),w1.heap.size<=b)/\(vB (chH acc)).Nodup/\(∀k,AL.get accR k=if (AL.get todo k).isSome then none else(AL.get (d.ch i) k).map λc=>(toR val c.1,toR val c.2))/\accR.length+todo.length=(d.ch i).length/\(∀k v,AL.get todo k=some v->AL.get (d.ch i) k=some v))
  ⟨d.ch i,[],[],rfl,hit,hm,hst,Fr.refl _ _,rfl,trivial,by simp[chH,vB],by simp[chH,vB],λk=>by cases e:AL.get (d.ch i) k <;> simp[e,AL.get],by simp,λ_ _ h=>h⟩ ?_
 rintro m J s w3 ⟨todo,acc,accR,hmm,hi3,hm3,hst3,bP,hk3,jM,aH,hn3,hg3,hlen3,hT⟩ pM
 rcases hi3.next (P:=prog) 0 with⟨h0,hr⟩|⟨p,hp,w4,hr,bp,se,hi4,hen⟩
 ·left
  refine⟨w3,hr,?_⟩
  subst h0
  refine hJ w3 acc accR bP hm3 hst3 hk3 jM aH hn3 ⟨λk=>?_,?_⟩
  ·rw[hg3,eCh,zXM];rfl
  ·rw[eCh,List.length_map];simpa using hlen3
 ·right
  have hg:AL.get todo p.1=some p.2:=AL.get_of_mem hi3.nodup hp
  have hgc:=hT _ _ hg
  have hpm:p ∈ d.ch i:=AL.get_mem hgc
  have mc:=zXA hi hpm
  refine⟨_,_,w4,hr,_,_,w4,hen,?_⟩
  rw[yXs]
  refine alB λw5 aB aP=>zQj aP zYQ.symm rfl rfl λw6 dx bb _=>zQf λw7 bU _=>?_
  have m8:Pu w4 w6:=aB.andNew bb λi hi=>by rw[show i=w4.heap.size from hi];exact Nat.le_refl _
  have fm:=m8.trans bU
  have bQ:=bU.blk dx
  have wi:=bp.blk hst3 hSi
  have hst7:=fm.blk wi
  have cM:∀y,Pu w7 y->y.cell? ((⟨S,5+i * 4,none⟩:Addr).add 2)=some (.map (some iI)):=λy hy=>by
   rw[zQc,zQq (hy.blk hst7),←hE2];exact zVx hi
  have hF4:Fr (λb=>b=it∨b=iI) w1 w4:=bP.trans bp λi hi _=>.inl hi
  have hD4:zQg w4 d 1 val:=h.fr hF4 λb hb e=>by
   rcases e with e|e
   ·rw[e]at hb;exact hb nit
   ·rw[e]at hb;exact hb sk
  have hD7:=hD4.pu fm
  have r1:=hD7.read hI mc.1
  have r2:=hD7.read hI mc.2
  refine⟨λy=>Pu w7 y,Pu.refl _,some iI,cM,_,λy hy=>cl (hy.blk bQ) 0,p.2.1.s,λy hy=>cl (hy.blk bQ) 1,_,λy hy=>by rw[zQc,zQc,zQq (hy.blk bQ)];rfl,p.2.2.s,λy hy=>by rw[zQc,zQc,zQq (hy.blk bQ)];rfl,(zK1 r1.1 (by rw[r1.2];omega)).mono ?_⟩
  rintro e w9 ⟨s1,rfl,n1,bR⟩
  refine⟨_,s1,rfl,bR,(zK1 (r2.1.pu bR) (by rw[r2.2];omega)).mono ?_⟩
  rintro e au ⟨s2,rfl,n2,cZ⟩
  have hp4a:=(fm.trans bR).trans cZ
  have rJ:=hm3.fr bp (Ne.symm hi49)
  obtain⟨av,hrun,wn,c9,hs11⟩:=(rJ.pu hp4a).upd (P:=prog) zWJ yJQ p.1 ((⟨p.2.1.g,s1⟩:zQx),(⟨p.2.2.g,s2⟩:zQx))
  refine⟨_,s2,rfl,bR.trans cZ,av,hrun,?_⟩
  have hla:=AL.length_del hp hi3.nodup
  have z3:=bP.size
  have z4:=bp.size
  have z7:=fm.size
  have z9:=bR.size
  have z10:=cZ.size
  have hno:AL.get acc p.1=none:=by
   have h1:AL.get accR p.1=none:=by rw[hg3,hg];rfl
   rw[AL.get_none]at h1 ⊢
   rw[hk3];exact h1
  have hnoR:AL.get accR p.1=none:=by rw[hg3,hg];rfl
  rw[zJ9 hno]at wn
  have q1:∀b ∈ zQb s1,w7.heap.size<=b/\b<w9.heap.size:=λb hb=>⟨n1.2 b hb,n1.1.lt b hb⟩
  have q2:∀b ∈ zQb s2,w9.heap.size<=b/\b<au.heap.size:=λb hb=>⟨n2.2 b hb,n2.1.lt b hb⟩
  have hlt3:∀b ∈ vB (chH acc),b<w3.heap.size:=jM.lt
  have eH:chH (acc ++ [(p.1,((⟨p.2.1.g,s1⟩:zQx),(⟨p.2.2.g,s2⟩:zQx)))])=chH acc ++ [⟨p.2.1.g,s1⟩,⟨p.2.2.g,s2⟩]:=by simp[chH]
  have eV:vB (chH acc ++ [(⟨p.2.1.g,s1⟩:zQx),⟨p.2.2.g,s2⟩])=vB (chH acc) ++ (zQb s1 ++ zQb s2):=by simp[vB]
  have hfall:Fr (λb=>b=it∨b=iI) w3 av:=((bp.mono (B':=λb=>b=it∨b=iI) λi hi _=>.inl hi).trans (Fr.pu hp4a:Fr (λb=>b=it∨b=iI) w4 au) λi hi _=>hi).trans c9 λi hi _=>.inr hi
  refine pM (m - 1) _ _ (by omega) ⟨AL.del todo p.1,acc ++ [(p.1,(⟨p.2.1.g,s1⟩,⟨p.2.2.g,s2⟩))],accR ++ [(p.1,(toR val p.2.1,toR val p.2.2))],by omega,?_,wn,?_,bP.trans hfall λi hi _=>hi,?_,?_,?_,?_,?_,?_,?_⟩
  ·have nC:∀{b:Nat},d.o b=none->¬d.C i=b:=λ{b} hb e=>by rw[e,hb]at oC;cases oC
   exact(hi4.fr (Fr.pu hp4a:Fr (λ_=>False) w4 au) (λh=>h) λh=>h).fr c9 (λe=>hi49 e) (nC sk)
  ·exact c9.blk (hp4a.blk wi) hS49
  ·rw[List.map_append,List.map_append,hk3];rfl
  ·rw[eH]
   have eR:yXG (accR ++ [(p.1,(toR val p.2.1,toR val p.2.2))])=yXG accR ++ [toR val p.2.1,toR val p.2.2]:=by simp[yXG]
   rw[eR]
   refine zQK.append (jM.fr hfall λb hb e=>?_) ⟨⟨rfl,?_⟩,⟨rfl,?_⟩,trivial⟩
   ·have:=aH b hb
    rcases e with e|e
    ·omega
    ·omega
   ·exact(n1.1.pu cZ).fr c9 λb hb e=>by have:=q1 b hb;have e:b=iI:=e;omega
   ·exact n2.1.fr c9 λb hb e=>by have:=q2 b hb;have e:b=iI:=e;omega
  ·intro b hb
   rw[eH,eV,List.mem_append,List.mem_append]at hb
   rcases hb with hb|hb|hb
   ·exact aH b hb
   ·have:=q1 b hb;omega
   ·have:=q2 b hb;omega
  ·rw[eH,eV]
   refine List.nodup_append.2 ⟨hn3,List.nodup_append.2 ⟨zZT _,zZT _,λa ha b hb e=>?_⟩,λa ha b hb e=>?_⟩
   ·have:=q1 a ha;have:=q2 b hb;omega
   ·have:=hlt3 a ha
    rcases List.mem_append.1 hb with hb|hb
    ·have:=q1 b hb;omega
    ·have:=q2 b hb;omega
  ·intro k
   rw[←zJ9 hnoR,AL.get_put,hg3,AL.get_del hi3.nodup]
   by_cases e:p.1=k
   ·subst e
    rw[if_pos rfl,if_pos rfl,hgc];rfl
   ·rw[if_neg e,if_neg e]
  ·rw[List.length_append,List.length_singleton];omega
  ·intro k v hk
   rw[AL.get_del hi3.nodup]at hk
   by_cases e:p.1=k
   ·rw[if_pos e]at hk;cases hk
   ·rw[if_neg e]at hk;exact hT k v hk
end Go.Proofs.YtcihcbfcgjepfaaGreatDoor
/- Desks: the program's copy of a desk, user by user. No condition but those stated. -/
namespace Go.Proofs.YtcihcbfcgjepfaaGreatDoor
open Go.Sh Go.RowKit Tryz
variable {w w' w0 : World} {d d' E : zQs} {val v : Nat -> List Val}
theorem zXf{e:TypeId}{sz:Nat}{s:SV}{vs:List Value}(h:zQl w e sz s vs){b:Nat}(hb:b ∈ zQb s):∃c,w.heap[b]?=some (.cells c e):=by
 obtain⟨-,rfl|⟨g,cur,h1,h2,-⟩⟩:=h
 ·simp[zQb]at hb
 ·have e1:b=g:=by simpa[zQb,h1] using hb
  rw[e1];exact⟨cur,h2⟩
theorem zQK.obj:∀{H:List zQx} {R:List Rec} {b:Nat},zQK w H R->b ∈ vB H->∃c,w.heap[b]?=some (.cells c 28)
 | [],_,b,_,hb=>by simp[vB]at hb
 | x :: H,[],b,h,_=>h.elim
 | x :: H,y :: R,b,⟨h1,h2⟩,hb=>by
  rw[zXl,List.mem_append]at hb
  rcases hb with hb|hb
  ·exact zXf h1.2 hb
  ·exact zQK.obj h2 hb
theorem zYc {κ ν:Type} {ek:κ->Value} {ev:ν->Value} {b:Nat} {l:List (κ × ν)} (h:zQ3 w ek ev b l):∃es c,w.heap[b]?=some (.map es c):=by
 obtain⟨es,c,h,_⟩:=h
 exact⟨es,c,h⟩
structure zYn(w0:World)(d:zQs)(val:Nat->List Val)(i:Nat)(w:World)(E:zQs)(v:Nat->List Val):Prop where
 da:zQg w d 1 val
 ea:zQg w E 0 v
 eq:Eqv (zQa E v) (zQa d val)
 nS:w0.heap.size<=E.S
 nL:w0.heap.size<=E.L
 nF:∀b ∈ zQb E.fs,w0.heap.size<=b
 nR:∀b ∈ zQb E.rs,w0.heap.size<=b
 nV:∀b ∈ vB E.rh,w0.heap.size<=b
 nu:∀u,u<i->w0.heap.size<=E.C u/\(∀b ∈ zQb (E.asv u),w0.heap.size<=b)/\∀b ∈ vB (uH E u),w0.heap.size<=b
 fr:Fr (·=d.S) w0 w
theorem zYn.step {i:Nat} (h:zYn w0 d val i w E v) (hi:i<4) {q:SV} {hsA:List zQx} {iI:Nat} {acc:List Chg} {accR:List (Int × (Rec × Rec))}
  (hf:Fr (·=E.S) w w') (hd:zQg w' d 1 val) (hst:w'.heap[E.S]?=some (.cells (zQR 0 { E with asv:=λu=>if u=i then q else E.asv u,C:=λu=>if u=i then iI else E.C u }) 93))
  (hq:zXb w w' q hsA ((zQa d val).us i).ap) (hm:zQ3 w' zQM chV iI acc) (h49:w.heap.size<=iI) (hr:zQK w' (chH acc) (yXG accR)) (hk:acc.map Prod.fst=accR.map Prod.fst)
  (hb:∀b ∈ vB (chH acc),w.heap.size<=b) (hn:(vB (chH acc)).Nodup) (hE:Ech accR ((zQa d val).us i).ch) (hdis:∀b ∈ vB hsA,b ∉ vB (chH acc)) :
  ∃E' v',zYn w0 d val (i+1) w' E' v'/\E'.S=E.S:=by
 have z0:=h.fr.size
 have hlt:∀{b:Nat} {κ:zXx},E.o b=some κ->b<w.heap.size:=λ{b κ} e=>h.ea.bd.lt b (by rw[e];simp)
 obtain⟨v',hv'⟩:∃v',v'=ext (ext v hsA ((zQa d val).us i).ap) (chH acc) (yXG accR):=⟨_,rfl⟩
 have jS:∀x ∈ zQX E,∀b ∈ zQb x.s,b<w.heap.size:=λx hx b hb=>hlt (h.ea.bd.oV b (zQN hx hb))
 have eold:∀x ∈ zQX E,hv v' x=hv v x:=λx hx=>by
  rw[hv',zJO λb hb' ag=>by have:=jS x hx b hb';have:=hb b ag;omega,zJO λb hb' ag=>by have:=jS x hx b hb';have:=(hq.vnew b ag).1;omega]
 have hbv:=h.ea.bd.vals eold
 have eabs:zQa E v'=zQa E v:=zYm h.ea.bd.low eold
 have eA:∀x ∈ hsA,hv v' x=hv (ext v hsA ((zQa d val).us i).ap) x:=λx hx=>by
  rw[hv',zJO λb hb' ag=>hdis b (zQN hx hb') ag]
 have mA:hsA.map (toR v')=((zQa d val).us i).ap:=by
  refine Eq.trans (List.map_congr_left λx hx=>?_) (zK9 (v:=v) hq.recs hq.nd)
  rw[toR,toR,eA x hx]
 have mC:acc.map (toC v')=accR:=zYp hk (by rw[hv'];exact zK9 hr hn)
 obtain⟨o',ho'⟩:∃o':Nat->Option zXx,∀b,o' b=if b<w.heap.size then E.o b else if b=iI then some (.C i)else if b ∈ zQb q then some (.A i)else if b ∈ vB hsA∨b ∈ vB (chH acc)then some .V else none:=⟨_,λ_=>rfl⟩
 have up:∀{b:Nat} {κ:zXx},E.o b=some κ->o' b=some κ:=λ{b κ} e=>by rw[ho',if_pos (hlt e),e]
 have ob:∀b ∈ vB hsA,∃c,w'.heap[b]?=some (.cells c 28):=λb hb=>hq.recs.obj hb
 have oc:∀b ∈ vB (chH acc),∃c,w'.heap[b]?=some (.cells c 28):=λb hb=>hr.obj hb
 obtain⟨es,clk,h49o⟩:=zYc hm
 have kV:∀b,b ∈ vB hsA∨b ∈ vB (chH acc)->o' b=some .V:=λb ag=>by
  obtain⟨c,hc⟩:∃c,w'.heap[b]?=some (.cells c 28):=ag.elim (ob b) (oc b)
  have hge:w.heap.size<=b:=ag.elim (λh=>(hq.vnew b h).1) (hb b)
  rw[ho',if_neg (by omega),if_neg (λe=>by rw[e,h49o]at hc;cases hc),if_neg (λe=>by obtain⟨c2,gW⟩:=zXf hq.row e;rw[hc]at gW;cases gW),if_pos ag]
 have kA:∀b ∈ zQb q,o' b=some (.A i):=λb ag=>by
  obtain⟨c,hc⟩:=zXf hq.row ag
  rw[ho',if_neg (by have:=hq.new b ag;omega),if_neg (λe=>by rw[e,h49o]at hc;cases hc),if_pos ag]
 have ltO:∀b,o' b ≠ none->b<w'.heap.size:=λb ag=>by
  rw[ho']at ag
  by_cases e1:b<w.heap.size
  ·have:=hf.size;omega
  ·rw[if_neg e1]at ag
   by_cases e2:b=iI
   ·rw[e2];exact hm.lt
   ·rw[if_neg e2]at ag
    by_cases e3:b ∈ zQb q
    ·obtain⟨c,hc⟩:=zXf hq.row e3;exact zQy hc
    ·rw[if_neg e3]at ag
     by_cases e4:b ∈ vB hsA∨b ∈ vB (chH acc)
     ·obtain⟨c,hc⟩:∃c,w'.heap[b]?=some (.cells c 28):=e4.elim (ob b) (oc b)
      exact zQy hc
     ·rw[if_neg e4]at ag;exact absurd rfl ag
 have nB:∀{b:Nat} {κ:zXx},E.o b=some κ->κ ≠ .S->¬b=E.S:=λ{b κ} e hne e2=>by
  rw[e2,h.ea.bd.oS]at e;exact hne (Option.some.inj e).symm
 obtain⟨l,nf,uZ⟩:=hbv.lm
 have hbd:=hbv.genL hi (lk':=E.lk) (o':=o') (rs':=E.rs) (rh':=E.rh) (as':=q) (ah':=hsA) (cs':=E.cs i) (ch':=acc) (C':=iI) hf
  ⟨l,nf.fr hf (nB h.ea.bd.oL (by simp)),uZ⟩ (up h.ea.bd.oL) (λb κ ag k0 k1 k2 k3 k4=>⟨nB ag k1,up ag⟩) (up h.ea.bd.oS)
  (h.ea.bd.rw_.fr hf λb ag=>nB (h.ea.bd.oR b ag) (by simp)) (λb ag=>up (h.ea.bd.oR b ag)) hq.row kA (λ_=>⟨hm,by rw[ho',if_neg (by omega),if_pos rfl]⟩) (λe=>absurd (h.ea.sd.symm.trans e) (by simp))
  (λx hx=>by
   simp only[List.mem_append]at hx
   rcases hx with(hx|hx)|hx
   ·exact .inr ⟨by rw[hv'];exact ext_row hr hn hx,λb ag=>kV b (.inr (zQN hx ag))⟩
   ·exact .inr ⟨by rw[eA x hx];exact ext_row hq.recs hq.nd hx,λb ag=>kV b (.inl (zQN hx ag))⟩
   ·exact .inl ⟨x,zQJ hx,rfl⟩)
  (by
   have hoth:∀b ∈ vB (E.rh ++ (zXa E i).drop E.rh.length),b<w.heap.size:=λb ag=>by
    obtain⟨x,hx,aH⟩:=List.mem_flatMap.1 ag
    rcases List.mem_append.1 hx with hx|hx
    ·exact jS x (zQJ hx) b aH
    ·exact jS x (yQG hi hx) b aH
   have hnd:=(yXi hi).1 h.ea.bd.nd
   have e:zXa E i=E.rh ++ (zXa E i).drop E.rh.length:=by simp[zXa]
   rw[e,zQp]at hnd
   simp only[zKO]
   rw[zQp,zQp]
   refine List.nodup_append.2 ⟨List.nodup_append.2 ⟨hn,hq.nd,λa ha b ag e=>hdis b ag (by rw[←e];exact ha)⟩,(List.nodup_append.1 hnd).2.1,λa ha b ag e=>?_⟩
   have h1:=hoth b ag
   rcases List.mem_append.1 ha with ha|ha
   ·have:=hb a ha;omega
   ·have:=(hq.vnew a ha).1;omega) ltO
 refine⟨_,v',⟨hd,⟨hst,hbd,h.ea.sd⟩,?_,h.nS,h.nL,h.nF,h.nR,h.nV,λu hu=>?_,h.fr.trans hf λb ag hlt2=>?_⟩,rfl⟩
 ·show Eqv (zQa (E.gen i o' E.rs E.rh q hsA (E.cs i) acc iI) v') (zQa d val)
  rw[zK8,mA,mC]
  have e1:{ (zQa E v')with recs:=E.rh.map (toR v') }=zQa E v:=eabs
  rw[e1]
  have e2:zQa d val=(zQa d val).setU i ((zQa d val).us i):=by
   simp only[Dsk.setU]
   have:(λv_1=>if v_1=i then(zQa d val).us i else(zQa d val).us v_1)=(zQa d val).us:=by
    funext u;split
    ·next e=>rw[e]
    ·rfl
   rw[this]
  rw[eabs]
  have hu:=h.eq.us i
  have key:=h.eq.setU i (x:={ (zQa E v).us i with ch:=accR,ap:=((zQa d val).us i).ap }) ⟨hu.md,hu.at_,rfl,hE⟩
  rw[←e2]at key
  exact key
 ·by_cases e:u=i
  ·subst e
   refine⟨by simp only[zQs.gen,if_pos];omega,λb ag=>?_,λb ag=>?_⟩
   ·have:=hq.new b (by simpa[zQs.gen] using ag);omega
   ·have aH:b ∈ vB (chH acc ++ hsA):=by simpa[uH,zQs.gen] using ag
    rw[zQp,List.mem_append]at aH
    rcases aH with aH|aH
    ·have:=hb b aH;omega
    ·have:=(hq.vnew b aH).1;omega
  ·have:=h.nu u (by omega)
   refine⟨by simpa[zQs.gen,e] using this.1,λb ag=>this.2.1 b (by simpa[zQs.gen,e] using ag),λb ag=>this.2.2 b (by simpa[uH,zQs.gen,e] using ag)⟩
 ·have ag:b=E.S:=ag
  have:=h.nS
  omega
theorem zYn.done(h:zYn w0 d val 4 w E v):∃c,zQg w c 0 v/\zQa c v=zQa E v/\c.S=E.S/\∀b,c.o b ≠ none->w0.heap.size<=b:=by
 have hb:=h.ea.bd
 have k:∀{b:Nat} {κ:zXx},w0.heap.size<=b->E.o b=some κ->(if b<w0.heap.size then none else E.o b)=some κ:=λ{b κ} h1 h2=>by rw[if_neg (by omega),h2]
 refine⟨{ E with o:=λb=>if b<w0.heap.size then none else E.o b },⟨h.ea.st,⟨hb.fl,hb.rw_,hb.aw,hb.mp,hb.ml,hb.lm,hb.vr,hb.low,hb.nd,k h.nS hb.oS,k h.nL hb.oL,λe u hu=>k (h.nu u hu).1 (hb.oC e u hu),λe=>absurd (h.ea.sd.symm.trans e) (by simp),λb ag=>k (h.nF b ag) (hb.oF b ag),λb ag=>k (h.nR b ag) (hb.oR b ag),λu hu b ag=>k ((h.nu u hu).2.1 b ag) (hb.oA u hu b ag),λb ag=>k ?_ (hb.oV b ag),λb ag=>?_⟩,h.ea.sd⟩,rfl,rfl,λb ag=>?_⟩
 ·have ag:b ∈ vB (zQX E):=ag
  unfold zQX at ag
  simp only[zQp,List.mem_append]at ag
  rcases ag with e|e|e|e|e
  ·exact h.nV b e
  ·exact(h.nu 0 (by omega)).2.2 b e
  ·exact(h.nu 1 (by omega)).2.2 b e
  ·exact(h.nu 2 (by omega)).2.2 b e
  ·exact(h.nu 3 (by omega)).2.2 b e
 ·refine hb.lt b λe=>ag ?_
  show(if b<w0.heap.size then none else E.o b)=none
  rw[e];split <;> rfl
 ·have ag:(if b<w0.heap.size then none else E.o b) ≠ none:=ag
  by_cases e:b<w0.heap.size
  ·rw[if_pos e]at ag;exact absurd rfl ag
  ·omega
end Go.Proofs.YtcihcbfcgjepfaaGreatDoor
/- Desks: the program's copy of a desk, from its start to its end. No condition but those stated. -/
namespace Go.Proofs.YtcihcbfcgjepfaaGreatDoor
open Go.Sh Go.RowKit Tryz
variable {w w' w0 : World} {d d' E : zQs} {val v : Nat -> List Val}
theorem zYn.start (h:zQg w d 1 val) (h0:∀b,d.o b ≠ none->b<w0.heap.size) (hfr:Fr (·=d.S) w0 w) {f r:SV} {hs:List zQx} {S L:Nat} {l:List (Int × Int)}
  (hf:zQl w 38 4 f (d.flds.flatMap zKW)) (hfn:∀b ∈ zQb f,w0.heap.size<=b) (hN:zXb w0 w r hs (zQa d val).recs) (hL:zQ3 w zQM zQM L l) (hl:∀k,AL.get l k=d.lk k) (nL:w0.heap.size<=L) (nS:w0.heap.size<=S)
  (hst:w.heap[S]?=some (.cells (zQR 0 { d with S:=S,L:=L,fs:=f,rs:=r }) 93)):∃E v,zYn w0 d val 0 w E v/\E.S=S:=by
 obtain⟨v',hv'⟩:∃v',v'=ext val hs (zQa d val).recs:=⟨_,rfl⟩
 have jS:∀x ∈ zQX d,∀b ∈ zQb x.s,b<w0.heap.size:=λx hx b hb=>h0 b (by rw[h.bd.oV b (zQN hx hb)];simp)
 have eold:∀x ∈ zQX d,hv v' x=hv val x:=λx hx=>by
  rw[hv',zJO λb hb' ag=>by have:=jS x hx b hb';have:=(hN.vnew b ag).1;omega]
 have eabs:zQa d v'=zQa d val:=zYm h.bd.low eold
 obtain⟨o',ho'⟩:∃o':Nat->Option zXx,∀b,o' b=if b<w0.heap.size then d.o b else if b=S then some .S else if b=L then some .L else if b ∈ zQb f then some .F else if b ∈ zQb r then some .R else if b ∈ vB hs then some .V else none:=⟨_,λ_=>rfl⟩
 have up:∀{b:Nat} {κ:zXx},d.o b=some κ->o' b=some κ:=λ{b κ} e=>by rw[ho',if_pos (h0 b (by rw[e];simp)),e]
 obtain⟨es,clk,hLo⟩:=zYc hL
 have nSL:¬L=S:=λe=>by rw[e,hst]at hLo;cases hLo
 have oS:o' S=some .S:=by rw[ho',if_neg (by omega),if_pos rfl]
 have oL:o' L=some .L:=by rw[ho',if_neg (by omega),if_neg nSL,if_pos rfl]
 have oF:∀b ∈ zQb f,o' b=some .F:=λb hb=>by
  obtain⟨c,hc⟩:=zXf hf hb
  rw[ho',if_neg (by have:=hfn b hb;omega),if_neg (λe=>by rw[e,hst]at hc;cases hc),if_neg (λe=>by rw[e,hLo]at hc;cases hc),if_pos hb]
 have oR:∀b ∈ zQb r,o' b=some .R:=λb hb=>by
  obtain⟨c,hc⟩:=zXf hN.row hb
  rw[ho',if_neg (by have:=hN.new b hb;omega),if_neg (λe=>by rw[e,hst]at hc;cases hc),if_neg (λe=>by rw[e,hLo]at hc;cases hc),if_neg (λe=>by obtain⟨c2,gW⟩:=zXf hf e;rw[hc]at gW;cases gW),if_pos hb]
 have oV:∀b ∈ vB hs,o' b=some .V:=λb hb=>by
  obtain⟨c,hc⟩:=hN.recs.obj hb
  rw[ho',if_neg (by have:=(hN.vnew b hb).1;omega),if_neg (λe=>by rw[e,hst]at hc;cases hc),if_neg (λe=>by rw[e,hLo]at hc;cases hc),if_neg (λe=>by obtain⟨c2,gW⟩:=zXf hf e;rw[hc]at gW;cases gW),if_neg (hN.vnew b hb).2,if_pos hb]
 have ltO:∀b,o' b ≠ none->b<w.heap.size:=λb ag=>by
  rw[ho']at ag
  by_cases e1:b<w0.heap.size
  ·have:=hfr.size;omega
  rw[if_neg e1]at ag
  by_cases e2:b=S
  ·rw[e2];exact zQy hst
  rw[if_neg e2]at ag
  by_cases e3:b=L
  ·rw[e3];exact zQy hLo
  rw[if_neg e3]at ag
  by_cases e4:b ∈ zQb f
  ·obtain⟨c,hc⟩:=zXf hf e4;exact zQy hc
  rw[if_neg e4]at ag
  by_cases e5:b ∈ zQb r
  ·obtain⟨c,hc⟩:=zXf hN.row e5;exact zQy hc
  rw[if_neg e5]at ag
  by_cases e6:b ∈ vB hs
  ·obtain⟨c,hc⟩:=hN.recs.obj e6;exact zQy hc
  rw[if_neg e6]at ag
  exact absurd rfl ag
 have zQz:∀x ∈ uH d 0 ++ (uH d 1 ++ (uH d 2 ++ uH d 3)),x ∈ zQX d:=λx hx=>List.mem_append_right _ hx
 have hnd:=h.bd.nd
 rw[zQX,zQp]at hnd
 refine⟨{ sd:=false,o:=o',S:=S,L:=L,C:=d.C,page:=d.page,flds:=d.flds,fs:=f,rs:=r,rh:=hs,mode:=d.mode,at_:=d.at_,asv:=d.asv,ah:=d.ah,cs:=d.cs,ch:=d.ch,lk:=d.lk },v',⟨h,⟨hst,⟨hf,hN.row,h.bd.aw,λ_ u hu=>h.mp hu,λe=>absurd e (by simp),⟨l,hL,λk=>?_⟩,λx hx=>?_,h.bd.low,?_,oS,oL,λ_ u hu=>up (h.bd.oC h.sd u hu),λe=>absurd e (by simp),oF,oR,λu hu b hb=>up (h.bd.oA u hu b hb),λb hb=>?_,ltO⟩,rfl⟩,⟨rfl,rfl,?_,rfl,λu=>?_⟩,nS,nL,hfn,hN.new,λb hb=>(hN.vnew b hb).1,λu hu=>absurd hu (by omega),hfr⟩,rfl⟩
 ·rw[hl];cases d.lk k <;> rfl
 ·have hx:x ∈ hs ++ (uH d 0 ++ (uH d 1 ++ (uH d 2 ++ uH d 3))):=hx
  rcases List.mem_append.1 hx with hx|hx
  ·rw[hv'];exact ext_row hN.recs hN.nd hx
  ·rw[eold x (zQz x hx)];exact h.bd.vr x (zQz x hx)
 ·show(vB (hs ++ (uH d 0 ++ (uH d 1 ++ (uH d 2 ++ uH d 3))))).Nodup
  rw[zQp]
  refine List.nodup_append.2 ⟨hN.nd,(List.nodup_append.1 hnd).2.1,λa ha b hb e=>?_⟩
  obtain⟨x,hx,aH⟩:=List.mem_flatMap.1 hb
  have:=jS x (zQz x hx) b aH
  have:=(hN.vnew a ha).1
  omega
 ·have hb:b ∈ vB (hs ++ (uH d 0 ++ (uH d 1 ++ (uH d 2 ++ uH d 3)))):=hb
  rw[zQp,List.mem_append]at hb
  rcases hb with hb|hb
  ·exact oV b hb
  ·obtain⟨x,hx,aH⟩:=List.mem_flatMap.1 hb
   exact up (h.bd.oV b (zQN (zQz x hx) aH))
 ·show hs.map (toR v')=(zQa d val).recs
  rw[hv'];exact zK9 hN.recs hN.nd
 ·show Eu ((zQa d v').us u) ((zQa d val).us u)
  rw[eabs];exact Eu.refl _
theorem yV9 (h:zQg w d 0 val) (hI:Inv (zQa d val)):Calls prog 33 #[d.ptr] w λe w'=>∃c v,e=.returned (zQs.ptr c)/\zQg w' c 0 v/\Eqv (zQa c v) (zQa d val)/\(∀b,c.o b ≠ none->w.heap.size<=b)/\Pu w w':=by
 refine yKj _ w _ ⟨false,w,zXk xXA _ _ _ w,Br.of (λc=>by cases c) (λ_=>?_)⟩
 refine(yZo h hI).mono ?_
 rintro e w1 ⟨f,r,hs,rfl,hfr,hfn,hN,hL1,hfS1⟩
 refine⟨_,f,r,rfl,alB λw2 aj ag=>zQj ag xJi.symm rfl rfl λw3 aH bP _=>?_⟩
 have aQ:Pu w1 w3:=aj.andNew bP λi hi=>by rw[show i=w1.heap.size from hi];exact Nat.le_refl _
 have h3:=hL1.sys.pu aQ
 show Calls prog 85 #[.pointer (some ⟨d.S,0,none⟩)] w3 _
 refine Calls.mono (xXI (by rw[h3.cell];rfl) (zJA h3.st 0)) ?_
 rintro e w4 ⟨rfl,hw4⟩
 have h4:zQg w4 d 1 val:=by rw[hw4];exact h3.setMu 1
 have bp:Fr (·=d.S) w3 w4:=by rw[hw4];exact Fr.cell w3 _ _ _
 refine⟨rfl,?_⟩
 simp only[zQn]
 refine zQf λw5 aB _=>?_
 have h5:=h4.pu aB
 have z1:=hL1.fr.size
 have nS1:¬w1.heap.size=d.S:=λe=>by have:=h.bd.lt d.S (by rw[h.bd.oS];simp);omega
 have aP:=aB.blk (bp.blk aH nS1)
 have c5:∀(k:Nat) {x:Value},(zQR 1 d)[5+k]?=some x->∀y,Pu w5 y->y.cell? (((⟨d.S,0,none⟩:Addr).add 5).add k)=some x:=λk x hx y hy=>by
  rw[zQc,zQc,(h5.pu hy).cell,Nat.zero_add];exact hx
 refine⟨λy=>Pu w5 y,Pu.refl _,_,λy hy=>cl (hy.blk aP) 0,f,λy hy=>cl (hy.blk aP) 1,r,λy hy=>cl (hy.blk aP) 2,?_⟩
 refine⟨_,c5 0 rfl,_,c5 1 rfl,_,c5 2 rfl,d.asv 0,c5 3 rfl,_,c5 4 rfl,_,c5 5 rfl,_,c5 6 rfl,d.asv 1,c5 7 rfl,_,c5 8 rfl,_,c5 9 rfl,_,c5 10 rfl,d.asv 2,c5 11 rfl,_,c5 12 rfl,_,c5 13 rfl,_,c5 14 rfl,d.asv 3,c5 15 rfl,?_⟩
 obtain⟨l,hl,uZ⟩:=h5.lm
 refine⟨_,λy hy=>(h5.pu hy).locks,(yYo hl).mono ?_⟩
 rintro e w6 ⟨rfl,hm6,bx,hs6⟩
 refine⟨_,rfl,bx,alB λw7 bU bQ=>?_⟩
 have hfS5:Fr (·=d.S) w1 w5:=((Fr.pu aQ:Fr (·=d.S) w1 w3).trans bp λi hi _=>hi).trans (Fr.pu aB:Fr (·=d.S) w4 w5) λi hi _=>hi
 have dr:=bx.trans bU
 have wo:Fr (·=d.S) w1 w7:=hfS5.trans (Fr.pu dr:Fr (·=d.S) w5 w7) λi hi _=>hi
 have z15:=hfS5.size
 have z56:=bx.size
 have nS:∀{b:Nat},w.heap.size<=b->¬b=d.S:=λ{b} hb e=>by have:=h.bd.lt d.S (by rw[h.bd.oS];simp);omega
 obtain⟨E0,v0,hC0,eS0⟩:=zYn.start (w0:=w) (h5.pu dr) h.bd.lt (hfS1.trans wo λi hi _=>hi) (S:=w6.heap.size) (L:=w5.heap.size) (hfr.fr wo λb hb=>nS (hfn b hb)) hfn
  ⟨hN.row.fr wo λb hb=>nS (hN.new b hb),hN.new,hN.recs.fr wo λb hb=>nS (hN.vnew b hb).1,hN.vnew,hN.nd⟩ (hm6.pu bU) uZ (by omega) (by omega) bQ
 have jM:=hI.r300
 refine zQ1 4 (λk t' w'=>t'=(k:Int)/\∃E v,zYn w d val k w' E v/\E.S=w6.heap.size) ⟨rfl,E0,v0,hC0,eS0⟩ ?_
 rintro k J t' w8 hk ⟨ht,E,v,hC,eS⟩ hJ
 obtain rfl:t'=(k:Int):=ht
 refine Br.of (λd1=>?_) (λd1=>?_)
 ·have ak:k<4:=by have:=zQm d1;omega
  have hu:=hC.eq.us k
  have ha:((zQa d val).us k).ap.length<=300:=hI.a300 ak
  show zQi (some ⟨w6.heap.size,0,none⟩) _
  rw[zQn,←eS]
  refine⟨by omega,by omega,E.asv k,?_,?_⟩
  ·rw[zQI,zQc,zQc,zQc,Nat.zero_add,hC.ea.cell];exact zKG ak
  have hlen:∀x ∈ E.ah k,(hv v x).length<=1000000:=λx hx=>by
   have h1:toR v x ∈ ((zQa d val).us k).ap:=by rw[←hu.ap];exact List.mem_map_of_mem hx
   have h2:=zQ2 (hI.ga k ak _ h1)
   have h3:(zQa d val).flds.length<=16:=hI.f16
   have h4:(toR v x).v=hv v x:=rfl
   rw[←h4];omega
  refine(zJN (hC.ea.rdA ak hlen) (by rw[hu.ap];omega) λx hx=>?_).mono ?_
  ·rw[hu.ap]at hx
   have h2:=zQ2 (hI.ga k ak _ hx)
   have h3:(zQa d val).flds.length<=16:=hI.f16
   omega
  rintro e w9 ⟨q,hsA,rfl,hq,bR⟩
  rw[hu.ap]at hq
  refine⟨q,rfl,?_⟩
  rw[zQI,zQc,zQc,zQc,Nat.zero_add]
  have hst9:=bR.blk hC.ea.st
  refine zQt hst9 (by show 5+k * 4+3<22;omega) λau v6 qa=>?_
  have dy:Fr (·=E.S) w9 au:=by rw[v6];exact Fr.cell w9 _ _ _
  refine zXz λav gJ=>?_
  have cY:Pu au av:=by rw[gJ];exact Pu.alloc au _
  have wn:zQ3 av zQM chV au.heap.size []:=by rw[gJ];exact zQ3.new au _ _
  have s11:av.heap.size=au.heap.size+1:=by rw[gJ];simp
  have s10:au.heap.size=w9.heap.size:=by rw[v6];simp
  rw[zQc]
  have bK:=cY.blk qa
  refine zQt bK (by rw[Array.size_setIfInBounds];show 5+k * 4+2<22;omega) λao jQ bL=>?_
  have cQ:Fr (·=E.S) av ao:=by rw[jQ];exact Fr.cell av _ _ _
  have u3:ao.heap.size=av.heap.size:=by rw[jQ];simp
  have lS:E.S<w8.heap.size:=zQy hC.ea.st
  have z9:=bR.size
  have nES:∀{b:Nat},w8.heap.size<=b->¬b=E.S:=λ{b} hb e=>by omega
  have oES:d.o E.S=none:=by
   cases e:d.o E.S with
   | none=>rfl
   | some κ=>have:=h.bd.lt E.S (by rw[e];simp);have:=hC.nS;omega
  have hf812:Fr (·=E.S) w8 ao:=(((Fr.pu bR:Fr (·=E.S) w8 w9).trans dy λi hi _=>hi).trans (Fr.pu cY:Fr (·=E.S) au av) λi hi _=>hi).trans cQ λi hi _=>hi
  have qY:zQg ao d 1 val:=hC.da.fr hf812 λb hb e=>hb (by rw[show b=E.S from e];exact oES)
  have hm12:zQ3 ao zQM chV au.heap.size []:=wn.fr cQ (nES (by omega))
  show zQi (some ⟨d.S,0,none⟩) _
  rw[zQn]
  refine⟨by omega,by omega,some (d.C k),?_,?_⟩
  ·rw[zQc,zQc,zQc,Nat.zero_add,qY.cell];exact zVx ak
  obtain⟨aE,hrun,hit,pD,s13⟩:=(qY.mp ak).range (P:=prog) yJQ
  refine⟨_,aE,hrun,?_⟩
  have hb12':ao.heap[E.S]?=some (.cells (zQR 0 { E with asv:=λu=>if u=k then q else E.asv u,C:=λu=>if u=k then au.heap.size else E.C u }) 93):=by
   rw[bL,zYv ak,yKk ak]
  have o12:∀{b:Nat},w.heap.size<=b->d.o b=none:=λ{b} hb=>by
   cases e:d.o b with
   | none=>rfl
   | some κ=>have:=h.bd.lt b (by rw[e];simp);omega
  have z08:=hC.fr.size
  rw[show(E.S)=E.S from rfl]
  refine yY2 (E2:={ E with asv:=λu=>if u=k then q else E.asv u,C:=λu=>if u=k then au.heap.size else E.C u }) (qY.pu pD) hI ak (if_pos rfl) hit (hm12.pu pD) (pD.blk hb12') (o12 (by omega)) (o12 (by omega)) (by omega) (by omega) (by omega) ?_
  intro aI acc accR pt hm14 hst14 hk14 hr14 gH hn14 hE14
  rw[zQd (by omega) (by omega)]
  refine hJ _ _ ak ⟨by omega,?_⟩
  have hf814:Fr (·=E.S) w8 aI:=((hf812.trans (Fr.pu pD:Fr (·=E.S) ao aE) λi hi _=>hi).trans pt λi hi hlt=>by rcases hi with e|e <;> omega)
  have hq9:∀b,w8.heap.size<=b->b<w9.heap.size->∀{B:Nat->Prop},True:=λ_ _ _ _=>trivial
  have ltv:∀b ∈ vB hsA,b<w9.heap.size:=hq.recs.lt
  have ltq:∀b ∈ zQb q,b<w9.heap.size:=hq.row.lt
  have hf914:Fr (λb=>b=E.S∨b=ao.heap.size∨b=au.heap.size) w9 aI:=
   ((((dy.mono (B':=λb=>b=E.S∨b=ao.heap.size∨b=au.heap.size) λi hi _=>.inl hi).trans (Fr.pu cY:Fr (λb=>b=E.S∨b=ao.heap.size∨b=au.heap.size) au av) λi hi _=>hi).trans (cQ.mono (B':=λb=>b=E.S∨b=ao.heap.size∨b=au.heap.size) λi hi _=>.inl hi) λi hi _=>hi).trans (Fr.pu pD:Fr (λb=>b=E.S∨b=ao.heap.size∨b=au.heap.size) ao aE) λi hi _=>hi).trans (pt.mono (B':=λb=>b=E.S∨b=ao.heap.size∨b=au.heap.size) λi hi _=>.inr hi) λi hi _=>hi
  have hq14:zXb w8 aI q hsA ((zQa d val).us k).ap:=⟨hq.row.fr hf914 λb hb e=>by have:=hq.new b hb;have:=ltq b hb;omega,hq.new,hq.recs.fr hf914 λb hb e=>by have:=(hq.vnew b hb).1;have:=ltv b hb;omega,hq.vnew,hq.nd⟩
  obtain⟨E',v',h1,h2⟩:=hC.step ak hf814 (hC.da.fr hf814 λb hb e=>hb (by rw[show b=E.S from e];exact oES)) hst14 hq14 hm14 (by omega) hr14 hk14 (λb hb=>by have:=gH b hb;omega) hn14 hE14 λb hb ag=>by have:=ltv b hb;have:=gH b ag;omega
  exact⟨E',v',h1,h2.trans eS⟩
 ·have ak:k=4:=by have:=zQh d1;omega
  subst ak
  obtain⟨c,hc,e1,e2,hcn⟩:=hC.done
  refine yQW hC.da λw9 h9 jX _=>?_
  refine⟨c,v,by rw[zQs.ptr,e2,eS],hc.fr jX λb hb e=>?_,by rw[e1];exact hC.eq,hcn,yKg h h9 (hC.fr.trans jX λi hi _=>hi)⟩
  have:=hcn b hb
  exact nS this e
end Go.Proofs.YtcihcbfcgjepfaaGreatDoor
