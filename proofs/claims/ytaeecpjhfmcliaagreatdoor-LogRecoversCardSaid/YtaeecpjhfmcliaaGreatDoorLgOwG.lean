import Derived.Test.YtaeecpjhfmcliaaGreatDoorLgOwF
import Derived.Test.YtaeecpjhfmcliaaGreatDoorLgPrB
/- The log: rows, tables and files are copied. No condition but those stated. -/
set_option maxRecDepth 100000
set_option linter.unusedVariables false
set_option linter.unusedSimpArgs false
noncomputable section
namespace Go.Proofs.YtaeecpjhfmcliaaGreatDoor
open Go.Sh Go.RowKit Tryz
variable {w w' : World}
def zYB(w:World)(e:TypeId)(sz:Nat)(news:List Value):Rt:=λx w'=>∃q:SV,x=.returned (slV q)/\zQl w' e sz q news/\(∀b ∈ zQd q,w.heap.size<=b)/\Pu w w'
theorem zKq {t e:TypeId} {sz b:Nat} {z:Value} (ht:prog.underlying t=some (.slice e)) (hi:(prog.info? e).map (λi=>(i.zero,i.size,i.bytes))=some (some z,sz,b)) (hz:z.cells.size=sz) (hsz:0<sz)
  (s:SV) {news:List Value} (hl:news.length=s.len * sz) (hn:∀j u,news[j]?=some u->∃a,s.a=some a/\w.cell? (a.add j)=some u) (h1:∀u ∈ news,u.oneCell'=true) (hb:s.len * (b+1)<=140737488355328)
  :
  ∃b4:Bool,∃w1:World,(eqS .eql t (.tmp 3) (.const (.slice none 0 0)) (.slice s.a s.len s.cap) (.slice none 0 0)).run prog w=.ok (.bool b4) w1/\
  Br b4 (zYB w e sz news (.returned (.slice none 0 0)) w1) (alE (.cells #[] e) w1 λr5 w3=>
   ∃l7:SV,∃w4:World,(Builtin.append_ #[t,t] t #[.slice (some ⟨r5,0,none⟩) 0 0,.slice s.a s.len s.cap]).run prog w3=.ok (.slice l7.a l7.len l7.cap) w4/\zYB w e sz news (.returned (.slice l7.a l7.len l7.cap)) w4):=by
 refine⟨_,w,yXF ht _ _ _ _ _ w,Br.of (λhn'=>?_) (λhn'=>?_)⟩
 ·have sT:news=[]:=by
   cases news with
   | nil=>rfl
   | cons v l=>
    obtain⟨a,ha,_⟩:=hn 0 v rfl
    rw[ha]at hn';cases hn'
  subst sT
  exact⟨⟨none,0,0⟩,rfl,zQl.nil _ _ _,by simp[zQd],Pu.refl w⟩
 ·refine zYw λw1 ka=>?_
  have aq:Pu w w1:=by rw[ka];exact Pu.alloc w _
  have sU:zQl w1 e sz ⟨some ⟨w.heap.size,0,none⟩,0,0⟩ []:=⟨by simp,.inr ⟨_,#[],rfl,by rw[ka];exact zZk w _,Nat.le_refl _,Nat.zero_le _,by simp,by simp⟩⟩
  obtain⟨q,w2,hr,hrow,hf,hblk,_⟩:=zQz (P:=prog) (ty:=t) ht hi hz hsz sU (A:=s.a) (m:=s.len) (c:=s.cap) (news:=news) hl (λj u hu=>by
   obtain⟨a,ha,hc⟩:=hn j u hu
   exact⟨a,ha,aq.cell hc⟩) h1 (by show(0+s.len) * (b+1)<=_;rw[Nat.zero_add];exact hb)
  rw[List.nil_append]at hrow
  refine⟨q,w2,hr,q,rfl,hrow,λb hb=>?_,aq.andNew hf λb hb=>by simp[zQd]at hb;omega⟩
  rcases hblk b hb with h|h
  ·simp[zQd]at h;omega
  ·have:=aq.size;omega
theorem zJ2 {α:Type} {cells:α->List Value} {n:Nat} (hn:∀x,(cells x).length=n) (h0:0<n) {s:SV} {l:List α} (h:∀i x,l[i]?=some x->∃a,s.a=some a/\∀o v,(cells x)[o]?=some v->w.cell? ((a.add (i * n)).add o)=some v) :
  ∀j u,(l.flatMap cells)[j]?=some u->∃a,s.a=some a/\w.cell? (a.add j)=some u:=λj u hu=>by
 have hj:j<l.length * n:=by have:=(List.getElem?_eq_some_iff.1 hu).1;rwa [zQ2 hn]at this
 have hd:j / n<l.length:=(Nat.div_lt_iff_lt_mul h0).2 hj
 have hm:j / n * n+j % n=j:=by have:=Nat.div_add_mod j n;rw[Nat.mul_comm]at this;exact this
 obtain⟨x,hx⟩:=zQL hd
 obtain⟨a,ha,hc⟩:=h _ x hx
 have h2:=zKI hn hx (j % n) (Nat.mod_lt _ h0)
 rw[hm,hu]at h2
 have h3:=hc _ u h2.symm
 rw[Addr.add_add,hm]at h3
 exact⟨a,ha,h3⟩
theorem yXD{s:SV}{l:List Val}(h:RdV w s l)(hb:l.length<=1000000):Calls prog 78 #[slV s] w (zYB w 73 3 (l.flatMap zV6)):=by
 have hl:=h.len
 refine xZj s w _ (zKq vu38 vi73 rfl (by decide) s (by rw[zQ2 zXB,hl]) (zJ2 zXB (by decide) λi v hv=>?_) (λu hu=>?_) (by omega))
 ·obtain⟨a,ha,c0,c1,c2⟩:=h.get i v hv
  refine⟨a,ha,λo u hu=>?_⟩
  rcases o with _|_|_|o <;> simp[zV6]at hu <;> subst hu <;> assumption
 ·obtain⟨y,_,hy⟩:=List.mem_flatMap.1 hu
  simp[zV6]at hy
  rcases hy with rfl|rfl|rfl <;> rfl
theorem xJo{s:SV}{l:List Fld}(h:zX7 w s l)(hb:l.length<=1000000):Calls prog 97 #[slV s] w (zYB w 129 4 (l.flatMap zYg)):=by
 have hl:=h.len
 refine xXi s w _ (zKq vu32 vi129 rfl (by decide) s (by rw[zQ2 zZN,hl]) (zJ2 zZN (by decide) λi v hv=>?_) (λu hu=>?_) (by omega))
 ·obtain⟨a,ha,_,_,_,_,c0,c1,c2,c3⟩:=zJk h hv
  refine⟨a,ha,λo u hu=>?_⟩
  rcases o with _|_|_|_|o <;> simp[zYg]at hu <;> subst hu <;> assumption
 ·obtain⟨y,_,hy⟩:=List.mem_flatMap.1 hu
  simp[zYg]at hy
  rcases hy with rfl|rfl|rfl|rfl <;> rfl
def RdR (w:World) (s:SV) (hs:List (Bool × SV)) (rs:List Rec):Prop:=s.len=rs.length/\hs.length=rs.length/\(∀(i:Nat) (x:Bool × SV),hs[i]?=some x->∃a,s.a=some a/\w.cell? ((a.add (i * 2)).add 0)=some (.bool x.1)/\w.cell? ((a.add (i * 2)).add 1)=some (slV x.2))/\∀(i:Nat) (x:Bool × SV) (r:Rec),hs[i]?=some x->rs[i]?=some r->x.1=r.gone/\RdV w x.2 r.v
theorem RdR.of{s:SV}{rs:List Rec}(h:zX7 w s rs):∃hs,RdR w s hs rs:=by
 have key:∀i r,rs[i]?=some r->∃x:Bool × SV,∃a,s.a=some a/\w.cell? ((a.add (i * 2)).add 0)=some (.bool x.1)/\w.cell? ((a.add (i * 2)).add 1)=some (slV x.2)/\x.1=r.gone/\RdV w x.2 r.v:=λi r hr=>by
  obtain⟨a,t,h1,_,h2,h3,h4⟩:=zWo h hr
  exact⟨(r.gone,t),a,h1,h3,h4,rfl,RdV.of h2⟩
 have xC:∀n,n<=rs.length->∃hs:List (Bool × SV),hs.length=n/\∀(i:Nat) (x:Bool × SV) (r:Rec),hs[i]?=some x->rs[i]?=some r->∃a,s.a=some a/\w.cell? ((a.add (i * 2)).add 0)=some (.bool x.1)/\w.cell? ((a.add (i * 2)).add 1)=some (slV x.2)/\x.1=r.gone/\RdV w x.2 r.v:=by
  intro n
  induction n with
  | zero=>exact λ_=>⟨[],rfl,λi x r hx=>by simp at hx⟩
  | succ n ih=>
   intro hn
   obtain⟨hs,h1,h2⟩:=ih (by omega)
   obtain⟨r,hr⟩:=zQL (l:=rs) (k:=n) (by omega)
   obtain⟨x,hx⟩:=key n r hr
   refine⟨hs ++ [x],by simp[h1],λi y r' hy hr'=>?_⟩
   rcases Nat.lt_trichotomy i n with hi|hi|hi
   ·rw[List.getElem?_append_left (by omega)]at hy;exact h2 i y r' hy hr'
   ·subst hi
    rw[List.getElem?_append_right (by omega),h1,Nat.sub_self]at hy
    simp at hy;subst hy
    rw[hr]at hr';cases hr'
    exact hx
   ·rw[List.getElem?_eq_none (by rw[List.length_append,h1,List.length_singleton];omega)]at hy;cases hy
 obtain⟨hs,h1,h2⟩:=xC rs.length (Nat.le_refl _)
 refine⟨hs,h.len,h1,λi x hx=>?_,λi x r hx hr=>?_⟩
 ·obtain⟨r,hr⟩:=zQL (l:=rs) (k:=i) (by have:=(List.getElem?_eq_some_iff.1 hx).1;omega)
  obtain⟨a,q1,q2,q3,_⟩:=h2 i x r hx hr
  exact⟨a,q1,q2,q3⟩
 ·obtain⟨a,_,_,_,q4,q5⟩:=h2 i x r hx hr
  exact⟨q4,q5⟩
theorem xZV {s:SV} {hs:List (Bool × SV)} {rs:List Rec} (h:RdR w s hs rs) (hb:rs.length<=1000000):Calls prog 98 #[slV s] w (zYB w 67 2 (hs.flatMap yK8)):=by
 obtain⟨hl,pA,h3,h4⟩:=h
 refine xQP s w _ (zKq vu33 vi67 rfl (by decide) s (by rw[zQ2 zQS,hl,pA]) (zJ2 zQS (by decide) λi v hv=>?_) (λu hu=>?_) (by omega))
 ·obtain⟨a,ha,c0,c1⟩:=h3 i v hv
  refine⟨a,ha,λo u hu=>?_⟩
  rcases o with _|_|o <;> simp[yK8]at hu <;> subst hu <;> assumption
 ·obtain⟨y,_,hy⟩:=List.mem_flatMap.1 hu
  simp[yK8]at hy
  rcases hy with rfl|rfl <;> rfl
theorem xJi{s:SV}{l:List UInt8}(h:ByV w s l)(hb:l.length<=1000000000):Calls prog 110 #[slV s] w λe w'=>∃q:SV,e=.returned (slV q)/\zQf w w' q l/\Pu w w':=by
 have hl:=h.len
 refine(yWp s w (zYB w 5 1 (l.map u8V)) (zKq vu22 vi5 rfl (by decide) s (by rw[List.length_map,Nat.mul_one,hl]) (λj u hu=>?_) (λu hu=>?_) (by omega))).mono λe w' ⟨q,h0,h1,h2,h3⟩=>⟨q,h0,⟨h1,h2⟩,h3⟩
 ·obtain⟨b,hb,rfl⟩:∃b,l[j]?=some b/\u8V b=u:=by simpa using hu
  obtain⟨a,ha,hc⟩:=h.get j b hb
  exact⟨a,ha,by rw[Nat.mul_one]at hc;exact hc⟩
 ·obtain⟨y,_,rfl⟩:=List.mem_map.1 hu;rfl
theorem zXF.cells{s q0 q1:SV}{F:Fls}(h:zXF w s q0 q1 F):∀(j:Nat) u,[slV q0,slV q1][j]?=some u->∃a,s.a=some a/\w.cell? (a.add j)=some u:=by
 obtain⟨a,h1,h2,h3⟩:=h.ex
 refine λj u hu=>⟨a,h1,?_⟩
 rcases j with _|_|j <;> simp at hu <;> subst hu <;> assumption
theorem yYN{s q0 q1:SV}{F:Fls}(h:zXF w s q0 q1 F):Calls prog 109 #[slV s] w (zYB w 22 1 [slV q0,slV q1]):=by
 have hl:=h.len
 refine yWs s w _ (zKq vu82 vi22 rfl (by decide) s (by rw[hl];rfl) h.cells (λu hu=>?_) (by omega))
 simp at hu
 rcases hu with rfl|rfl <;> rfl
structure zKW(w0 w:World)(t:Tbl)(h:HT):Prop where
 tab:zJM w t h
 f:zQl w 129 4 h.f (t.fields.flatMap zYg)
 fn:∀b ∈ zQd h.f,w0.heap.size<=b
 rn:∀b ∈ zQd h.r,w0.heap.size<=b
 vn:∀b ∈ vBl h.hs,w0.heap.size<=b
theorem zKW.fr{w0:World}{t:Tbl}{h:HT}{B:Nat->Prop}(ht:zKW w0 w t h)(hf:Fr B w w')(hn:∀b,w0.heap.size<=b->b<w.heap.size->¬B b):zKW w0 w' t h where
 tab:=ht.tab.fr hf λb hb=>hn b (hb.elim (ht.rn b) (ht.vn b)) (ht.tab.lt b hb)
 f:=ht.f.fr hf λb hb=>hn b (ht.fn b hb) (ht.f.lt b hb)
 fn:=ht.fn
 rn:=ht.rn
 vn:=ht.vn
theorem zKW.pu{w0:World}{t:Tbl}{h:HT}(ht:zKW w0 w t h)(hp:Pu w w'):zKW w0 w' t h:=ht.fr (Fr.pu hp:Fr (λ_=>False) w w') λ_ _ _ h=>h
theorem zKW.low{w0 w1:World}{t:Tbl}{h:HT}(ht:zKW w1 w t h)(hz:w0.heap.size<=w1.heap.size):zKW w0 w t h:=
 ⟨ht.tab,ht.f,λb hb=>Nat.le_trans hz (ht.fn b hb),λb hb=>Nat.le_trans hz (ht.rn b hb),λb hb=>Nat.le_trans hz (ht.vn b hb)⟩
theorem zW9 {t:Tbl} {s:SV} (hv:zQg t=0) (ht:zQl w 129 4 s (t.fields.flatMap zYg)):zX7 w s t.fields:=by
 have ho:=zJj.of hv
 have i8:=ho.n16
 refine zKH.rd (w0:={ w with heap:=#[] }) ⟨ht,λ_ _=>Nat.zero_le _⟩ (by omega) λg hg=>?_
 have hg:=List.all_eq_true.1 ho.all g hg
 have h1:=yQY hg
 have h2:=zXs hg
 exact⟨⟨by omega,by omega⟩,⟨by omega,by omega⟩⟩
theorem zKW.fields{w0:World}{t:Tbl}{h:HT}(ht:zKW w0 w t h)(hv:zQg t=0):zX7 w h.f t.fields:=zW9 hv ht.f
theorem zKW.rd{w0:World}{t:Tbl}{h:HT}(ht:zKW w0 w t h)(hv:zQg t=0):zX2 w t h.f h.r:=ht.tab.rd (ht.fields hv) hv
theorem zYC(s:SV):(zQd s).Nodup:=by unfold zQd;split <;> simp
theorem zXz (a b:List (Bool × SV)):vBl (a ++ b)=vBl a ++ vBl b:=by unfold vBl;rw[List.flatMap_append]
theorem yYO {hs:List (Bool × SV)} {k:Nat} {x:Bool × SV} (hk:k<hs.length):hs.set k x=hs.take k ++ x :: hs.drop (k+1):=by
 rw[List.set_eq_take_append_cons_drop,if_pos hk]
theorem RdR.pu {s:SV} {hs:List (Bool × SV)} {rs:List Rec} (h:RdR w s hs rs) (hp:Pu w w'):RdR w' s hs rs:=
 ⟨h.1,h.2.1,λi x hx=>let ⟨a,h1,h2,h3⟩:=h.2.2.1 i x hx;⟨a,h1,hp.cell h2,hp.cell h3⟩,λi x r hx hr=>⟨(h.2.2.2 i x r hx hr).1,(h.2.2.2 i x r hx hr).2.pu hp⟩⟩
theorem zJV{t:Tbl}{f r:SV}(h:zX2 w t f r)(hv:zQg t=0):Calls prog 56 #[zVe t f r] w λe w'=>∃q:HT,e=.returned (.agg #[.int .i64 q.page,slV q.f,slV q.r])/\zKW w w' t q/\Pu w w':=by
 have hR:=zQN.of hv
 have cJ:=hR.n300
 have pq:=zZr hv
 have i8:=(zJj.of hv).n16
 obtain⟨hs,hrr⟩:=RdR.of h.recs
 have r2:=hrr.2.1
 refine xXU _ _ _ w _ (alB λw1 aq aB=>alB λw2 ar aM=>?_)
 have cN:=ar.blk aB
 have aG:=aq.trans ar
 refine⟨f,cl cN 1,(xJo (h.fields.pu aG) (by omega)).mono ?_⟩
 rintro e w3 ⟨q,rfl,hq,hqn,ax⟩
 have kU:=ax.blk cN
 have qq:=ax.blk aM
 have l1:w.heap.size<w1.heap.size:=zQy aB
 have l2:w1.heap.size<w2.heap.size:=zQy aM
 have z3:=ax.size
 refine⟨q,rfl,zQt kU (by show 1<3;omega) λw4 hw4 iE=>?_⟩
 have f34:Fr (·=w.heap.size) w3 w4:=by rw[hw4];exact Fr.cell w3 _ _ _
 have cq:Pu w w4:=(aG.trans ax).andNew f34 λi hi=>by rw[show i=_ from hi];exact Nat.le_refl _
 have te:=f34.blk qq (show ¬w1.heap.size=w.heap.size by omega)
 have yx:=hq.fr f34 λb hb e=>by have:=hqn b hb;have e:b=w.heap.size:=e;omega
 refine⟨r,cl iE 2,(xZV (hrr.pu cq) (by omega)).mono ?_⟩
 rintro e w5 ⟨s,rfl,kK,hsn,aT⟩
 have j4:=aT.blk iE
 have o9:=aT.blk te
 have z4:w4.heap.size=w3.heap.size:=by rw[hw4];simp
 have z5:=aT.size
 refine⟨s,rfl,zQt j4 (by show 2<3;omega) λw6 hw6 kb=>?_⟩
 have f56:Fr (·=w.heap.size) w5 w6:=by rw[hw6];exact Fr.cell w5 _ _ _
 have z6:w6.heap.size=w5.heap.size:=by rw[hw6];simp
 have eL:Pu w w6:=(cq.trans aT).andNew f56 λi hi=>by rw[show i=_ from hi];exact Nat.le_refl _
 have o6:=f56.blk o9 (show ¬w1.heap.size=w.heap.size by omega)
 have sQ:=kK.fr f56 λb hb e=>by have:=hsn b hb;have e:b=w.heap.size:=e;omega
 have tt:=(yx.pu aT).fr f56 λb hb e=>by have:=hqn b hb;have e:b=w.heap.size:=e;omega
 have hsl:=sQ.len zQS (by decide)
 refine⟨s,cl kb 2,?_⟩
 rw[show((s.len:Nat):Int)=((t.recs.length:Nat):Int)by rw[hsl,r2]]
 -- the loop: so many rows of values are new
 refine zQx t.recs.length (λk j w'=>j=(k:Int)/\∃ns:List (Bool × SV),ns.length=k/\zQl w' 67 2 s ((ns ++ hs.drop k).flatMap yK8)/\w'.heap[w.heap.size]?=some (.cells #[.int .i64 t.page,slV q,slV s] 35)/\w'.heap[w1.heap.size]?=some (.cells #[.int .i64 0,.slice none 0 0,.slice none 0 0] 35)/\
   Pu w w'/\zQl w' 129 4 q (t.fields.flatMap zYg)/\w6.heap.size<=w'.heap.size/\(vBl ns).Nodup/\(∀b ∈ vBl ns,w6.heap.size<=b)/\∀(i:Nat) (x:Bool × SV) (r:Rec),ns[i]?=some x->t.recs[i]?=some r->x.1=r.gone/\zQl w' 73 3 x.2 (r.v.flatMap zV6))
  ⟨rfl,[],rfl,by simpa using sQ,kb,o6,eL,tt,Nat.le_refl _,by simp[vBl],by simp[vBl],λi x r hx=>by simp at hx⟩ ?_
 rintro k J j wa hk ⟨hj,ns,n1,n2,n3,n4,n5,n6,n7,n8,n9,jb⟩ hJ
 obtain rfl:j=(k:Int):=hj
 have hsl:=n2.len zQS (by decide)
 rw[List.length_append,List.length_drop,n1,r2]at hsl
 refine Br.of (λc=>?_) (λc=>?_)
 ·have hkn:k<t.recs.length:=by have:=zQk c;omega
  obtain⟨x,hx⟩:=zQL (l:=hs) (k:=k) (by omega)
  obtain⟨rc,hrc⟩:=zQL hkn
  have hnx:(ns ++ hs.drop k)[k]?=some x:=by rw[List.getElem?_append_right (by omega),n1,Nat.sub_self,List.getElem?_drop,Nat.add_zero];exact hx
  obtain⟨e1,e2⟩:=hrr.2.2.2 k x rc hx hrc
  obtain⟨a,ha,_,c0⟩:=n2.elem zQS hnx (o:=0) rfl
  obtain⟨a',ha',_,c1⟩:=n2.elem zQS hnx (o:=1) rfl
  rw[ha]at ha';cases ha'
  refine⟨a,ha,by omega,by omega,x.1,by rw[zXf];exact c0,x.2,by rw[zXf];exact c1,?_⟩
  refine alB λwb hpb bb=>zQi bb yWG.symm rfl rfl λwc bc fc zc=>zQb λwd hpd hhd=>?_
  have hac:Pu wa wc:=hpb.andNew fc λi hi=>by rw[show i=_ from hi];exact Nat.le_refl _
  have had:=hac.trans hpd
  have bd:=hpd.blk bc
  have hr300:rc.v.length<=1000000:=(pq rc (List.mem_of_getElem? hrc)).2
  refine⟨λu=>Pu wd u,Pu.refl _,s,λu hu=>cl (hu.blk (had.blk n3)) 2,x.2,λu hu=>cl (hu.blk bd) 1,(yXD (e2.pu (n5.trans had)) hr300).mono ?_⟩
  rintro e we ⟨v,rfl,hv1,hv2,hpe⟩
  have hae:=had.trans hpe
  refine⟨v,rfl,hpe,a,ha,by omega,by omega,?_⟩
  obtain⟨a2,tO,hst⟩:∃a2,s.a=some a2/\Sh.st1 ((a2.add (k * 2)).add 1) (slV v) we λw'=>J (IntKind.i64.wrap ((k:Int)+1)) w':=by
   refine zQl.stField (n2.pu hae) zQS (i:=k) (o:=1) (by rw[List.length_append,List.length_drop,n1];omega) (by decide) (x.1,v) (slV v) (λy hy=>by rw[hnx]at hy;cases hy;rfl) λwf hwf ff zf=>?_
   rw[zQa (by omega) (by omega)]
   have hne:∀{b:Nat} {c:Array Value} {e:TypeId},we.heap[b]?=some (.cells c e)->e ≠ 67->¬b ∈ zQd s:=λhb he=>(n2.pu hae).other hb (Ne.symm he)
   have zae:=hae.size
   have hslo:∀b ∈ zQd s,w4.heap.size<=b:=hsn
   have hshi:∀b ∈ zQd s,b<w6.heap.size:=sQ.lt
   refine hJ _ _ hkn ⟨by omega,ns ++ [(x.1,v)],by simp[n1],?_,ff.blk (hae.blk n3) (hne (hae.blk n3) (by decide)),ff.blk (hae.blk n4) (hne (hae.blk n4) (by decide)),(n5.trans hae).andNew ff λb hb=>by have:=hslo b hb;omega,(n6.pu hae).fr ff (λb hb aM=>zQn (n6.pu hae) (n2.pu hae) (by decide) b hb aM),by omega,?_,?_,?_⟩
   ·have e:(ns ++ hs.drop k).set k (x.1,v)=ns ++ [(x.1,v)] ++ hs.drop (k+1):=by
     rw[List.set_append,if_neg (by omega),n1,Nat.sub_self,zXU hx,List.set_cons_zero,List.append_assoc];rfl
    rw[←e];exact hwf
   ·rw[zXz]
    refine List.nodup_append.2 ⟨n8,by simp[vBl,zYC],λb hb c hc e=>?_⟩
    subst e
    have hc:b ∈ zQd v:=by simpa[vBl] using hc
    have h1:=hv2 b hc
    obtain⟨y,hy,hyb⟩:=List.mem_flatMap.1 hb
    obtain⟨i,hi⟩:=List.getElem?_of_mem hy
    obtain⟨ry,hry⟩:=zQL (l:=t.recs) (k:=i) (by have:=(List.getElem?_eq_some_iff.1 hi).1;omega)
    have h2:=(jb i y ry hi hry).2.lt b hyb
    have:=had.size
    omega
   ·intro b hb
    rw[zXz,List.mem_append]at hb
    rcases hb with hb|hb
    ·exact n9 b hb
    ·have hb:b ∈ zQd v:=by simpa[vBl] using hb
     have h1:=hv2 b hb
     have:=had.size
     omega
   ·intro i y ry hy hry
    rcases Nat.lt_trichotomy i k with hi|hi|hi
    ·rw[List.getElem?_append_left (by omega)]at hy
     obtain⟨q1,q2⟩:=jb i y ry hy hry
     exact⟨q1,(q2.pu hae).fr ff (zQn (q2.pu hae) (n2.pu hae) (by decide))⟩
    ·subst hi
     rw[List.getElem?_append_right (by omega),n1,Nat.sub_self]at hy
     simp at hy;subst hy
     rw[hrc]at hry;cases hry
     exact⟨e1,hv1.fr ff (zQn hv1 (n2.pu hae) (by decide))⟩
    ·rw[List.getElem?_eq_none (by rw[List.length_append,n1,List.length_singleton];omega)]at hy;cases hy
  rw[ha]at tO;cases tO
  rw[zXf];exact hst
 ·have hkn:k=t.recs.length:=by have:=zQe c;omega
  subst hkn
  refine⟨_,cl n3 0,q,cl n3 1,s,cl n3 2,zQi n4 zKZ.symm rfl rfl λwz bz fz zz=>⟨_,cl bz 0,q,cl bz 1,s,cl bz 2,⟨t.page,q,s,ns⟩,rfl,?_,n5.andNew fz λi hi=>by rw[show i=_ from hi];omega⟩⟩
  rw[←r2,List.drop_length,List.append_nil]at n2
  have nz:∀b,w2.heap.size<=b->b ≠ w1.heap.size:=λb hb e=>by omega
  refine⟨⟨rfl,n2.fr fz λb hb=>nz b (by have:=hsn b hb;omega),n1,λi x r hx hr=>⟨(jb i x r hx hr).1,(jb i x r hx hr).2.fr fz λb hb=>nz b (by have:=n9 b (zV5 (List.mem_of_getElem? hx) hb);omega)⟩,n8⟩,n6.fr fz λb hb=>nz b (hqn b hb),λb hb=>by have:=hqn b hb;omega,λb hb=>by have:=hsn b hb;omega,λb hb=>by have:=n9 b hb;omega⟩
end Go.Proofs.YtaeecpjhfmcliaaGreatDoor
/- The log: numbers, sums and records as the program writes and reads them. No condition but those stated. -/
namespace Go.Proofs.YtaeecpjhfmcliaaGreatDoor
open Go.Sh Go.RowKit Tryz
variable {w w' : World}
theorem zWU:∀(k n:Nat),zJi n k=zVU n k
 | 0,_=>rfl
 | k+1,n=>by
  rw[zJi,zWU k]
  unfold zVU
  rw[List.range_succ_eq_map,List.map_cons,List.map_map]
  congr 1
  ·rw[Nat.pow_zero,Nat.div_one]
  ·refine List.map_congr_left λj _=>?_
   show UInt8.ofNat (n / 256 / 256 ^ j % 256)=UInt8.ofNat (n / 256 ^ (j+1) % 256)
   rw[Nat.div_div_eq_div_mul,Nat.pow_succ,Nat.mul_comm 256]
theorem xQr(n k:Nat):zJi n (k+1)=zJi n k ++ [UInt8.ofNat (n / 256 ^ k % 256)]:=by rw[zWU,zWU,yZC]
theorem yKO(j:Nat):256 ^ j=2 ^ (8 * j):=by rw[Nat.pow_mul]
theorem yK9(n k:Nat)(hk:k<=7)(hn:n<=1000000000000000)(w:World):Calls prog 143 #[.int .i64 (n:Int),.int .i64 (k:Int)] w λe w'=>∃q:SV,e=.returned (slV q)/\zQf w w' q (zJi n k)/\Pu w w':=by
 obtain⟨i,h2,h3,h4,h5⟩:=info_parts vi5
 obtain⟨w1,hr,hrow,aq,hz1⟩:=zYk (P:=prog) (w:=w) vu22 h2 h3 h4 .i64 .i64 k (by rw[h5];omega) (by omega)
 refine yWA _ _ w _ ⟨⟨some ⟨w.heap.size,0,none⟩,k,k⟩,w1,hr,?_⟩
 have hz:((madeCells (Value.int .u8 0).cells (k * 1)).toList)=(List.replicate k (0:UInt8)).map u8V:=by
  rw[show(Value.int IntKind.u8 0).cells=#[.int .u8 0]from rfl,toList_madeCells_one,Nat.mul_one,List.map_replicate]
  rfl
 rw[hz]at hrow
 refine zQx k (λj t w'=>t=(j:Int)/\zQl w' 5 1 ⟨some ⟨w.heap.size,0,none⟩,k,k⟩ ((zJi n j ++ List.replicate (k - j) 0).map u8V)/\Pu w w') ⟨rfl,by simpa[zJi] using hrow,aq⟩ ?_
 rintro j J t w2 hj ⟨ht,h6,ar⟩ hJ
 obtain rfl:t=(j:Int):=ht
 refine Br.of (λc=>?_) (λc=>?_)
 ·have hjk:j<k:=by have:=zQk c;dsimp only at this;omega
  rw[zQa (n:=8 * (j:Int)) (by omega) (by omega)]
  obtain⟨a,ha,hst⟩:=h6.st1 (j:=j) (by rw[List.length_map,List.length_append,zQ7,List.length_replicate];omega) (.int .u8 (IntKind.u8.wrap ((n:Int).fdiv (2 ^ (min (8 * (j:Int)).toNat 64))))) (K:=λw3=>J (IntKind.i64.wrap ((j:Int)+1)) w3) λw3 h7 hf hs=>by
   rw[zQa (by omega) (by omega)]
   refine hJ _ _ hjk ⟨rfl,?_,ar.andNew hf λb hb=>by simp[zQd]at hb;omega⟩
   have e:(.int .u8 (IntKind.u8.wrap ((n:Int).fdiv (2 ^ (min (8 * (j:Int)).toNat 64)))):Value)=u8V (UInt8.ofNat (n / 256 ^ j % 256)):=by
    rw[zJC]
    congr 1
    rw[←zY6]
    congr 1
    rw[show(min (8 * (j:Int)).toNat 64)=8 * j by omega,Int.fdiv_eq_ediv_of_nonneg _ (by exact_mod_cast Nat.zero_le _),yKO]
    norm_cast
   rw[e]at h7
   have e2:((zJi n j ++ List.replicate (k - j) 0).map u8V).set j (u8V (UInt8.ofNat (n / 256 ^ j % 256)))=(zJi n (j+1) ++ List.replicate (k - (j+1)) 0).map u8V:=by
    rw[←List.map_set]
    congr 1
    rw[List.set_append,if_neg (by rw[zQ7];omega),zQ7,Nat.sub_self,show k - j=(k - (j+1))+1 by omega,List.replicate_succ,List.set_cons_zero,xQr,List.append_assoc]
    rfl
   rw[←e2];exact h7
  refine⟨by omega,a,ha,by omega,by show(j:Int)<((k:Nat):Int);omega,?_⟩
  rw[zXf,Nat.mul_one]
  exact hst
 ·have hjk:j=k:=by have:=zQe c;dsimp only at this;omega
  subst hjk
  rw[Nat.sub_self,List.replicate_zero,List.append_nil]at h6
  exact⟨_,rfl,⟨h6,λb hb=>by simp[zQd]at hb;omega⟩,ar⟩
theorem zVn:∀{d:List UInt8} {j:Nat} {b:UInt8},d[j]?=some b->zQZ (d.take (j+1))=zQZ (d.take j)+b.toNat * 256 ^ j
 | [],j,b,h=>by simp at h
 | c :: d,0,b,h=>by simp at h;subst h;simp[zQZ]
 | c :: d,j+1,b,h=>by
  have h:d[j]?=some b:=by simpa using h
  rw[List.take_succ_cons,List.take_succ_cons,zQZ,zQZ,zVn h,Nat.pow_succ,Nat.mul_add,Nat.add_assoc]
  congr 2
  rw[Nat.mul_comm 256,Nat.mul_assoc]
theorem yXM:∀d:List UInt8,zQZ d<256 ^ d.length
 | []=>by simp[zQZ]
 | c :: d=>by
  have h1:=yXM d
  have h2:=c.toNat_lt
  rw[zQZ,List.length_cons,Nat.pow_succ]
  omega
theorem xYC{a b j:Nat}(ha:a<2 ^ j):a ||| (b * 2 ^ j)=a+b * 2 ^ j:=by
 rw[Nat.or_comm,←Nat.shiftLeft_eq,←Nat.shiftLeft_add_eq_or_of_lt ha,Nat.add_comm]
theorem xYh(b:UInt8):b.toNat<256:=b.toNat_lt
theorem yXv{s:SV}{d:List UInt8}(h:ByV w s d)(hd:d.length<=7):Calls prog 126 #[slV s] w λe w'=>e=.returned (.int .i64 (zQZ d:Nat))/\Pu w w':=by
 have hl:=h.len
 refine yVo _ w _ ?_
 refine zQx d.length (λj t w'=>t.2=(j:Int)/\t.1=((zQZ (d.take j):Nat):Int)/\Pu w w') ⟨rfl,rfl,Pu.refl _⟩ ?_
 rintro j J ⟨t1,t2⟩ w2 hj ⟨h2,h1,hp⟩ hJ
 obtain rfl:t2=(j:Int):=h2
 obtain rfl:t1=((zQZ (d.take j):Nat):Int):=h1
 dsimp only
 refine Br.of (λc=>?_) (λc=>?_)
 ·have hjk:j<d.length:=by have:=zQk c;omega
  obtain⟨b,hb⟩:=zQL hjk
  obtain⟨a,ha,hc⟩:=(h.pu hp).get j b hb
  have hB:=xYh b
  have hlt:=yXM (d.take j)
  rw[List.length_take,Nat.min_eq_left (by omega),yKO]at hlt
  have ck:(2:Nat) ^ (8 * j)<=2 ^ 48:=Nat.pow_le_pow_right (by decide) (by omega)
  have hmul:b.toNat * 2 ^ (8 * j)<=255 * 2 ^ 48:=Nat.mul_le_mul (by omega) ck
  refine⟨a,ha,by omega,by omega,_,by rw[zXf];exact hc,?_⟩
  rw[zQa (n:=8 * (j:Int)) (by omega) (by omega)]
  refine⟨by omega,?_⟩
  have e0:(min (8 * (j:Int)).toNat 64)=8 * j:=by omega
  have e1:IntKind.i64.wrap (IntKind.i64.wrap ((b.toNat:Nat):Int) * 2 ^ (8 * j))=((b.toNat * 2 ^ (8 * j):Nat):Int):=by
   rw[zQa (n:=((b.toNat:Nat):Int)) (by omega) (by omega),show((b.toNat:Nat):Int) * 2 ^ (8 * j)=((b.toNat * 2 ^ (8 * j):Nat):Int)by norm_cast]
   exact zQa (by omega) (by omega)
  have e2:(BitVec.ofInt 64 ((zQZ (d.take j):Nat):Int) ||| BitVec.ofInt 64 ((b.toNat * 2 ^ (8 * j):Nat):Int)).toNat=zQZ (d.take (j+1)):=by
   rw[BitVec.toNat_or,BitVec.toNat_ofInt,BitVec.toNat_ofInt]
   have m1:(((zQZ (d.take j):Nat):Int) % ((2 ^ 64:Nat):Int)).toNat=zQZ (d.take j):=by
    rw[Int.emod_eq_of_lt (by omega) (by have p48:(2:Nat) ^ 48=281474976710656:=(by decide);have p64:(2:Nat) ^ 64=18446744073709551616:=(by decide);omega)]
    rfl
   have m2:(((b.toNat * 2 ^ (8 * j):Nat):Int) % ((2 ^ 64:Nat):Int)).toNat=b.toNat * 2 ^ (8 * j):=by
    rw[Int.emod_eq_of_lt (by omega) (by have p48:(2:Nat) ^ 48=281474976710656:=(by decide);have p64:(2:Nat) ^ 64=18446744073709551616:=(by decide);omega)]
    rfl
   rw[m1,m2,xYC hlt,zVn hb,yKO]
  rw[e0,e1,e2]
  have hfin:zQZ (d.take (j+1))<=2 ^ 48+255 * 2 ^ 48:=by rw[zVn hb,yKO];omega
  rw[zQa (by omega) (by have p48:(2:Nat) ^ 48=281474976710656:=(by decide);omega),zQa (by omega) (by omega)]
  exact hJ _ _ hjk ⟨rfl,rfl,hp⟩
 ·have hjk:j=d.length:=by have:=zQe c;omega
  subst hjk
  refine⟨?_,hp⟩
  rw[List.take_length]
theorem xXI(l:List UInt8)(c:UInt8):yXw (l ++ [c])=yVO (yXw l) c:=by
 unfold yXw;rw[List.foldl_append,List.foldl_cons,List.foldl_nil]
theorem xXQ{m:Nat}(h:m<2 ^ 32):(BitVec.ofInt 32 (m:Int)).toNat=m:=by
 rw[BitVec.toNat_ofInt,Int.emod_eq_of_lt (by omega) (by exact_mod_cast h)];rfl
theorem step32(n:Nat)(b:UInt8):IntKind.u32.wrap ((BitVec.ofInt 32 (IntKind.u32.wrap ((n:Int) * 16777619)) ^^^ BitVec.ofInt 32 (IntKind.u32.wrap ((b.toNat:Nat):Int))).toNat:Nat)=((yVO n b:Nat):Int):=by
 unfold yVO
 have hc:=xYh b
 generalize b.toNat=c at hc ⊢
 have e1:IntKind.u32.wrap ((n:Int) * 16777619)=((n * 16777619 % 4294967296:Nat):Int):=by rw[IntKind.wrap_u32];omega
 have e2:IntKind.u32.wrap (c:Int)=(c:Int):=by rw[IntKind.wrap_u32];omega
 have hm:n * 16777619 % 4294967296<4294967296:=Nat.mod_lt _ (by decide)
 rw[e1,e2]
 generalize n * 16777619 % 4294967296=m at hm ⊢
 have p32:(2:Nat) ^ 32=4294967296:=by decide
 rw[BitVec.toNat_xor,xXQ (by omega),xXQ (by omega)]
 have hx:m ^^^ c<2 ^ 32:=Nat.xor_lt_two_pow (by omega) (by omega)
 generalize m ^^^ c=y at hx ⊢
 rw[IntKind.wrap_u32]
 omega
theorem sum_c{s:SV}{d:List UInt8}(h:ByV w s d):Calls prog 127 #[slV s] w λe w'=>e=.returned (.int .i64 (yXw d:Nat))/\Pu w w':=by
 have hl:=h.len
 have hlim:=h.lim
 refine yWY _ w _ ?_
 refine zQx d.length (λj t w'=>t.2=(j:Int)/\t.1=((yXw (d.take j):Nat):Int)/\Pu w w') ⟨rfl,rfl,Pu.refl _⟩ ?_
 rintro j J ⟨t1,t2⟩ w2 hj ⟨h2,h1,hp⟩ hJ
 obtain rfl:t2=(j:Int):=h2
 obtain rfl:t1=((yXw (d.take j):Nat):Int):=h1
 dsimp only
 have hlt:=yJx (d.take j)
 refine Br.of (λc=>?_) (λc=>?_)
 ·have hjk:j<d.length:=by have:=zQk c;omega
  obtain⟨b,hb⟩:=zQL hjk
  obtain⟨a,ha,hc⟩:=(h.pu hp).get j b hb
  have hB:=xYh b
  refine⟨a,ha,by omega,by omega,_,by rw[zXf];exact hc,?_⟩
  rw[step32,zQa (by omega) (by omega)]
  exact hJ _ _ hjk ⟨rfl,by rw[zQE hb,xXI],hp⟩
 ·have hjk:j=d.length:=by have:=zQe c;omega
  subst hjk
  rw[List.take_length]at hlt ⊢
  generalize yXw d=x at hlt ⊢
  refine⟨?_,hp⟩
  rw[zQa (by omega) (by omega)]
end Go.Proofs.YtaeecpjhfmcliaaGreatDoor
/- The log: records are made and taken off; writes are done; files are copied. No condition but those stated. -/
namespace Go.Proofs.YtaeecpjhfmcliaaGreatDoor
open Go.Sh Go.RowKit Tryz
variable {w w' : World}
def NextR(w:World)(s:SV)(d:List UInt8):Rt:=λe w'=>Pu w w'/\∃(k:Int) (q1 q2:SV) (b:Bool),e=.returned (.tuple #[.int .u8 k,slV q1,slV q2,.bool b])/\
 ((b=false/\zZF d=none)∨b=true/\∃kk body more,zZF d=some (kk,body,more)/\k=((kk.toNat:Nat):Int)/\∀wv,ByV wv s d->ByV wv q1 body/\ByV wv q2 more)
theorem ByV.rest{s:SV}{d:List UInt8}(h:ByV w s d){lo:Nat}(hlo:lo<=d.length):ByV w ⟨if s.cap=lo then s.a else s.a.map (λx=>x.add (lo * 1)),s.len - lo,s.cap - lo⟩ (d.drop lo):=by
 have hl:=h.len
 have h1:=h.sub (lo:=lo) (hi:=d.length) hlo (Nat.le_refl _)
 rw[←hl,List.take_of_length_le (by rw[List.length_drop];omega)]at h1
 exact h1
theorem next_c{s:SV}{d:List UInt8}(h:ByV w s d)(hd:d.length<=1000000000):Calls prog 88 #[slV s] w (NextR w s d):=by
 have hl:=h.len
 have hc:=h.cap
 refine yYp _ w _ (Br.of (λc=>?_) (λc=>?_))
 ·have c:=zQk c
  exact⟨Pu.refl _,0,⟨none,0,0⟩,⟨none,0,0⟩,false,rfl,.inl ⟨rfl,by unfold zZF;rw[if_pos (by omega)]⟩⟩
 have c:=zQe c
 refine⟨by omega,by show 5<=s.cap;omega,by omega,by decide,?_⟩
 have sK:=h.sub (lo:=1) (hi:=5) (by omega) (by omega)
 refine(yXv sK (by rw[List.length_take];omega)).mono ?_
 rintro e w2 ⟨rfl,ar⟩
 refine⟨_,rfl,zQb λw3 ax _=>?_⟩
 obtain⟨n,en⟩:∃n,n=zQZ ((d.drop 1).take (5 - 1)):=⟨_,rfl⟩
 rw[←en]
 have hn:n<4294967296:=by
  have:=yXM ((d.drop 1).take (5 - 1))
  rw[←en,List.length_take,List.length_drop,Nat.min_eq_left (by omega)]at this
  exact this
 have aX:=ar.trans ax
 rw[zQa (n:=((s.len:Nat):Int) - 5) (by omega) (by omega),zQa (n:=((s.len:Nat):Int) - 5 - 4) (by omega) (by omega)]
 refine Br.of (λc1=>?_) (λc1=>?_)
 ·have c1:=zQk c1
  exact⟨aX,0,⟨none,0,0⟩,⟨none,0,0⟩,false,rfl,.inl ⟨rfl,by unfold zZF;rw[if_neg (by omega),if_pos (by show d.length<zQZ ((d.drop 1).take (5 - 1))+9;rw[←en];omega)]⟩⟩
 have c1:=zQe c1
 rw[zQa (n:=(5:Int)+(n:Int)) (by omega) (by omega),zQa (n:=(5:Int)+(n:Int)+4) (by omega) (by omega)]
 have t1:((5:Int)+(n:Int)).toNat=5+n:=by omega
 have t2:((5:Int)+(n:Int)+4).toNat=9+n:=by omega
 rw[t1,t2]
 have qP:=(h.pu aX).sub (lo:=5+n) (hi:=9+n) (by omega) (by omega)
 refine⟨by omega,by omega,by omega,by omega,by omega,by omega,by omega,(yXv qP (by rw[List.length_take];omega)).mono ?_⟩
 rintro e w5 ⟨rfl,aT⟩
 have cM:=aX.trans aT
 have re:=(h.pu cM).sub (lo:=0) (hi:=5+n) (by omega) (by omega)
 refine⟨_,rfl,(sum_c re).mono ?_⟩
 rintro e w6 ⟨rfl,bn⟩
 have eL:=cM.trans bn
 rw[List.drop_zero,Nat.sub_zero,show 9+n - (5+n)=4 by omega]
 refine⟨_,rfl,Br.of (λc2=>?_) (λc2=>zQb λw8 bU _=>?_)⟩
 ·have c2:¬zQZ ((d.drop (5+n)).take 4)=yXw (d.take (5+n)):=λe=>zQ3 c2 (by rw[e])
  exact⟨eL,0,⟨none,0,0⟩,⟨none,0,0⟩,false,rfl,.inl ⟨rfl,by
   unfold zZF
   rw[show(d.drop 1).take 4=(d.drop 1).take (5 - 1)from rfl,←en,if_neg (by omega),if_neg (by omega),if_pos c2]⟩⟩
 ·have c2:zQZ ((d.drop (5+n)).take 4)=yXw (d.take (5+n)):=by have:=zQs c2;omega
  have h8:=h.pu (eL.trans bU)
  obtain⟨b0,e0⟩:=zQL (l:=d) (k:=0) (by omega)
  obtain⟨a,ha,hc0⟩:=h8.get 0 b0 e0
  refine⟨a,ha,by omega,by omega,_,hc0,by omega,by omega,by omega,by show 5<=5+n;omega,hc,by omega,by omega,eL.trans bU,_,⟨_,_,_⟩,⟨_,_,_⟩,true,rfl,.inr ⟨rfl,b0,(d.drop 5).take n,d.drop (9+n),?_,rfl,λwv hv=>⟨?_,hv.rest (lo:=9+n) (by omega)⟩⟩⟩
  ·unfold zZF
   rw[show(d.drop 1).take 4=(d.drop 1).take (5 - 1)from rfl,←en,if_neg (by omega),if_neg (by omega),if_neg (by rw[c2];simp)]
   have:d.headD 0=b0:=by cases d with
    | nil=>simp at e0
    | cons x d=>simpa using e0
   rw[this]
  ·have aB:=hv.sub (lo:=5) (hi:=5+n) (by omega) (by omega)
   rw[show 5+n - 5=n by omega]at aB
   rw[show((5:Int)).toNat=5 from rfl,show 5+n - 5=n by omega]
   exact aB
theorem zYJ {w0:World} {s m:SV} {l:List UInt8} {g:Nat} (h:zQf w0 w s l) (hg:s.a=some ⟨g,0,none⟩) {lo n c:Nat} {src:List UInt8} (hm:ByV w m src) (hne:src ≠ []) (hn:src.length=n) (hfit:lo+n<=l.length) :
  ∃w',(Builtin.copy_ #[22,22] 3 #[.slice (some ⟨g,lo,none⟩) n c,slV m]).run prog w=.ok (.int .i64 (n:Nat)) w'/\zQf w0 w' s (l.take lo ++ src ++ l.drop (lo+n))/\Fr (· ∈ zQd s) w w':=by
 have hl:=h.len
 have hml:=hm.len
 have hsz:(prog.info? 5).map (·.size)=some 1:=by
  have:=vi5
  simp only[Option.map_eq_some_iff]at *
  obtain⟨i,h1,h2⟩:=this
  exact⟨i,h1,by simp at h2;exact h2.2.1⟩
 obtain⟨hrow,hnew⟩:=h
 obtain⟨h1,hd|⟨g',cur,h3,h4,h5,h6,h7,h8⟩⟩:=hrow
 ·rw[hd]at hg;cases hg
 rw[hg]at h3
 obtain rfl:g=g':=by simpa using h3
 obtain⟨b0,tM⟩:=zQL (l:=src) (k:=0) (List.length_pos_iff.2 hne)
 obtain⟨a,ha,_⟩:=hm.get 0 b0 tM
 have hr:=run_copy_row prog (ty:=3) w 22 22 5 g lo n c a m.len m.cap cur 5 (src.map u8V) vu22 hsz h4 (by rw[List.length_map,hn,hml,hn];exact(Nat.min_self n).symm) (λj v hv=>by
  obtain⟨b,hb,rfl⟩:∃b,src[j]?=some b/\u8V b=v:=by simpa using hv
  obtain⟨a',e,hc⟩:=hm.get j b hb
  rw[ha]at e;cases e
  rw[Nat.mul_one]at hc
  exact hc) (by rw[List.length_map,hn,h7];omega) (λv hv=>by obtain⟨b,_,rfl⟩:=List.mem_map.1 hv;rfl)
 rw[List.length_map,hn]at hr
 rw[Nat.mul_one]at h8
 refine⟨_,by show(Builtin.copy_ #[22,22] 3 #[.slice (some ⟨g,lo,none⟩) n c,.slice m.a m.len m.cap]).run prog w=_;rw[ha];exact hr,⟨⟨?_,.inr ⟨g,_,hg,setRow_heap w g cur _ 5 (0,0) h4,h5,h6,?_,?_⟩⟩,hnew⟩,⟨rfl,rfl,rfl,by simp,λk _ hk=>setRow_other w g k _ (λe=>hk (by simp[zQd,hg,e]))⟩⟩
 ·simp;omega
 ·simp;omega
 ·have hll:l.length<=cur.size:=by rw[h7];omega
  rw[Nat.mul_one]
  simp only[List.map_append,List.map_take,List.map_drop,←h8]
  have e1:cur.toList=cur.toList.take s.len ++ cur.toList.drop s.len:=(List.take_append_drop _ _).symm
  apply List.ext_getElem?
  intro j
  have hcl:cur.toList.length=cur.size:=by simp
  simp only[List.getElem?_take,List.getElem?_append,List.length_append,List.length_take,List.length_map,List.getElem?_drop,hcl,hn]
  by_cases hj:j<s.len
  ·rw[if_pos hj]
   by_cases h0:j<lo
   ·rw[if_pos (by omega),if_pos (by omega),if_pos h0,if_pos (by omega),if_pos (by omega),if_pos h0,if_pos hj]
   ·by_cases h2:j<lo+n
    ·rw[if_pos (by omega),if_neg (by omega),if_pos (by omega),if_neg (by omega)]
     congr 1;omega
    ·rw[if_neg (by omega),if_neg (by omega),if_pos (by omega)]
     congr 1;omega
  ·rw[if_neg hj,if_neg (by omega),if_neg (by omega)]
theorem yQG(n:Nat)(hn:n<=1000000000)(w:World):∃w',(Instr.makeSlice 22 (.int .i64 (n:Int)) (.int .i64 (n:Int))).run prog w=.ok (slV ⟨some ⟨w.heap.size,0,none⟩,n,n⟩) w'/\zQf w w' ⟨some ⟨w.heap.size,0,none⟩,n,n⟩ (List.replicate n 0)/\Pu w w':=by
 obtain⟨i,h2,h3,h4,h5⟩:=info_parts vi5
 obtain⟨w1,hr,hrow,aq,hz1⟩:=zYk (P:=prog) (w:=w) vu22 h2 h3 h4 .i64 .i64 n (by rw[h5];omega) (by omega)
 refine⟨w1,hr,⟨?_,λb hb=>by simp[zQd]at hb;omega⟩,aq⟩
 rw[show(Value.int IntKind.u8 0).cells=#[.int .u8 0]from rfl,toList_madeCells_one,Nat.mul_one]at hrow
 rw[List.map_replicate]
 exact hrow
theorem zQf.st1 {w0:World} {s:SV} {l:List UInt8} (h:zQf w0 w s l) {j:Nat} (hj:j<l.length) (b:UInt8) {K:World->Prop} (hK:∀w',zQf w0 w' s (l.set j b)->Fr (· ∈ zQd s) w w'->w'.heap.size=w.heap.size->K w') :
  ∃a,s.a=some a/\Sh.st1 (a.add (j * 1)) (u8V b) w K:=by
 obtain⟨a,ha,hst⟩:=h.1.st1 (j:=j) (by rw[List.length_map];exact hj) (u8V b) (K:=K) λw' h1 hf hs=>hK w' ⟨by rw[List.map_set];exact h1,h.2⟩ hf hs
 exact⟨a,ha,by rw[Nat.mul_one];exact hst⟩
theorem zQf.st1G {w0:World} {s:SV} {l:List UInt8} (h:zQf w0 w s l) {i:Int} {j:Nat} (hi:i=(j:Int)) (hj:j<l.length) (b:UInt8) {K:World->Prop} (hK:∀w',zQf w0 w' s (l.set j b)->Fr (· ∈ zQd s) w w'->w'.heap.size=w.heap.size->K w') :
  ∃a,s.a=some a/\0<=i/\i<((s.len:Nat):Int)/\Sh.st1 (a.add (i.toNat * 1)) (u8V b) w K:=by
 obtain⟨a,ha,hst⟩:=h.st1 hj b hK
 have hl:=h.len
 subst hi
 exact⟨a,ha,by omega,by omega,by rw[zXf];exact hst⟩
theorem yKS (kind:UInt8) {s:SV} {body:List UInt8} (h:ByV w s body) (hne:body ≠ []) (hb:body.length<=1000000):Calls prog 111 #[u8V kind,slV s] w λe w'=>∃q:SV,e=.returned (slV q)/\zQf w w' q (zZY kind body)/\Pu w w':=by
 have hl:=h.len
 have hpos:=List.length_pos_iff.2 hne
 obtain⟨w1,hr1,n1,aq⟩:=yQG (5+body.length) (by omega) w
 refine yVq _ _ w _ ⟨⟨some ⟨w.heap.size,0,none⟩,5+body.length,5+body.length⟩,w1,?_,?_⟩
 ·rw[hl,zQa (by omega) (by omega),show(5:Int)+((body.length:Nat):Int)=((5+body.length:Nat):Int)by omega];exact hr1
 refine n1.st1G (j:=0) rfl (by rw[List.length_replicate];omega) kind λw3 n3 gd hz3=>zQb λw4 aK _=>?_
 ·have hB:∀b ∈ zQd (⟨some ⟨w.heap.size,0,none⟩,5+body.length,5+body.length⟩:SV),w.heap.size<=b:=n1.2
  have ax:Pu w w3:=aq.andNew gd hB
  have cq:=ax.trans aK
  refine⟨by omega,by show 5<=5+body.length;omega,by omega,by decide,?_⟩
  rw[show((s.len:Nat):Int)=((body.length:Nat):Int)by omega]
  refine(yK9 body.length 4 (by omega) (by omega) w4).mono ?_
  rintro e w5 ⟨q5,rfl,n5,aT⟩
  have m5:=(n3.pu aK).pu aT
  have l0:((List.replicate (5+body.length) (0:UInt8)).set 0 kind).length=5+body.length:=by simp
  obtain⟨w6,hr6,n6,iL⟩:=zYJ (lo:=1) (n:=4) (c:=5+body.length - 1) m5 rfl (n5.by (by rw[zQ7];omega)) (λe=>by have:=congrArg List.length e;rw[zQ7]at this;simp at this) (zQ7 _ _) (by rw[l0];omega)
  have eL:Pu w w6:=(cq.trans aT).andNew iL hB
  refine⟨q5,rfl,((4:Nat):Int),w6,?_,Nat.le_refl _,by omega,by show 5<=5+body.length;omega,?_⟩
  ·rw[if_neg (by show ¬5+body.length=1;omega)];exact hr6
  obtain⟨w7,qh,n7,kh⟩:=zYJ (lo:=5) (n:=body.length) (c:=5+body.length - 5) n6 rfl (h.pu eL) hne rfl (by simp[zQ7];omega)
  have fU:Pu w w7:=eL.andNew kh hB
  refine⟨((body.length:Nat):Int),w7,?_,?_⟩
  ·rw[if_neg (by show ¬5+body.length=5;omega),show 5+body.length - (5:Int).toNat=body.length by show 5+body.length - 5=_;omega]
   rw[show 5+body.length - 5=body.length by omega]at qh
   exact qh
  have hrow:((List.replicate (5+body.length) (0:UInt8)).set 0 kind).take 1=[kind]:=by
   rw[show 5+body.length=(4+body.length)+1 by omega,List.replicate_succ,List.set_cons_zero];rfl
  have hrow7:((((List.replicate (5+body.length) (0:UInt8)).set 0 kind).take 1 ++ zJi body.length 4 ++ ((List.replicate (5+body.length) (0:UInt8)).set 0 kind).drop (1+4)).take 5 ++ body ++ (((List.replicate (5+body.length) (0:UInt8)).set 0 kind).take 1 ++ zJi body.length 4 ++ ((List.replicate (5+body.length) (0:UInt8)).set 0 kind).drop (1+4)).drop (5+body.length))=zKi kind body:=by
   have h5:([kind] ++ zJi body.length 4).length=5:=by simp[zQ7]
   rw[hrow,List.take_append_of_le_length (by omega),List.take_of_length_le (by omega),List.drop_eq_nil_of_le (by simp[zQ7];omega),List.append_nil]
   unfold zKi;simp
  rw[hrow7]at n7
  have hhl:=zWH kind body
  refine(sum_c (s:=⟨some ⟨w.heap.size,0,none⟩,5+body.length,5+body.length⟩) (n7.by (by omega))).mono ?_
  rintro e w8 ⟨rfl,bU⟩
  have hslt:=yJx (zKi kind body)
  refine⟨_,rfl,(yK9 (yXw (zKi kind body)) 4 (by omega) (by omega) w8).mono ?_⟩
  rintro e w9 ⟨q9,rfl,n9,cG⟩
  have m9:=(n7.pu bU).pu cG
  have nB:=(fU.trans bU).trans cG
  obtain⟨q,aN,xL,jb,nt⟩:=m9.app nB.size (m:=q9) (news:=zJi (yXw (zKi kind body)) 4) n9.len (λj b hj=>n9.cell hj) (by rw[zQ7];omega)
  exact⟨q9,rfl,q,aN,xL,q,rfl,jb,nB.andNew nt hB⟩
end Go.Proofs.YtaeecpjhfmcliaaGreatDoor
/- The log: writes are done; files are copied. No condition but those stated. -/
namespace Go.Proofs.YtaeecpjhfmcliaaGreatDoor
open Go.Sh Go.RowKit Tryz
variable {w w' : World}
theorem files_row {s q0 q1:SV} {F:Fls} (h:zQl w 22 1 s [slV q0,slV q1]) (h0:ByV w q0 F.1) (h1:ByV w q1 F.2):zXF w s q0 q1 F:=by
 have hl:=h.1
 obtain⟨a,ha,c0,_⟩:=h.cell (j:=0) (v:=slV q0) rfl
 obtain⟨a',ha',c1,_⟩:=h.cell (j:=1) (v:=slV q1) rfl
 rw[ha]at ha';cases ha'
 simp at hl
 exact⟨by omega,by have:=h.le_cap.1;omega,⟨a,ha,c0,c1⟩,h0,h1⟩
def zXL(B:Nat->Prop)(w:World)(s q0 q1:SV)(F:Fls):Prop:=∀w2,Fr B w w2->zXF w2 s q0 q1 F
theorem zXL.at_{B:Nat->Prop}{s q0 q1:SV}{F:Fls}(h:zXL B w s q0 q1 F):zXF w s q0 q1 F:=h w (Fr.refl _ _)
theorem zXL.pu{B:Nat->Prop}{s q0 q1:SV}{F:Fls}(h:zXL B w s q0 q1 F)(hp:Pu w w'):zXL B w' s q0 q1 F:=λw2 h2=>h w2 ((Fr.pu hp:Fr B w w').trans h2 λb hb _=>hb)
theorem yKn(a b:Int)(w:World):(Builtin.min_ #[3,3] 3 #[.int .i64 a,.int .i64 b]).run prog w=.ok (.int .i64 (min a b)) w:=by
 have e:(if b<a then b else a)=min a b:=by split <;> omega
 rw[←e]
 simp[Builtin.min_,Builtin.min2]
theorem ByV.front{s:SV}{d:List UInt8}(h:ByV w s d){n:Nat}(hn:n<=d.length):ByV w ⟨if s.cap=0 then s.a else s.a.map (λx=>x.add (0 * 1)),n - 0,s.cap - 0⟩ (d.take n):=by
 have:=h.sub (lo:=0) (hi:=n) (Nat.zero_le _) hn
 rw[List.drop_zero,Nat.sub_zero]at this
 exact this
theorem xJS{B:Nat->Prop}{x:Wr}{q s q0 q1:SV}{F:Fls}(hB:∀b,B b->b<w.heap.size)(hs:zXL B w s q0 q1 F)(hq:ByV w q x.b)(hf:x.file=0∨x.file=1)(hat:0<=x.at_)(hF:F.1.length<=900000000/\F.2.length<=900000000)(hb:x.b.length<=1000000)(k:Int) :
  Calls prog 76 #[.agg #[.int .i64 x.file,.int .i64 x.at_,slV q],slV s,.int .i64 k] w λe w'=>∃o r0 r1:SV,e=.returned (slV o)/\zXL B w' o r0 r1 (zZp F x k)/\Pu w w':=by
 refine yY2 _ _ _ _ _ w _ (alB λw1 aq aB=>(yYN (hs.pu aq).at_).mono ?_)
 rintro e w2 ⟨o,rfl,ho,hon,ar⟩
 have aG:=aq.trans ar
 have nG:w.heap.size<w1.heap.size:=zQy aB
 -- what a row of files that is new tells, whatever is written elsewhere
 have kept:∀{wz:World} {r0 r1:SV} {G:Fls},zQl wz 22 1 o [slV r0,slV r1]->Pu w wz->(∀w3,Fr B wz w3->ByV w3 r0 G.1/\ByV w3 r1 G.2)->zXL B wz o r0 r1 G:=λ{wz r0 r1 G} hr hpz hG w3 h3=>
  files_row (hr.fr h3 λb hb e=>by have:=hon b hb;have:=hB b e;omega) (hG w3 h3).1 (hG w3 h3).2
 have old:∀{wz:World},Pu w wz->∀w3,Fr B wz w3->ByV w3 q0 F.1/\ByV w3 q1 F.2:=λhpz w3 h3=>by
  have:=hs.pu hpz w3 h3
  exact⟨this.b0,this.b1⟩
 refine⟨o,rfl,Br.of (λc=>?_) (λc=>?_)⟩
 ·rw[zZT F x (zQk c)]
  exact⟨o,q0,q1,rfl,kept ho aG (old aG),aG⟩
 have c:=zQe c
 refine zQb λw4 aK _=>?_
 have cq:=aG.trans aK
 have iE:=aK.blk (ar.blk aB)
 have yu:=ho.pu aK
 have nb:∀{wz w3:World} {b:SV} {l:List UInt8},zQf w wz b l->Fr B wz w3->l.length<=2000000000->ByV w3 b l:=λhn h3 hl=>(hn.fr h3 λk hk e=>by have:=hn.2 k hk;have:=hB k e;omega).by (by omega)
 obtain⟨i,hi,hi2,qi,di,hrow,hbi,hdi,hdl,hput⟩:∃i:Nat,x.file=(i:Int)/\i<2/\∃(qi:SV) (di:List UInt8),[slV q0,slV q1][i]?=some (slV qi)/\(∀{wz:World},Pu w wz->ByV wz qi di)/\F.get x.file=di/\di.length<=900000000/\
   ∀{wz:World} {b:SV} {l:List UInt8},zQl wz 22 1 o ([slV q0,slV q1].set i (slV b))->Pu w wz->zQf w wz b l->l.length<=2000000000->∃r0 r1,zXL B wz o r0 r1 (F.put x.file l):=by
  rcases hf with hf|hf
  ·refine⟨0,hf,by omega,q0,F.1,rfl,λhpz=>(hs.pu hpz).at_.b0,by rw[hf];rfl,hF.1,λ{wz b l} hr hpz hn hl=>⟨b,q1,?_⟩⟩
   rw[hf]
   exact kept hr hpz λw3 h3=>⟨nb hn h3 hl,(old hpz w3 h3).2⟩
  ·refine⟨1,hf,by omega,q1,F.2,rfl,λhpz=>(hs.pu hpz).at_.b1,by rw[hf];rfl,hF.2,λ{wz b l} hr hpz hn hl=>⟨q0,b,?_⟩⟩
   rw[hf]
   exact kept hr hpz λw3 h3=>⟨(old hpz w3 h3).1,nb hn h3 hl⟩
 have hol:o.len=2:=by have:=yu.1;simp at this;omega
 obtain⟨a5,ha5,c5,_⟩:=yu.cell hrow
 obtain⟨n,hn⟩:∃n:Nat,(n:Int)=min x.at_ di.length:=⟨(min x.at_ di.length).toNat,by omega⟩
 have xM:=hbi cq
 have hql:=xM.len
 have hqc:=xM.cap
 have yH:n<=di.length:=by omega
 refine⟨λu=>Pu w4 u,Pu.refl _,x.file,λu hu=>cl0 (hu.blk iE),a5,ha5,by omega,by omega,qi,λu hu=>hu.cell (by rw[hi,zXf,Nat.mul_one];exact c5),x.at_,λu hu=>cl (hu.blk iE) 1,x.file,λu hu=>cl0 (hu.blk iE),a5,ha5,by omega,by omega,qi,
  λu hu=>hu.cell (by rw[hi,zXf,Nat.mul_one];exact c5),(n:Int),w4,by rw[hql,hn];exact yKn _ _ _,Pu.refl _,by omega,by omega,by omega,?_⟩
 rw[zXf]
 refine(xJi (xM.front yH) (by rw[List.length_take];omega)).mono ?_
 rintro e w8 ⟨q8,rfl,n8,bU⟩
 have dw:=cq.trans bU
 have pi:=bU.blk iE
 have ho8:=yu.pu bU
 have n80:=n8.low cq.size
 have kn:∀{wz:World} {b:SV} {l:List UInt8},Pu w wz->zQl wz 22 1 o [slV q0,slV q1]->zQf w wz b l->l=(F.get x.file).take (min x.at_ (F.get x.file).length).toNat ++ x.b.take k.toNat->wz.heap[w.heap.size]?=some (.cells #[.int .i64 x.file,.int .i64 x.at_,slV q] 90)->
   ∃kN:Int,wz.cell? (⟨w.heap.size,0,none⟩:Addr)=some (.int .i64 kN)/\∃dR:Addr,o.a=some dR/\0<=kN/\kN<((o.len:Nat):Int)/\Sh.st1 (dR.add (kN.toNat * 1)) (slV b) wz λaO=>∃o' r0 r1:SV,(Ending.returned (slV o)=.returned (slV o'))/\zXL B aO o' r0 r1 (zZp F x k)/\Pu w aO:=λ{wz b l} hpz hrz hnz hl hbz=>by
  obtain⟨a,ha,hst⟩:=hrz.st1 (j:=i) (by simpa using hi2) (slV b) (K:=λaO=>∃o' r0 r1:SV,(Ending.returned (slV o)=.returned (slV o'))/\zXL B aO o' r0 r1 (zZp F x k)/\Pu w aO) λaO nA eH hs12=>by
   have dL:Pu w aO:=hpz.andNew eH λb hb=>by have:=hon b hb;omega
   have hll:l.length<=2000000000:=by
    have h1:=List.length_take_le (min x.at_ (F.get x.file).length).toNat (F.get x.file)
    have h2:(x.b.take k.toNat).length<=x.b.length:=by rw[List.length_take];exact Nat.min_le_right _ _
    have h3:((F.get x.file).take (min x.at_ (F.get x.file).length).toNat).length<=(F.get x.file).length:=by rw[List.length_take];exact Nat.min_le_right _ _
    rw[hl,List.length_append]
    rw[hdi]at h3 ⊢
    omega
   obtain⟨r0,r1,hK⟩:=hput nA dL (hnz.fr eH (zQn hnz.1 hrz (by decide))) hll
   refine⟨o,r0,r1,rfl,?_,dL⟩
   rw[zJ1 F x (by omega),←hl]
   exact hK
  exact⟨x.file,cl0 hbz,a,ha,by omega,by omega,by rw[hi,zXf,Nat.mul_one];exact hst⟩
 have htk:di.take n=(F.get x.file).take (min x.at_ (F.get x.file).length).toNat:=by rw[hdi];congr 1;omega
 refine⟨q8,rfl,q,cl pi 2,Br.of (λc1=>?_) (λc1=>?_)⟩
 ·have c1:=zQk c1
  have hqw:=hq.pu dw
  have hqwl:=hqw.len
  have hqwc:=hqw.cap
  obtain⟨m,hm⟩:∃m:Nat,(m:Int)=min k x.b.length:=⟨(min k x.b.length).toNat,by omega⟩
  have yo:m<=x.b.length:=by omega
  have hmf:=hqw.front yo
  obtain⟨q9,w9,hr9,n9,pm⟩:=n80.app (by have:=dw.size;omega) (m:=⟨if q.cap=0 then q.a else q.a.map (λx=>x.add (0 * 1)),m - 0,q.cap - 0⟩) (news:=x.b.take m) hmf.len (λj b hj=>by
   obtain⟨a,ha,hc⟩:=hmf.get j b hj
   exact⟨a,ha,by rw[Nat.mul_one]at hc;exact hc⟩) (by rw[List.length_take,List.length_take];omega)
  have nB:Pu w w9:=dw.andNew pm n80.2
  refine⟨q,cl pi 2,q,cl pi 2,(m:Int),w8,by rw[hqwl,hm];exact yKn _ _ _,by omega,by omega,by omega,?_⟩
  rw[zXf]
  refine⟨q9,w9,hr9,kn nB (ho8.fr pm (zQn ho8 n80.1 (by decide))) n9 ?_ (pm.blk pi λhk=>n80.1.other pi (by decide) hk)⟩
  rw[←htk]
  congr 1
  by_cases hk:k<=x.b.length
  ·congr 1;omega
  ·rw[List.take_of_length_le (by omega),List.take_of_length_le (by omega)]
 ·have c1:=zQe c1
  have tL:x.b=[]:=List.eq_nil_of_length_eq_zero (by have:=hq.len;omega)
  refine kn dw ho8 n80 ?_ pi
  rw[tL,List.take_nil,List.append_nil,←htk]
theorem yKT{B:Nat->Prop}{x:Wr}{q s q0 q1:SV}{F:Fls}(hB:∀b,B b->b<w.heap.size)(hs:zXL B w s q0 q1 F)(hq:ByV w q x.b)(hf:x.file=0∨x.file=1)(hat:0<=x.at_)(hF:F.1.length<=900000000/\F.2.length<=900000000)(hb:x.b.length<=1000000) :
  Calls prog 49 #[slV s,.agg #[.int .i64 x.file,.int .i64 x.at_,slV q]] w λe w'=>∃o r0 r1:SV,e=.returned (slV o)/\zXL B w' o r0 r1 (zQw F x)/\Pu w w':=by
 refine yYW _ _ _ _ w _ (alB λw1 aq aB=>zQb λw2 ar _=>?_)
 have aG:=aq.trans ar
 have cN:=ar.blk aB
 refine⟨λu=>Pu w2 u,Pu.refl _,x.file,λu hu=>cl (hu.blk cN) 0,x.at_,λu hu=>cl (hu.blk cN) 1,q,λu hu=>cl (hu.blk cN) 2,x.file,λu hu=>cl (hu.blk cN) 0,x.at_,λu hu=>cl (hu.blk cN) 1,q,λu hu=>cl (hu.blk cN) 2,?_⟩
 refine xQv _ _ _ w2 _ (alB λw3 ax bp=>⟨q,cl bp 2,?_⟩)
 have hql:=hq.len
 rw[show((q.len:Nat):Int)=((x.b.length:Nat):Int)by omega,zQa (by omega) (by omega)]
 refine⟨_,rfl,ax,?_⟩
 have aX:=aG.trans ax
 refine(xJS (B:=B) (x:=x) (λb hbb=>Nat.lt_of_lt_of_le (hB b hbb) aX.size) (hs.pu aX) (hq.pu aX) hf hat hF hb _).mono ?_
 rintro e w4 ⟨o,r0,r1,rfl,h1,h2⟩
 exact⟨o,rfl,o,r0,r1,rfl,h1,aX.trans h2⟩
structure yXU(w0 w:World)(s q0 q1:SV)(F:Fls):Prop where
 row:zQl w 22 1 s [slV q0,slV q1]
 rn:∀b ∈ zQd s,w0.heap.size<=b
 n0:zQf w0 w q0 F.1
 n1:zQf w0 w q1 F.2
theorem yXU.pu{w0:World}{s q0 q1:SV}{F:Fls}(h:yXU w0 w s q0 q1 F)(hp:Pu w w'):yXU w0 w' s q0 q1 F:=⟨h.row.pu hp,h.rn,h.n0.pu hp,h.n1.pu hp⟩
theorem yXU.keep{w0:World}{s q0 q1:SV}{F:Fls}(h:yXU w0 w s q0 q1 F)(hF:F.1.length<=2000000000/\F.2.length<=2000000000){B:Nat->Prop}(hB:∀b,B b->b<w0.heap.size):zXL B w s q0 q1 F:=λw3 h3=>
 files_row (h.row.fr h3 λb hb e=>by have:=h.rn b hb;have:=hB b e;omega) ((h.n0.fr h3 λb hb e=>by have:=h.n0.2 b hb;have:=hB b e;omega).by (by omega)) ((h.n1.fr h3 λb hb e=>by have:=h.n1.2 b hb;have:=hB b e;omega).by (by omega))
theorem xQo{e:TypeId}{sz g n c:Nat}{vs:List Value}(h:zQl w e sz ⟨some ⟨g,0,none⟩,n,c⟩ vs):∃cur,w.heap[g]?=some (.cells cur e):=by
 obtain⟨_,h|⟨g',cur,h3,h4,_⟩⟩:=h
 ·cases h
 ·cases h3;exact⟨cur,h4⟩
theorem yYr{g lo c:Nat}{m:SV}(hm:m.len=0)(w:World):(Builtin.copy_ #[22,22] 3 #[.slice (some ⟨g,lo,none⟩) 0 c,.slice m.a m.len m.cap]).run prog w=.ok (.int .i64 ((0:Nat):Int)) w:=by
 obtain⟨i,h2,h3,h4,h5⟩:=info_parts vi5
 rw[hm]
 cases m.a <;> simp[Builtin.copy_,run_underlying vu22,Builtin.lenOf,Builtin.firstCells,sizeOf,typeInfo,h2,storeCells,loadCells,loadCellsFrom,goInt]
theorem zV0{s q0 q1:SV}{F:Fls}(h:zXF w s q0 q1 F)(hF:F.1.length<=900000000/\F.2.length<=900000000):Calls prog 46 #[slV s] w λe w'=>∃o r0 r1:SV,e=.returned (slV o)/\yXU w w' o r0 r1 F/\Pu w w':=by
 have hl:=h.len
 obtain⟨i,h2,h3,h4,h5⟩:=info_parts vi22
 have vu83:prog.underlying 83=some (.slice 22):=by kernel_rfl
 obtain⟨w1,hr,hrow,aq,hz1⟩:=zYk (P:=prog) (w:=w) vu83 h2 h3 h4 .i64 .i64 2 (by rw[h5];omega) (by omega)
 rw[show(Value.slice none 0 0).cells=#[.slice none 0 0]from rfl,toList_madeCells_one,Nat.mul_one]at hrow
 refine yYH _ w _ ⟨⟨some ⟨w.heap.size,0,none⟩,2,2⟩,w1,hr,?_⟩
 have one:∀{wz:World} {J:Int->World->Prop} {n:Nat} {qi:SV} {di:List UInt8} {v:List Value},n<2->[slV q0,slV q1][n]?=some (slV qi)->(∀{wy:World},Pu w wy->ByV wy qi di)->di.length<=900000000->Pu w wz->zQl wz 22 1 ⟨some ⟨w.heap.size,0,none⟩,2,2⟩ v->v.length=2->
   (∀wy b,zQl wy 22 1 ⟨some ⟨w.heap.size,0,none⟩,2,2⟩ (v.set n (slV b))->zQf wz wy b di->Pu w wy->Fr (·=w.heap.size) wz wy->J (IntKind.i64.wrap ((n:Int)+1)) wy)->
   xYf (λe w'=>∃o r0 r1:SV,e=.returned (slV o)/\yXU w w' o r0 r1 F/\Pu w w') J ⟨some ⟨w.heap.size,0,none⟩,2,2⟩ s ((s.len:Nat):Int) (n:Int) [] wz:=λ{wz J n qi di v} hn hqi hbi hdi hpz hrz hv hJ=>by
  refine Br.of (λc=>?_) (λc=>absurd (zQe c) (by omega))
  obtain⟨a,ha,c0,c1⟩:=(h.pu hpz).ex
  have hq:=hbi hpz
  have hql:=hq.len
  refine⟨a,ha,by omega,by omega,qi,?_,?_⟩
  ·rw[zXf,Nat.mul_one]
   rcases(by omega:n=0∨n=1)with rfl|rfl
   ·exact c0.trans hqi
   ·exact c1.trans hqi
  obtain⟨wy,hry,ny,hpy⟩:=yQG di.length (by omega) wz
  refine⟨⟨some ⟨wz.heap.size,0,none⟩,di.length,di.length⟩,wy,by rw[show((qi.len:Nat):Int)=((di.length:Nat):Int)by omega];exact hry,?_⟩
  obtain⟨a1,yr,hst⟩:∃a1,(some (⟨w.heap.size,0,none⟩:Addr))=some a1/\Sh.st1 (a1.add n) (slV ⟨some ⟨wz.heap.size,0,none⟩,di.length,di.length⟩) wy λw5=>
    ∃a6:Addr,(some (⟨w.heap.size,0,none⟩:Addr))=some a6/\0<=(n:Int)/\(n:Int)<((2:Nat):Int)/\
    ∃gl:SV,w5.cell? (a6.add ((n:Int).toNat * 1))=some (.slice gl.a gl.len gl.cap)/\
    ∃cn:Int,∃w7:World,(Builtin.copy_ #[22,22] 3 #[.slice gl.a gl.len gl.cap,.slice qi.a qi.len qi.cap]).run prog w5=.ok (.int .i64 cn) w7/\J (IntKind.i64.wrap ((n:Int)+1)) w7:=by
   refine(hrz.pu hpy).st1 (by rw[hv];exact hn) _ λw5 h5 cI kK=>?_
   obtain⟨a6,ha6,c6,_⟩:=h5.cell (j:=n) (v:=slV ⟨some ⟨wz.heap.size,0,none⟩,di.length,di.length⟩) (by rw[List.getElem?_set_self (by rw[hv];exact hn)])
   refine⟨a6,ha6,by omega,by omega,⟨some ⟨wz.heap.size,0,none⟩,di.length,di.length⟩,by rw[zXf,Nat.mul_one];exact c6,?_⟩
   have hne:w.heap.size ≠ wz.heap.size:=by obtain⟨cur,hcur⟩:=xQo hrz;have:=zQy hcur;omega
   have n5:=ny.fr cI λb hb e=>by simp[zQd]at hb e;omega
   have xN:Fr (·=w.heap.size) wy w5:=cI.mono λb hb _=>by simp[zQd]at hb;exact hb.symm ▸ rfl
   have aT:Pu w w5:=(hpz.trans hpy).andNew xN λb hb=>by rw[show b=_ from hb];exact Nat.le_refl _
   by_cases wU:di=[]
   ·subst wU
    refine⟨_,w5,yYr hql w5,hJ w5 _ h5 n5 aT ((Fr.pu hpy:Fr (·=w.heap.size) wz wy).trans xN λb hb _=>hb)⟩
   ·obtain⟨w7,qh,n7,kh⟩:=zYJ (lo:=0) (n:=di.length) (c:=di.length) n5 rfl (hbi aT) wU rfl (by simp)
    refine⟨_,w7,qh,hJ w7 _ (h5.fr kh λb hb e=>?_) ?_ (aT.andNew kh λb hb=>?_) ?_⟩
    ·simp[zQd]at hb e;omega
    ·simpa using n7
    ·simp[zQd]at hb;have:=hpz.size;omega
    ·exact((Fr.pu hpy:Fr (·=w.heap.size) wz wy).trans xN λb hb _=>hb).trans kh λb hb hlt=>by simp[zQd]at hb;omega
  exact⟨a1,yr,by omega,by show(n:Int)<((2:Nat):Int);omega,by rw[show a1.add ((n:Int).toNat * 1)=a1.add n by rw[zXf,Nat.mul_one]];exact hst⟩
 have hz:∀{b:Nat},b ∈ zQd (⟨some ⟨w.heap.size,0,none⟩,2,2⟩:SV)->b=w.heap.size:=λhb=>by simp[zQd]at hb;exact hb
 refine zQx 2 (λn t w'=>t=(n:Int)/\Pu w w'/\(n=0->zQl w' 22 1 ⟨some ⟨w.heap.size,0,none⟩,2,2⟩ [.slice none 0 0,.slice none 0 0])/\(n=1->∃r0,zQl w' 22 1 ⟨some ⟨w.heap.size,0,none⟩,2,2⟩ [slV r0,.slice none 0 0]/\zQf w w' r0 F.1)/\
   (n=2->∃r0 r1,yXU w w' ⟨some ⟨w.heap.size,0,none⟩,2,2⟩ r0 r1 F)) ⟨rfl,aq,λ_=>hrow,λe=>absurd e (by decide),λe=>absurd e (by decide)⟩ ?_
 rintro n J t wz hn ⟨ht,hpz,i0,i1,i2⟩ hJ
 obtain rfl:t=(n:Int):=ht
 rcases(by omega:n=0∨n=1∨n=2)with rfl|rfl|rfl
 ·refine one (by omega) rfl (λhp=>(h.pu hp).b0) hF.1 hpz (i0 rfl) rfl λwy b hry hb hpy hfy=>?_
  rw[zQa (by omega) (by omega)]
  exact hJ _ _ (by omega) ⟨rfl,hpy,λe=>absurd e (by decide),λ_=>⟨b,hry,hb.low hpz.size⟩,λe=>absurd e (by decide)⟩
 ·obtain⟨r0,sU,qn⟩:=i1 rfl
  refine one (by omega) rfl (λhp=>(h.pu hp).b1) hF.2 hpz sU rfl λwy b hry hb hpy hfy=>?_
  rw[zQa (by omega) (by omega)]
  refine hJ _ _ (by omega) ⟨rfl,hpy,λe=>absurd e (by decide),λe=>absurd e (by decide),λ_=>⟨r0,b,hry,λk hk=>by rw[hz hk];exact Nat.le_refl _,qn.fr hfy λk hk e=>by obtain⟨cur,hcur⟩:=xQo sU;exact qn.1.other hcur (by decide) (by rw[←show k=_ from e];exact hk),hb.low hpz.size⟩⟩
 ·refine Br.of (λc=>absurd (zQk c) (by omega)) λc=>?_
  obtain⟨r0,r1,hN⟩:=i2 rfl
  exact⟨_,r0,r1,rfl,hN,hpz⟩
end Go.Proofs.YtaeecpjhfmcliaaGreatDoor
/- The log: files told; a whole table as a record; a row read by itself; some records told. No condition but those stated. -/
namespace Go.Proofs.YtaeecpjhfmcliaaGreatDoor
open Go.Sh Go.RowKit Tryz
variable {w w' : World}
theorem vk63:zXA prog 63=2:=by kernel_rfl
theorem yKM{s q0 q1:SV}{F:Fls}(h:zXF w s q0 q1 F)(hF:F.1.length<=900000000/\F.2.length<=900000000):Calls prog 51 #[slV s] w λe w'=>∃r0 r1:SV,e=.returned (.agg #[slV r0,slV r1])/\zQf w w' r0 F.1/\zQf w w' r1 F.2/\Pu w w':=by
 refine yYM _ w _ (alB λw1 aq aB=>(zV0 (h.pu aq) hF).mono ?_)
 rintro e w2 ⟨o,r0,r1,rfl,hN,ar⟩
 have nG:w.heap.size<w1.heap.size:=zQy aB
 refine⟨o,rfl,zQb λw3 ax _=>?_⟩
 have hN:=hN.pu ax
 obtain⟨a,ha,c0,_⟩:=hN.row.cell (j:=0) (v:=slV r0) rfl
 obtain⟨a',ha',c1,_⟩:=hN.row.cell (j:=1) (v:=slV r1) rfl
 have tO:=ha
 rw[ha']at tO;cases tO
 have hol:o.len=2:=by have:=hN.row.1;simp at this;omega
 refine⟨a,ha,by omega,by omega,r0,c0,a,ha,by omega,by omega,r1,c1,zQi ((ar.trans ax).blk aB) vk63.symm rfl rfl λw6 fT iL _=>?_⟩
 have ne:∀{s:SV} {l:List UInt8},zQf w1 w3 s l->zQf w w6 s l:=λhn=>(hn.fr iL λb hb e=>by have:=hn.2 b hb;have e:b=w.heap.size:=e;omega).low aq.size
 exact⟨r0,cl fT 0,r1,cl fT 1,r0,r1,rfl,ne hN.n0,ne hN.n1,((aq.trans ar).trans ax).andNew iL λi hi=>by rw[show i=_ from hi];exact Nat.le_refl _⟩
theorem xXZ(t:Tbl):zQj t ≠ []:=λh=>by unfold zQj at h;simp at h
theorem xQz{t:Tbl}{f r:SV}(h:zX2 w t f r)(hv:zQg t=0):Calls prog 85 #[zVe t f r] w λe w'=>∃q:SV,e=.returned (slV q)/\zQf w w' q (zZY 119 (zQC t))/\Pu w w':=by
 have hbo:zQC t=zQj t:=by unfold zQC;rw[if_pos hv]
 have hle:=zW3 t
 refine xXD _ _ _ w _ (alB λw1 aq aB=>⟨_,cl aB 0,f,cl aB 1,r,cl aB 2,(yXK (h.pu aq) (zZC hv)).mono ?_⟩)
 rintro e w2 ⟨q,rfl,hq,ar⟩
 refine⟨q,_,rfl,(yKS 119 (hq.by (by omega)) (by rw[hbo];exact xXZ t) (by omega)).mono ?_⟩
 rintro e w3 ⟨q3,rfl,h3,ax⟩
 have aG:=aq.trans ar
 exact⟨q3,rfl,q3,rfl,h3.low aG.size,aG.trans ax⟩
theorem yVH{f:Fld}(h:zQp f=true)(p:Int):zQQ f p (zXo f)=true:=by
 unfold zQp at h
 simp only[Bool.and_eq_true]at h
 have hk:=h.2
 unfold zWJ at hk
 have vz:∀k:Int,okN k 0=true->zXk ⟨k,0,⟨#[]⟩⟩=0:=λk h=>by
  rw[zZ9,if_neg (by show ¬2048<0;omega),if_pos]
  show(okN k 0 && (decide (k=4) || decide ((0:Nat)=0)))=true
  rw[h];simp
 by_cases h5:f.kind=5
 ·unfold zXo zQQ
  rw[if_pos h5,if_neg (by rw[vz 2 (by decide)];simp),if_neg (by decide),if_pos h5];decide
 have e:zXo f=⟨f.kind,0,⟨#[]⟩⟩:=by unfold zXo;rw[if_neg h5]
 have hkk:f.kind=1∨f.kind=2∨f.kind=3∨f.kind=4:=by
  by_cases h1:f.kind=1
  ·exact .inl h1
  ·by_cases h2:f.kind=2
   ·exact .inr (.inl h2)
   ·by_cases h3:f.kind=3
    ·exact .inr (.inr (.inl h3))
    ·by_cases h4:f.kind=4
     ·exact .inr (.inr (.inr h4))
     ·rw[if_neg h1,if_neg h2,if_neg h3,if_neg h4,if_neg h5]at hk
      cases hk
 have hv:zXk (zXo f)=0:=by
  rw[e]
  refine vz _ ?_
  rcases hkk with h|h|h|h <;> rw[h] <;> decide
 have base:∀b:Bool,(if f.kind=2 then decide (((zJs 0).length:Int)<=f.width)else if f.kind=4 then decide (((0:Nat):Int)<=f.width) && decide (zZ4 ([]:List UInt8)=[]) && zXO [] p else true)=b->zQQ f p (zXo f)=b:=λb hb=>by
  unfold zQQ
  rw[if_neg (by rw[hv];simp),if_neg (by rw[e];show ¬f.kind=0;omega),if_neg h5,if_neg (by rw[e];simp)]
  rw[e];exact hb
 refine base true ?_
 have hd:(zJs 0).length=1:=by decide +kernel
 rcases hkk with h|h|h|h
 ·rw[if_neg (by omega),if_neg (by omega)]
 ·rw[if_pos h,hd]
  rw[if_neg (by omega),if_pos h]at hk
  simp at hk ⊢;omega
 ·rw[if_neg (by omega),if_neg (by omega)]
 ·rw[if_neg (by omega),if_pos h]
  rw[if_neg (by omega),if_neg (by omega),if_neg (by omega),if_pos h]at hk
  simp at hk
  have:decide (((0:Nat):Int)<=f.width)=true:=by simp;omega
  rw[this];rfl
theorem yVM{x t:Tbl}(hx:zQg x=0)(ht:t.recs.length<=300){rest:List UInt8}(h:zQj x=zJK t ++ rest):x.recs.length=t.recs.length:=by
 obtain⟨d,hd⟩:∃d,d=zQj x:=⟨_,rfl⟩
 obtain⟨_,_,p2,_⟩:=zWA (u:=x) hd.symm
 have hn:=(zQN.of hx).n300
 have h1:=zXq t.recs.length 4
 have q2:(d.drop 2).take 4=zVU t.recs.length 4:=by
  rw[hd,h]
  unfold zJK
  simp only[List.append_assoc,List.cons_append,List.nil_append,List.drop_succ_cons,List.drop_zero]
  rw[List.take_append_of_le_length (by omega),List.take_of_length_le (by omega)]
 have:=congrArg zQZ (p2.symm.trans q2)
 rw[←zWU,←zWU,zJD,zJD,Nat.mod_eq_of_lt (by omega),Nat.mod_eq_of_lt (by omega)]at this
 exact this
def RowR(w:World)(t:Tbl)(b:List UInt8):Rt:=λe w'=>Pu w w'/\∃(g:Bool) (q:SV) (ok:Bool),e=.returned (.tuple #[.agg #[.bool g,slV q],.bool ok])/\((ok=false/\yXP t b=none)∨ok=true/\∃x,yXP t b=some x/\g=x.gone/\zKa w w' q x.v)
theorem xK1{t:Tbl}{f r s:SV}{b:List UInt8}(hpg:zZV t.page)(hpB:zQY t.page=true)(hf:zX7 w f t.fields)(hvf:zQW t.fields=0)(hb:ByV w s b)(hbl:b.length<=10000):Calls prog 129 #[.agg #[.int .i64 t.page,slV f,slV r],slV s] w (RowR w t b):=by
 obtain⟨hne,hall,_,i8,hwide⟩:=zXn hvf
 have hlim:Lim.ok t.fields:=λg hg=>by
  have:=(zXc (List.all_eq_true.1 hall g hg)).2.1
  show g.name.size<=140737488355328
  omega
 refine yWn _ _ _ _ w _ (alB λw1 aq aB=>alB λw2 ar aM=>⟨f,cl (ar.blk aB) 1,?_⟩)
 have aG:=aq.trans ar
 refine(xYt (hf.pu aG) hlim).mono ?_
 rintro e w3 ⟨q3,rfl,hV3,ax⟩
 have aX:=aG.trans ax
 refine⟨false,q3,_,rfl,alB λw4 aK du=>zQi du yWG.symm rfl rfl λw5 bq cI _=>?_⟩
 have bQ:Pu w3 w5:=aK.andNew cI λi hi=>by rw[show i=_ from hi];exact Nat.le_refl _
 have cM:=aX.trans bQ
 have j4:=bQ.blk (ax.blk (ar.blk aB))
 have hV5:=hV3.pu bQ
 refine⟨_,cl0 j4,f,cl j4 1,false,cl bq 0,q3,cl bq 1,alB λw6 bn fT=>?_⟩
 have eL:=cM.trans bn
 have hbv:zJr t.fields=t.fields.map zXo:=by unfold zJr;rw[if_pos hvf]
 have hV6:=hV5.pu bn
 -- the table of an empty record alone
 have hright:zQg { t with recs:=[⟨false,zJr t.fields⟩] }=0:=zKv hpB hvf (by simp) λx hx=>by
  rw[List.mem_singleton.1 hx]
  refine zKJ.2 ⟨by rw[hbv];simp,λi g v hg hv=>?_⟩
  rw[hbv,List.getElem?_map,hg]at hv
  cases hv
  exact yVH (List.all_eq_true.1 hall g (List.mem_of_getElem? hg)) t.page
 have pq:=zZr hright
 have hrow6:zX7 w6 ⟨some ⟨w5.heap.size,0,none⟩,1,1⟩ [(⟨false,zJr t.fields⟩:Rec)]:=by
  refine⟨rfl,Nat.le_refl _,by show 1<=140737488355328;omega,λi x hx=>?_⟩
  have x8:i=0:=by have:=(List.getElem?_eq_some_iff.1 hx).1;simp at this;exact this
  subst x8
  simp at hx;subst hx
  obtain⟨v64,vl⟩:=pq ⟨false,zJr t.fields⟩ (by simp)
  refine⟨⟨w5.heap.size,0,none⟩,rfl,[.bool false,slV q3],⟨q3,rfl,hV6.rdS vl v64⟩,λj v hv=>?_⟩
  rcases j with _|_|j <;> simp at hv
  ·subst hv;exact cl fT 0
  ·subst hv;exact cl fT 1
 refine(yYR (t:={ t with recs:=[⟨false,zJr t.fields⟩] }) ⟨hpg,hf.pu eL,hrow6⟩ hlim).mono ?_
 rintro e w7 ⟨q7,rfl,h7,ck⟩
 rw[if_pos hright]at h7
 have fU:=eL.trans ck
 have hhl:(zJK { t with recs:=[⟨false,zJr t.fields⟩] }).length=13+16 * t.fields.length:=zWV (zJj.of hright)
 have jw:=hb.pu fU
 obtain⟨q8,w8,hr8,n8,oQ⟩:=h7.app ck.size (m:=s) (news:=b) jw.len (λj c hj=>by
  obtain⟨a,ha,hc⟩:=jw.get j c hj
  exact⟨a,ha,by rw[Nat.mul_one]at hc;exact hc⟩) (by omega)
 have pk:Pu w6 w8:=ck.andNew oQ h7.2
 refine⟨q7,_,rfl,q8,w8,hr8,alB λw9 cG oM=>?_⟩
 obtain⟨q10,aN,xL,jb,nt⟩:=(n8.pu cG).one (pk.trans cG).size (r:=w8.heap.size) (b:=26) oM rfl (by rw[List.length_append,hhl];omega)
 have hp6a:Pu w6 aN:=(pk.trans cG).andNew nt n8.2
 have hp0a:=eL.trans hp6a
 refine⟨q10,aN,xL,?_⟩
 refine(yJY (jb.by (by simp only[List.length_append,hhl,List.length_singleton];omega)) (by simp only[List.length_append,hhl,List.length_singleton];omega)).mono ?_
 rintro e aV ⟨u,fu,ru,cd,rfl,hO,hNi,fg,hRO⟩
 have hp0b:=hp0a.trans fg
 have nG:w.heap.size<w1.heap.size:=zQy aB
 have lt2:w1.heap.size<w2.heap.size:=zQy aM
 have z10:=hp0a.size
 have z2a:=(((ax.trans bQ).trans bn).trans hp6a).size
 refine⟨_,fu,ru,_,rfl,alB λaO dL lk=>zQi lk zKZ.symm rfl rfl λaI oO hf13 _=>?_⟩
 have pr:Pu aV aI:=dL.andNew hf13 λi hi=>by rw[show i=_ from hi];exact Nat.le_refl _
 have hp0d:=hp0b.trans pr
 have b213:=pr.blk (fg.blk (hp6a.blk (bn.blk (bQ.blk (ax.blk aM)))))
 have hO13:=hO.pu pr
 refine Br.of (λc=>?_) (λc=>?_)
 ·have c:cd ≠ 0:=zQ3 c
  refine zQi b213 yWG.symm rfl rfl λbt iH oR _=>⟨_,cl iH 0,⟨none,0,0⟩,cl iH 1,hp0d.andNew oR λi hi=>by rw[show i=_ from hi];omega,false,⟨none,0,0⟩,false,rfl,.inl ⟨rfl,?_⟩⟩
  rcases zKC hRO with⟨h0,_⟩|⟨_,hno,_⟩
  ·exact absurd h0 c
  ·unfold yXP;rw[hno];rfl
 ·have c:cd=0:=zQs c
  subst c
  have hro:=yK0 hRO
  obtain⟨hvu,hbu⟩:=zXl hro
  have hcount:=yVM (t:={ t with recs:=[⟨false,zJr t.fields⟩] }) hvu (by simp) (by rw[hbu,List.append_assoc])
  obtain⟨x,hx⟩:=zQL (l:=u.recs) (k:=0) (by rw[hcount];simp)
  obtain⟨qs,k1,k2,k3,k4⟩:=hO13.rs
  obtain⟨y,hy⟩:=zQL (l:=qs) (k:=0) (by rw[k3,hcount];simp)
  obtain⟨e1,e2⟩:=k4 0 x y hx hy
  have hrul:=k1.len zQS (by decide)
  obtain⟨a,ha,_,c0⟩:=k1.elem zQS hy (o:=0) rfl
  obtain⟨a',ha',_,c1⟩:=k1.elem zQS hy (o:=1) rfl
  rw[ha]at ha';cases ha'
  refine⟨ru,cl oO 2,a,ha,by omega,by rw[hrul,k3,hcount];show(0:Int)<((1:Nat):Int);omega,y.1,c0,y.2,c1,zQi b213 yWG.symm rfl rfl λbJ tF hf17 _=>⟨_,cl tF 0,y.2,cl tF 1,hp0d.andNew hf17 λi hi=>by rw[show i=_ from hi];omega,y.1,y.2,true,rfl,.inr ⟨rfl,x,?_,e1,?_⟩⟩⟩
  ·unfold yXP
   rw[hro]
   show u.recs.head?=some x
   rw[List.head?_eq_getElem?];exact hx
  ·exact(e2.fr hf17 λk hk e=>by have:=e2.2 k hk;have e:k=w1.heap.size:=e;omega).low z10
end Go.Proofs.YtaeecpjhfmcliaaGreatDoor
/- The log: what tells some records of a table. No condition but those stated. -/
namespace Go.Proofs.YtaeecpjhfmcliaaGreatDoor
open Go.Sh Go.RowKit Tryz
variable {w w' : World}
def yVb(t:Tbl)(k:Int):List UInt8:=if (t.recs.length:Int)<k then []else zJi k.toNat 2 ++ xZs t k
theorem yQB(t:Tbl)(l:List Int):zXt t l=zJi t.recs.length 2 ++ l.flatMap (yVb t):=rfl
theorem yYI{t:Tbl}(hv:zQg t=0)(k:Int):(yVb t k).length<=2002:=by
 have ho:=zJj.of hv
 unfold yVb
 split
 ·simp
 ·rw[List.length_append,zQ7]
  unfold xZs
  split
  ·rename_i r hr
   have h1:=zKK ho.all (ho.recs r (List.mem_of_getElem? hr))
   have h2:=ho.w2
   omega
  ·simp
theorem xX1 {α:Type} {g:α->List UInt8} {n:Nat} (hg:∀x,(g x).length<=n):∀l:List α,(l.flatMap g).length<=l.length * n
 | []=>by simp
 | x :: l=>by
  have:=xX1 hg l
  have:=hg x
  rw[List.flatMap_cons,List.length_append,List.length_cons,Nat.succ_mul];omega
theorem xJm{t:Tbl}{f r:SV}(h:zX2 w t f r)(hv:zQg t=0){w0:World}{s:SV}{l:List Int}(hl:zV3 w0 w s l)(hk:∀k ∈ l,1<=k/\k<=1000000)(hn:l.length<=1000) :
  Calls prog 112 #[zVe t f r,slV s] w λe w'=>∃q:SV,e=.returned (slV q)/\zQf w w' q (zXt t l)/\Pu w w':=by
 have ho:=zJj.of hv
 have hsl:=hl.len
 have hrl:=h.recs.len
 have cJ:=ho.m300
 refine yWP _ _ _ _ w _ (alB λw1 aq aB=>⟨r,cl aB 2,?_⟩)
 rw[show((r.len:Nat):Int)=((t.recs.length:Nat):Int)by omega]
 refine(yK9 t.recs.length 2 (by omega) (by omega) w1).mono ?_
 rintro e w2 ⟨q2,rfl,qM,ar⟩
 refine⟨q2,rfl,?_⟩
 rw[show((s.len:Nat):Int)=((l.length:Nat):Int)by omega]
 refine zQx l.length (λk u w'=>u.2=(k:Int)/\zQf w1 w' u.1 (zJi t.recs.length 2 ++ (l.take k).flatMap (yVb t))/\Pu w1 w') ⟨rfl,by simpa using qM,ar⟩ ?_
 rintro k J ⟨u1,u2⟩ wa hka ⟨tu,hr,hp⟩ hJ
 obtain rfl:u2=(k:Int):=tu
 have hr:zQf w1 wa u1 (zJi t.recs.length 2 ++ (l.take k).flatMap (yVb t)):=hr
 dsimp only
 have hpa:=aq.trans hp
 have b1a:=hp.blk aB
 refine Br.of (λc=>?_) (λc=>?_)
 ·have aH:k<l.length:=by have:=zQk c;omega
  obtain⟨x,hx⟩:=zQL aH
  obtain⟨x1,x2⟩:=hk x (List.mem_of_getElem? hx)
  obtain⟨a,ha,hc,_⟩:=(hl.pu hpa).1.cell (j:=k) (v:=yWR x) (by rw[List.getElem?_map,hx];rfl)
  refine⟨a,ha,by omega,by omega,x,by rw[zXf,Nat.mul_one];exact hc,r,cl b1a 2,?_⟩
  have htk:(l.take (k+1)).flatMap (yVb t)=(l.take k).flatMap (yVb t) ++ yVb t x:=by rw[zQE hx,List.flatMap_append];simp
  have hfl:((l.take k).flatMap (yVb t)).length<=2002000:=by
   have h1:=xX1 (yYI hv) (l.take k)
   have h2:(l.take k).length<=1000:=by rw[List.length_take];omega
   have h3:=Nat.mul_le_mul_right 2002 h2
   omega
  have hcx:=yYI hv x
  refine Br.of (λc2=>?_) (λc2=>?_)
  ·have c2:=zQk c2
   have e:yVb t x=[]:=by unfold yVb;rw[if_pos (by omega)]
   rw[zQa (by omega) (by omega)]
   exact hJ _ _ aH ⟨rfl,by dsimp only;rw[htk,e,List.append_nil];exact hr,hp⟩
  ·have c2:=zQe c2
   refine⟨_,cl b1a 0,f,cl b1a 1,r,cl b1a 2,(rowE_c (sh:=zQu) (h.pu hpa) (zZC hv) x ⟨by omega,by omega⟩ (λ_ y hy=>⟨zXC.writes ho.all (ho.recs y hy),zXC.ne ho.all (ho.recs y hy) ho.ne⟩)).mono ?_⟩
   rintro e w5 ⟨q5,rfl,h5,aT⟩
   have hro:yQ1 zQu t x=xZs t x:=by
    unfold yQ1 xZs
    rw[if_pos (by unfold zJx;rw[if_neg (by rw[hv];simp),if_neg (by omega)])]
    all_goals (cases t.recs[(x - 1).toNat]? <;> rfl)
   rw[hro]at h5
   refine⟨q5,_,rfl,?_⟩
   rw[show x=((x.toNat:Nat):Int)by omega]
   refine(yK9 x.toNat 2 (by omega) (by omega) w5).mono ?_
   rintro e w6 ⟨q6,rfl,h6,bn⟩
   have dN:=(hp.trans aT).trans bn
   obtain⟨q7,w7,qh,n7,kh⟩:=((hr.pu aT).pu bn).app dN.size (m:=q6) (news:=zJi x.toNat 2) h6.len (λj b hj=>h6.cell hj) (by rw[List.length_append,zQ7,zQ7];omega)
   have ec:yVb t x=zJi x.toNat 2 ++ xZs t x:=by unfold yVb;rw[if_neg (by omega)]
   have hrb:(xZs t x).length<=2002:=by rw[ec,List.length_append]at hcx;omega
   have h57:zQf wa w7 q5 (xZs t x):=(h5.pu bn).fr kh λb hb e=>by
    have h1:=h5.2 b hb
    have h2:=hr.1.lt b e
    omega
   obtain⟨q8,w8,hr8,n8,oQ⟩:=n7.app (by have:=dN.size;have:=kh.size;omega) (m:=q5) (news:=xZs t x) h57.len (λj b hj=>h57.cell hj) (by simp only[List.length_append,zQ7];omega)
   have kL:Pu w1 w7:=dN.andNew kh hr.2
   refine⟨q6,rfl,q7,w7,qh,q8,w8,hr8,?_⟩
   rw[zQa (by omega) (by omega)]
   refine hJ _ _ aH ⟨rfl,?_,kL.andNew oQ n7.2⟩
   dsimp only
   rw[htk,ec,←List.append_assoc,←List.append_assoc,List.append_assoc (zJi t.recs.length 2)]at *
   exact n8
 ·have aH:k=l.length:=by have:=zQe c;omega
  subst aH
  rw[List.take_length]at hr
  exact⟨u1,rfl,by rw[yQB];exact hr.low aq.size,hpa⟩
end Go.Proofs.YtaeecpjhfmcliaaGreatDoor
/- The log: what is told of records changes a table: one of them. No condition but those stated. -/
namespace Go.Proofs.YtaeecpjhfmcliaaGreatDoor
open Go.Sh Go.RowKit Tryz
variable {w w' : World}
def chgT(R:Rt)(J1:SV->World->Prop)(p2 p4:Option Addr)(n6 n8 dp:Int)(l9:SV)(co:Nat)(kG:Bool)(ds:Ds)(aI:World):Prop:=
 Br (!kG) (
 zQh p2 λga=>
 ∃bm:Int,aI.cell? (ga.add 0)=some (.int .i64 bm)/\
 ∃au:SV,aI.cell? (ga.add 1)=some (.slice au.a au.len au.cap)/\
 ∃aC:SV,aI.cell? (ga.add 2)=some (.slice aC.a aC.len aC.cap)/\
 zQh p4 λjA=>
 stA prog 35 jA #[.int .i64 bm,.slice au.a au.len au.cap,.slice aC.a aC.len aC.cap] aI λbI=>
 zQc prog ds bI λbJ=>
 zQh p4 λjz=>
 ∃ag:Int,bJ.cell? (jz.add 0)=some (.int .i64 ag)/\
 ∃ab:SV,bJ.cell? (jz.add 1)=some (.slice ab.a ab.len ab.cap)/\
 ∃ae:SV,bJ.cell? (jz.add 2)=some (.slice ae.a ae.len ae.cap)/\
 R (.returned (.tuple #[.agg #[.int .i64 ag,.slice ab.a ab.len ab.cap,.slice ae.a ae.len ae.cap],.bool false])) bJ) (
 Br (decide (dp<1)) (
 zQh p2 λke=>
 ∃bm:Int,aI.cell? (ke.add 0)=some (.int .i64 bm)/\
 ∃au:SV,aI.cell? (ke.add 1)=some (.slice au.a au.len au.cap)/\
 ∃aC:SV,aI.cell? (ke.add 2)=some (.slice aC.a aC.len aC.cap)/\
 zQh p4 λa20=>
 stA prog 35 a20 #[.int .i64 bm,.slice au.a au.len au.cap,.slice aC.a aC.len aC.cap] aI λcr=>
 zQc prog ds cr λdX=>
 zQh p4 λph=>
 ∃ag:Int,dX.cell? (ph.add 0)=some (.int .i64 ag)/\
 ∃ab:SV,dX.cell? (ph.add 1)=some (.slice ab.a ab.len ab.cap)/\
 ∃ae:SV,dX.cell? (ph.add 2)=some (.slice ae.a ae.len ae.cap)/\
 R (.returned (.tuple #[.agg #[.int .i64 ag,.slice ab.a ab.len ab.cap,.slice ae.a ae.len ae.cap],.bool false])) dX) (
 zQh p2 λxi=>
 ∃pU:SV,aI.cell? (xi.add 2)=some (.slice pU.a pU.len pU.cap)/\
 Br (decide (dp > (IntKind.i64.wrap (((pU.len:Nat):Int)+1)))) (
 zQh p2 λna=>
 ∃bm:Int,aI.cell? (na.add 0)=some (.int .i64 bm)/\
 ∃au:SV,aI.cell? (na.add 1)=some (.slice au.a au.len au.cap)/\
 ∃aC:SV,aI.cell? (na.add 2)=some (.slice aC.a aC.len aC.cap)/\
 zQh p4 λxu=>
 stA prog 35 xu #[.int .i64 bm,.slice au.a au.len au.cap,.slice aC.a aC.len aC.cap] aI λgS=>
 zQc prog ds gS λcy=>
 zQh p4 λpN=>
 ∃ag:Int,cy.cell? (pN.add 0)=some (.int .i64 ag)/\
 ∃ab:SV,cy.cell? (pN.add 1)=some (.slice ab.a ab.len ab.cap)/\
 ∃ae:SV,cy.cell? (pN.add 2)=some (.slice ae.a ae.len ae.cap)/\
 R (.returned (.tuple #[.agg #[.int .i64 ag,.slice ab.a ab.len ab.cap,.slice ae.a ae.len ae.cap],.bool false])) cy) (
 Br (decide (dp > 300)) (
 zQh p2 λo3=>
 ∃bm:Int,aI.cell? (o3.add 0)=some (.int .i64 bm)/\
 ∃au:SV,aI.cell? (o3.add 1)=some (.slice au.a au.len au.cap)/\
 ∃aC:SV,aI.cell? (o3.add 2)=some (.slice aC.a aC.len aC.cap)/\
 zQh p4 λsX=>
 stA prog 35 sX #[.int .i64 bm,.slice au.a au.len au.cap,.slice aC.a aC.len aC.cap] aI λgz=>
 zQc prog ds gz λfW=>
 zQh p4 λtg=>
 ∃ag:Int,fW.cell? (tg.add 0)=some (.int .i64 ag)/\
 ∃ab:SV,fW.cell? (tg.add 1)=some (.slice ab.a ab.len ab.cap)/\
 ∃ae:SV,fW.cell? (tg.add 2)=some (.slice ae.a ae.len ae.cap)/\
 R (.returned (.tuple #[.agg #[.int .i64 ag,.slice ab.a ab.len ab.cap,.slice ae.a ae.len ae.cap],.bool false])) fW) (
 zQh p2 λsY=>
 ∃i7:SV,aI.cell? (sY.add 2)=some (.slice i7.a i7.len i7.cap)/\
 Br (decide (dp > ((i7.len:Nat):Int))) (
 zQh p2 λqR=>
 ∃aD:SV,aI.cell? (qR.add 2)=some (.slice aD.a aD.len aD.cap)/\
 ∃jX:Bool,aI.cell? ((⟨co,0,none⟩:Addr).add 0)=some (.bool jX)/\
 ∃cU:SV,aI.cell? ((⟨co,0,none⟩:Addr).add 1)=some (.slice cU.a cU.len cU.cap)/\
 alE (.cells #[.bool jX,.slice cU.a cU.len cU.cap] 67) aI λcv nc=>
 ∃aE:SV,∃kR:World,(Builtin.append_ #[33,33] 33 #[.slice aD.a aD.len aD.cap,.slice (some ⟨cv,0,none⟩) 1 1]).run prog nc=.ok (.slice aE.a aE.len aE.cap) kR/\
 zQh p2 λyj=>
 st1 (yj.add 2) (.slice aE.a aE.len aE.cap) kR λqV=>
 zYx R J1 p2 p4 n6 n8 l9 ds qV) (
 zQh p2 λyN=>
 ∃ow:SV,aI.cell? (yN.add 2)=some (.slice ow.a ow.len ow.cap)/\
 ∃jY:Bool,aI.cell? ((⟨co,0,none⟩:Addr).add 0)=some (.bool jY)/\
 ∃cV:SV,aI.cell? ((⟨co,0,none⟩:Addr).add 1)=some (.slice cV.a cV.len cV.cap)/\
 ∃ta:Addr,ow.a=some ta/\0<=(IntKind.i64.wrap (dp - 1))/\(IntKind.i64.wrap (dp - 1))<((ow.len:Nat):Int)/\
 stA prog 67 (ta.add ((IntKind.i64.wrap (dp - 1)).toNat * 2)) #[.bool jY,.slice cV.a cV.len cV.cap] aI λpC=>
 zYx R J1 p2 p4 n6 n8 l9 ds pC)))))
def badT(R:Rt)(p2 p4:Option Addr)(ds:Ds)(aI:World):Prop:=
 zQh p2 λga=>
 ∃bm:Int,aI.cell? (ga.add 0)=some (.int .i64 bm)/\
 ∃au:SV,aI.cell? (ga.add 1)=some (.slice au.a au.len au.cap)/\
 ∃aC:SV,aI.cell? (ga.add 2)=some (.slice aC.a aC.len aC.cap)/\
 zQh p4 λjA=>
 stA prog 35 jA #[.int .i64 bm,.slice au.a au.len au.cap,.slice aC.a aC.len aC.cap] aI λbI=>
 zQc prog ds bI λbJ=>
 zQh p4 λjz=>
 ∃ag:Int,bJ.cell? (jz.add 0)=some (.int .i64 ag)/\
 ∃ab:SV,bJ.cell? (jz.add 1)=some (.slice ab.a ab.len ab.cap)/\
 ∃ae:SV,bJ.cell? (jz.add 2)=some (.slice ae.a ae.len ae.cap)/\
 R (.returned (.tuple #[.agg #[.int .i64 ag,.slice ab.a ab.len ab.cap,.slice ae.a ae.len ae.cap],.bool false])) bJ
def xY5(w:World)(t:Tbl)(body:List UInt8):Rt:=λe w'=>Pu w w'/\∃(p:Int) (q1 q2:SV) (b:Bool),e=.returned (.tuple #[.agg #[.int .i64 p,slV q1,slV q2],.bool b])/\
 ((b=false/\zXb t body=none)∨b=true/\∃u,zXb t body=some u/\p=u.page/\zJq w w' u q1 q2)
theorem zKj.other {w0:World} {s:SV} {rs:List Rec} {b:Nat} {c:Array Value} {e:TypeId} (h:zKj w0 w s rs) (hf:Fr (·=b) w w') (hb:w.heap[b]?=some (.cells c e)) (h1:e ≠ 67) (h2:e ≠ 73):zKj w0 w' s rs:=by
 obtain⟨qs,k1,k2,k3,k4⟩:=h
 exact⟨qs,k1.fr hf λk hk ek=>k1.other hb (Ne.symm h1) (by rw[←show k=b from ek];exact hk),k2,k3,λi r x hr hx=>⟨(k4 i r x hr hx).1,(k4 i r x hr hx).2.fr hf λk hk ek=>(k4 i r x hr hx).2.1.other hb (Ne.symm h2) (by rw[←show k=b from ek];exact hk)⟩⟩
theorem zKj.set {w0:World} {s q:SV} {rs:List Rec} (h:zKj w0 w s rs) {k:Nat} (hk:k<rs.length) {x:Rec} (hq:zKa w0 w q x.v) {K:World->Prop} (hK:∀w',zKj w0 w' s (rs.set k x)->Fr (· ∈ zQd s) w w'->K w') :
  ∃a,s.a=some a/\stA prog 67 (a.add (k * 2)) #[.bool x.gone,slV q] w K:=by
 obtain⟨qs,k1,k2,k3,k4⟩:=h
 refine k1.stElem zQS (by decide) (i:=k) (by omega) (x.gone,q) yWG.symm rfl λw1 h1 hf hs=>hK w1 ⟨qs.set k (x.gone,q),h1,k2,by rw[List.length_set,List.length_set,k3],λi r y hr hy=>?_⟩ hf
 rw[List.getElem?_set]at hr hy
 by_cases e:k=i
 ·subst e
  rw[if_pos rfl,if_pos (by omega)]at hy hr
  cases hr;cases hy
  exact⟨rfl,hq.fr hf (zQn hq.1 k1 (by decide))⟩
 ·rw[if_neg e]at hr hy
  obtain⟨e1,e2⟩:=k4 i r y hr hy
  exact⟨e1,e2.fr hf (zQn e2.1 k1 (by decide))⟩
theorem zX8{t:Tbl}(hv:zQg t=0):yXO t:=by
 have ho:=zJj.of hv
 have hp:=ho.page
 unfold zQY at hp
 simp only[Bool.and_eq_true,decide_eq_true_eq]at hp
 have i8:=ho.n16
 refine⟨⟨by omega,by omega⟩,λg hg=>?_,zZr hv,by omega,ho.m300,λg hg=>(zXc (List.all_eq_true.1 ho.all g hg)).2.1⟩
 have hg:=List.all_eq_true.1 ho.all g hg
 have h1:=yQY hg
 have h2:=zXs hg
 exact⟨⟨by omega,by omega⟩,⟨by omega,by omega⟩⟩
structure ChS(w0:World)(r2 r4:Nat)(t:Tbl)(qf:SV)(recs:List Rec)(w:World):Prop where
 ex:∃s,w.heap[r2]?=some (.cells #[.int .i64 t.page,slV qf,slV s] 35)/\zKj w0 w s recs
 b4:w.heap[r4]?=some (.cells #[.int .i64 0,.slice none 0 0,.slice none 0 0] 35)
 qf:zKH w0 w qf t.fields
 pu:Pu w0 w
 z2:w0.heap.size<=r2
 z4:w0.heap.size<=r4
 ne:r2 ≠ r4
theorem ChS.on{w0:World}{r2 r4:Nat}{t:Tbl}{qf:SV}{recs:List Rec}(h:ChS w0 r2 r4 t qf recs w)(hp:Pu w w'):ChS w0 r2 r4 t qf recs w':=by
 obtain⟨s,h1,h2⟩:=h.ex
 exact⟨⟨s,hp.blk h1,h2.pu hp⟩,hp.blk h.b4,h.qf.pu hp,h.pu.trans hp,h.z2,h.z4,h.ne⟩
theorem ChS.bad{w0:World}{r2 r4:Nat}{t:Tbl}{qf:SV}{recs:List Rec}{body:List UInt8}(h:ChS w0 r2 r4 t qf recs w)(hno:zXb t body=none):badT (xY5 w0 t body) (some ⟨r2,0,none⟩) (some ⟨r4,0,none⟩) [] w:=by
 obtain⟨s,h1,h2⟩:=h.ex
 refine⟨_,cl h1 0,qf,cl h1 1,s,cl h1 2,zQi h.b4 zKZ.symm rfl rfl λw2 aM fY _=>⟨_,cl aM 0,qf,cl aM 1,s,cl aM 2,h.pu.andNew fY λi hi=>by rw[show i=_ from hi];exact h.z4,_,qf,s,false,rfl,.inl ⟨rfl,hno⟩⟩⟩
theorem xVx{w0:World}{r2 r4:Nat}{t:Tbl}{qf:SV}{recs:List Rec}{body:List UInt8}{J1:SV->World->Prop}{n6 n8:Int}{dp:Nat}{l9:SV}{co:Nat}{ok g:Bool}{q:SV}{row:List UInt8}
  (h:ChS w0 r2 r4 t qf recs w) (hb:w.heap[co]?=some (.cells #[.bool g,slV q] 67)) (hrow:(ok=false/\yXP t row=none)∨ok=true/\∃x,yXP t row=some x/\g=x.gone/\zKa w0 w q x.v) (cJ:recs.length<=300)
  (hno:yXP t row=none∨dp<1∨recs.length+1<dp∨300<dp->zXb t body=none)
  (hJ:∀x w',yXP t row=some x->¬(dp<1∨recs.length+1<dp∨300<dp)->ChS w0 r2 r4 t qf (if recs.length<dp then recs ++ [x]else recs.set (dp - 1) x) w'->Fr (λb=>w0.heap.size<=b) w w'->zYx (xY5 w0 t body) J1 (some ⟨r2,0,none⟩) (some ⟨r4,0,none⟩) n6 n8 l9 [] w') :
  chgT (xY5 w0 t body) J1 (some ⟨r2,0,none⟩) (some ⟨r4,0,none⟩) n6 n8 (dp:Int) l9 co ok [] w:=by
 obtain⟨s,h1,h2⟩:=h.ex
 have hsl:=h2.len
 refine Br.of (λc=>?_) (λc=>?_)
 ·have c:ok=false:=by simpa using c
  rcases hrow with⟨_,h0⟩|⟨h0,_⟩
  ·exact h.bad (hno (.inl h0))
  ·rw[c]at h0;cases h0
 have c:ok=true:=by simpa using c
 rcases hrow with⟨h0,_⟩|⟨_,x,hx,rfl,hV⟩
 ·rw[c]at h0;cases h0
 refine Br.of (λc1=>h.bad (hno (.inr (.inl (by have:=zQk c1;omega))))) (λc1=>⟨s,cl h1 2,?_⟩)
 have c1:=zQe c1
 rw[zQa (by omega) (by omega)]
 refine Br.of (λc2=>h.bad (hno (.inr (.inr (.inl (by have:=zQk c2;omega)))))) (λc2=>Br.of (λc3=>h.bad (hno (.inr (.inr (.inr (by have:=zQk c3;omega)))))) (λc3=>⟨s,cl h1 2,?_⟩))
 have c2:=zQe c2
 have c3:=zQe c3
 have hgood:¬(dp<1∨recs.length+1<dp∨300<dp):=by omega
 refine Br.of (λc4=>⟨s,cl h1 2,x.gone,cl hb 0,q,cl hb 1,alB λwa hpa ha=>?_⟩) (λc4=>⟨s,cl h1 2,x.gone,cl hb 0,q,cl hb 1,?_⟩)
 ·have c4:=zQk c4
  obtain⟨s',wb,hrb,nb,hfb⟩:=(h2.pu hpa).push (g:=x.gone) (vs:=x.v) (h.pu.trans hpa).size (hV.pu hpa) ha rfl (by omega)
  have h2b:=hfb.blk (hpa.blk h1) (λhk=>by obtain⟨qs,k1,_⟩:=h2.pu hpa;exact k1.other (hpa.blk h1) (by decide) hk)
  have h4b:=hfb.blk (hpa.blk h.b4) (λhk=>by obtain⟨qs,k1,_⟩:=h2.pu hpa;exact k1.other (hpa.blk h.b4) (by decide) hk)
  refine⟨s',wb,hrb,zQt h2b (by show 2<3;omega) λwc hwc hbc=>?_⟩
  have hfc:Fr (·=r2) wb wc:=by rw[hwc];exact Fr.cell wb _ _ _
  have hpb:Pu w0 wb:=(h.pu.trans hpa).andNew hfb (h2.pu hpa).own
  have hqf:zKH w0 wb qf t.fields:=(h.qf.pu hpa).fr hfb λk hk e=>by obtain⟨qs,k1,_⟩:=h2.pu hpa;exact zQn (h.qf.pu hpa).1 k1 (by decide) k hk e
  refine hJ x wc hx hgood ⟨⟨s',hbc,?_⟩,hfc.blk h4b (Ne.symm h.ne),hqf.fr hfc λk hk e=>hqf.1.other h2b (by decide) (by rw[←show k=r2 from e];exact hk),hpb.andNew hfc λi hi=>by rw[show i=_ from hi];exact h.z2,h.z2,h.z4,h.ne⟩ ?_
  ·rw[if_pos (by omega)];exact nb.other hfc h2b (by decide) (by decide)
  ·exact((Fr.pu hpa:Fr (λb=>w0.heap.size<=b) w wa).trans hfb λb hb _=>h2.own b hb).trans hfc λb hb _=>by rw[show b=_ from hb];exact h.z2
 ·have c4:=zQe c4
  rw[zQa (by omega) (by omega),show(dp:Int) - 1=((dp - 1:Nat):Int)by omega]
  obtain⟨a,ha,hst⟩:∃a,s.a=some a/\stA prog 67 (a.add ((dp - 1) * 2)) #[.bool x.gone,slV q] w λpC=>zYx (xY5 w0 t body) J1 (some ⟨r2,0,none⟩) (some ⟨r4,0,none⟩) n6 n8 l9 [] pC:=by
   refine h2.set (by omega) hV λwb nb hfb=>?_
   have ne35:∀{b:Nat} {c:Array Value},w.heap[b]?=some (.cells c 35)->¬b ∈ zQd s:=λhb hk=>by obtain⟨qs,k1,_⟩:=h2;exact k1.other hb (by decide) hk
   refine hJ x wb hx hgood ⟨⟨s,hfb.blk h1 (ne35 h1),by rw[if_neg (by omega)];exact nb⟩,hfb.blk h.b4 (ne35 h.b4),h.qf.fr hfb λk hk e=>by obtain⟨qs,k1,_⟩:=h2;exact zQn h.qf.1 k1 (by decide) k hk e,h.pu.andNew hfb h2.own,h.z2,h.z4,h.ne⟩ (hfb.mono λb hb _=>h2.own b hb)
  exact⟨a,ha,by omega,by omega,by rw[zXf];exact hst⟩
end Go.Proofs.YtaeecpjhfmcliaaGreatDoor
