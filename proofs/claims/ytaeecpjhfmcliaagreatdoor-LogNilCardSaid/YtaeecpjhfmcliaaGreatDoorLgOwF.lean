import Derived.Test.YtaeecpjhfmcliaaGreatDoorLgOwE
import Derived.Test.YtaeecpjhfmcliaaGreatDoorLgPrB
import Derived.Laws.LoneSync
/- The log: rows, tables and files are copied. No condition but those stated. -/
set_option maxRecDepth 100000
set_option linter.unusedVariables false
set_option linter.unusedSimpArgs false
noncomputable section
namespace Go.Proofs.YtaeecpjhfmcliaaGreatDoor
open Go.Sh Go.RowKit Tryz
variable {w w' : World}
def zVc(w:World)(e:TypeId)(sz:Nat)(news:List Value):Rt:=λx w'=>∃q:SV,x=.returned (slV q)/\zQi w' e sz q news/\(∀b ∈ zQb q,w.heap.size<=b)/\Pu w w'
theorem zJm {t e:TypeId} {sz b:Nat} {z:Value} (ht:prog.underlying t=some (.slice e)) (hi:(prog.info? e).map (λi=>(i.zero,i.size,i.bytes))=some (some z,sz,b)) (hz:z.cells.size=sz) (hsz:0<sz)
  (s:SV) {news:List Value} (hl:news.length=s.len * sz) (hn:∀j u,news[j]?=some u->∃a,s.a=some a/\w.cell? (a.add j)=some u) (h1:∀u ∈ news,u.oneCell'=true) (hb:s.len * (b+1)<=140737488355328)
  :
  ∃b4:Bool,∃w1:World,(eqS .eql t (.tmp 3) (.const (.slice none 0 0)) (.slice s.a s.len s.cap) (.slice none 0 0)).run prog w=.ok (.bool b4) w1/\
  Br b4 (zVc w e sz news (.returned (.slice none 0 0)) w1) (alE (.cells #[] e) w1 λr5 w3=>
   ∃l7:SV,∃w4:World,(Builtin.append_ #[t,t] t #[.slice (some ⟨r5,0,none⟩) 0 0,.slice s.a s.len s.cap]).run prog w3=.ok (.slice l7.a l7.len l7.cap) w4/\zVc w e sz news (.returned (.slice l7.a l7.len l7.cap)) w4):=by
 refine⟨_,w,zYu ht _ _ _ _ _ w,Br.of (λhn'=>?_) (λhn'=>?_)⟩
 ·have tv:news=[]:=by
   cases news with
   | nil=>rfl
   | cons v l=>
    obtain⟨a,ha,_⟩:=hn 0 v rfl
    rw[ha]at hn';cases hn'
  subst tv
  exact⟨⟨none,0,0⟩,rfl,zQi.nil _ _ _,by simp[zQb],Pu.refl w⟩
 ·refine zWD λw1 fy=>?_
  have aA:Pu w w1:=by rw[fy];exact Pu.alloc w _
  have pW:zQi w1 e sz ⟨some ⟨w.heap.size,0,none⟩,0,0⟩ []:=⟨by simp,.inr ⟨_,#[],rfl,by rw[fy];exact zX4 w _,Nat.le_refl _,Nat.zero_le _,by simp,by simp⟩⟩
  obtain⟨q,w2,hr,hrow,hf,hblk,_⟩:=zQ1 (P:=prog) (ty:=t) ht hi hz hsz pW (A:=s.a) (m:=s.len) (c:=s.cap) (news:=news) hl (λj u hu=>by
   obtain⟨a,ha,hc⟩:=hn j u hu
   exact⟨a,ha,aA.cell hc⟩) h1 (by show(0+s.len) * (b+1)<=_;rw[Nat.zero_add];exact hb)
  rw[List.nil_append]at hrow
  refine⟨q,w2,hr,q,rfl,hrow,λb hb=>?_,aA.andNew hf λb hb=>by simp[zQb]at hb;omega⟩
  rcases hblk b hb with h|h
  ·simp[zQb]at h;omega
  ·have:=aA.size;omega
theorem zKO {α:Type} {cells:α->List Value} {n:Nat} (hn:∀x,(cells x).length=n) (h0:0<n) {s:SV} {l:List α} (h:∀i x,l[i]?=some x->∃a,s.a=some a/\∀o v,(cells x)[o]?=some v->w.cell? ((a.add (i * n)).add o)=some v) :
  ∀j u,(l.flatMap cells)[j]?=some u->∃a,s.a=some a/\w.cell? (a.add j)=some u:=λj u hu=>by
 have hj:j<l.length * n:=by have:=(List.getElem?_eq_some_iff.1 hu).1;rwa [zQy hn]at this
 have hd:j / n<l.length:=(Nat.div_lt_iff_lt_mul h0).2 hj
 have hm:j / n * n+j % n=j:=by have:=Nat.div_add_mod j n;rw[Nat.mul_comm]at this;exact this
 obtain⟨x,hx⟩:=zXf hd
 obtain⟨a,ha,hc⟩:=h _ x hx
 have h2:=zJ7 hn hx (j % n) (Nat.mod_lt _ h0)
 rw[hm,hu]at h2
 have h3:=hc _ u h2.symm
 rw[Addr.add_add,hm]at h3
 exact⟨a,ha,h3⟩
theorem yYH{s:SV}{l:List Val}(h:RdV w s l)(hb:l.length<=1000000):Calls prog 78 #[slV s] w (zVc w 73 3 (l.flatMap zWQ)):=by
 have hl:=h.len
 refine yVr s w _ (zJm vu38 vi73 rfl (by decide) s (by rw[zQy zX6,hl]) (zKO zX6 (by decide) λi v hv=>?_) (λu hu=>?_) (by omega))
 ·obtain⟨a,ha,c0,c1,c2⟩:=h.get i v hv
  refine⟨a,ha,λo u hu=>?_⟩
  rcases o with _|_|_|o <;> simp[zWQ]at hu <;> subst hu <;> assumption
 ·obtain⟨y,_,hy⟩:=List.mem_flatMap.1 hu
  simp[zWQ]at hy
  rcases hy with rfl|rfl|rfl <;> rfl
theorem yYf{s:SV}{l:List Fld}(h:zXV w s l)(hb:l.length<=1000000):Calls prog 97 #[slV s] w (zVc w 129 4 (l.flatMap zVr)):=by
 have hl:=h.len
 refine yVy s w _ (zJm vu32 vi129 rfl (by decide) s (by rw[zQy zZH,hl]) (zKO zZH (by decide) λi v hv=>?_) (λu hu=>?_) (by omega))
 ·obtain⟨a,ha,_,_,_,_,c0,c1,c2,c3⟩:=zVj h hv
  refine⟨a,ha,λo u hu=>?_⟩
  rcases o with _|_|_|_|o <;> simp[zVr]at hu <;> subst hu <;> assumption
 ·obtain⟨y,_,hy⟩:=List.mem_flatMap.1 hu
  simp[zVr]at hy
  rcases hy with rfl|rfl|rfl|rfl <;> rfl
def RdR (w:World) (s:SV) (hs:List (Bool × SV)) (rs:List Rec):Prop:=s.len=rs.length/\hs.length=rs.length/\(∀(i:Nat) (x:Bool × SV),hs[i]?=some x->∃a,s.a=some a/\w.cell? ((a.add (i * 2)).add 0)=some (.bool x.1)/\w.cell? ((a.add (i * 2)).add 1)=some (slV x.2))/\∀(i:Nat) (x:Bool × SV) (r:Rec),hs[i]?=some x->rs[i]?=some r->x.1=r.gone/\RdV w x.2 r.v
theorem RdR.of{s:SV}{rs:List Rec}(h:zXV w s rs):∃hs,RdR w s hs rs:=by
 have key:∀i r,rs[i]?=some r->∃x:Bool × SV,∃a,s.a=some a/\w.cell? ((a.add (i * 2)).add 0)=some (.bool x.1)/\w.cell? ((a.add (i * 2)).add 1)=some (slV x.2)/\x.1=r.gone/\RdV w x.2 r.v:=λi r hr=>by
  obtain⟨a,t,h1,_,h2,h3,h4⟩:=yQB h hr
  exact⟨(r.gone,t),a,h1,h3,h4,rfl,RdV.of h2⟩
 have pB:∀n,n<=rs.length->∃hs:List (Bool × SV),hs.length=n/\∀(i:Nat) (x:Bool × SV) (r:Rec),hs[i]?=some x->rs[i]?=some r->∃a,s.a=some a/\w.cell? ((a.add (i * 2)).add 0)=some (.bool x.1)/\w.cell? ((a.add (i * 2)).add 1)=some (slV x.2)/\x.1=r.gone/\RdV w x.2 r.v:=by
  intro n
  induction n with
  | zero=>exact λ_=>⟨[],rfl,λi x r hx=>by simp at hx⟩
  | succ n ih=>
   intro hn
   obtain⟨hs,h1,h2⟩:=ih (by omega)
   obtain⟨r,hr⟩:=zXf (l:=rs) (k:=n) (by omega)
   obtain⟨x,hx⟩:=key n r hr
   refine⟨hs ++ [x],by simp[h1],λi y r' hy hr'=>?_⟩
   rcases Nat.lt_trichotomy i n with hi|hi|hi
   ·rw[List.getElem?_append_left (by omega)]at hy;exact h2 i y r' hy hr'
   ·subst hi
    rw[List.getElem?_append_right (by omega),h1,Nat.sub_self]at hy
    simp at hy;subst hy
    rw[hr]at hr';cases hr'
    exact hx
   ·rw[List.getElem?_eq_none (by rw[List.length_append,h1,List.length_singleton];omega)]at hy;cases hy
 obtain⟨hs,h1,h2⟩:=pB rs.length (Nat.le_refl _)
 refine⟨hs,h.len,h1,λi x hx=>?_,λi x r hx hr=>?_⟩
 ·obtain⟨r,hr⟩:=zXf (l:=rs) (k:=i) (by have:=(List.getElem?_eq_some_iff.1 hx).1;omega)
  obtain⟨a,q1,q2,q3,_⟩:=h2 i x r hx hr
  exact⟨a,q1,q2,q3⟩
 ·obtain⟨a,_,_,_,q4,q5⟩:=h2 i x r hx hr
  exact⟨q4,q5⟩
theorem yVT {s:SV} {hs:List (Bool × SV)} {rs:List Rec} (h:RdR w s hs rs) (hb:rs.length<=1000000):Calls prog 98 #[slV s] w (zVc w 67 2 (hs.flatMap yZt)):=by
 obtain⟨hl,tx,h3,h4⟩:=h
 refine yV0 s w _ (zJm vu33 vi67 rfl (by decide) s (by rw[zQy zQR,hl,tx]) (zKO zQR (by decide) λi v hv=>?_) (λu hu=>?_) (by omega))
 ·obtain⟨a,ha,c0,c1⟩:=h3 i v hv
  refine⟨a,ha,λo u hu=>?_⟩
  rcases o with _|_|o <;> simp[yZt]at hu <;> subst hu <;> assumption
 ·obtain⟨y,_,hy⟩:=List.mem_flatMap.1 hu
  simp[yZt]at hy
  rcases hy with rfl|rfl <;> rfl
theorem yYi{s:SV}{l:List UInt8}(h:ByV w s l)(hb:l.length<=1000000000):Calls prog 110 #[slV s] w λe w'=>∃q:SV,e=.returned (slV q)/\zQc w w' q l/\Pu w w':=by
 have hl:=h.len
 refine(yJf s w (zVc w 5 1 (l.map u8V)) (zJm vu22 vi5 rfl (by decide) s (by rw[List.length_map,Nat.mul_one,hl]) (λj u hu=>?_) (λu hu=>?_) (by omega))).mono λe w' ⟨q,h0,h1,h2,h3⟩=>⟨q,h0,⟨h1,h2⟩,h3⟩
 ·obtain⟨b,hb,rfl⟩:∃b,l[j]?=some b/\u8V b=u:=by simpa using hu
  obtain⟨a,ha,hc⟩:=h.get j b hb
  exact⟨a,ha,by rw[Nat.mul_one]at hc;exact hc⟩
 ·obtain⟨y,_,rfl⟩:=List.mem_map.1 hu;rfl
theorem zXK.cells{s q0 q1:SV}{F:Fls}(h:zXK w s q0 q1 F):∀(j:Nat) u,[slV q0,slV q1][j]?=some u->∃a,s.a=some a/\w.cell? (a.add j)=some u:=by
 obtain⟨a,h1,h2,h3⟩:=h.ex
 refine λj u hu=>⟨a,h1,?_⟩
 rcases j with _|_|j <;> simp at hu <;> subst hu <;> assumption
theorem yV9{s q0 q1:SV}{F:Fls}(h:zXK w s q0 q1 F):Calls prog 109 #[slV s] w (zVc w 22 1 [slV q0,slV q1]):=by
 have hl:=h.len
 refine yJq s w _ (zJm vu82 vi22 rfl (by decide) s (by rw[hl];rfl) h.cells (λu hu=>?_) (by omega))
 simp at hu
 rcases hu with rfl|rfl <;> rfl
structure zWg(w0 w:World)(t:Tbl)(h:HT):Prop where
 tab:zZX w t h
 f:zQi w 129 4 h.f (t.fields.flatMap zVr)
 fn:∀b ∈ zQb h.f,w0.heap.size<=b
 rn:∀b ∈ zQb h.r,w0.heap.size<=b
 vn:∀b ∈ vBl h.hs,w0.heap.size<=b
theorem zWg.fr{w0:World}{t:Tbl}{h:HT}{B:Nat->Prop}(ht:zWg w0 w t h)(hf:Fr B w w')(hn:∀b,w0.heap.size<=b->b<w.heap.size->¬B b):zWg w0 w' t h where
 tab:=ht.tab.fr hf λb hb=>hn b (hb.elim (ht.rn b) (ht.vn b)) (ht.tab.lt b hb)
 f:=ht.f.fr hf λb hb=>hn b (ht.fn b hb) (ht.f.lt b hb)
 fn:=ht.fn
 rn:=ht.rn
 vn:=ht.vn
theorem zWg.pu{w0:World}{t:Tbl}{h:HT}(ht:zWg w0 w t h)(hp:Pu w w'):zWg w0 w' t h:=ht.fr (Fr.pu hp:Fr (λ_=>False) w w') λ_ _ _ h=>h
theorem zWg.low{w0 w1:World}{t:Tbl}{h:HT}(ht:zWg w1 w t h)(hz:w0.heap.size<=w1.heap.size):zWg w0 w t h:=
 ⟨ht.tab,ht.f,λb hb=>Nat.le_trans hz (ht.fn b hb),λb hb=>Nat.le_trans hz (ht.rn b hb),λb hb=>Nat.le_trans hz (ht.vn b hb)⟩
theorem zKq {t:Tbl} {s:SV} (hv:zQh t=0) (ht:zQi w 129 4 s (t.fields.flatMap zVr)):zXV w s t.fields:=by
 have ho:=zJE.of hv
 have fv:=ho.n16
 refine zKC.rd (w0:={ w with heap:=#[] }) ⟨ht,λ_ _=>Nat.zero_le _⟩ (by omega) λg hg=>?_
 have hg:=List.all_eq_true.1 ho.all g hg
 have h1:=yWe hg
 have h2:=zXm hg
 exact⟨⟨by omega,by omega⟩,⟨by omega,by omega⟩⟩
theorem zWg.fields{w0:World}{t:Tbl}{h:HT}(ht:zWg w0 w t h)(hv:zQh t=0):zXV w h.f t.fields:=zKq hv ht.f
theorem zWg.rd{w0:World}{t:Tbl}{h:HT}(ht:zWg w0 w t h)(hv:zQh t=0):zXB w t h.f h.r:=ht.tab.rd (ht.fields hv) hv
theorem zW0(s:SV):(zQb s).Nodup:=by unfold zQb;split <;> simp
theorem zXL (a b:List (Bool × SV)):vBl (a ++ b)=vBl a ++ vBl b:=by unfold vBl;rw[List.flatMap_append]
theorem xZQ {hs:List (Bool × SV)} {k:Nat} {x:Bool × SV} (hk:k<hs.length):hs.set k x=hs.take k ++ x :: hs.drop (k+1):=by
 rw[List.set_eq_take_append_cons_drop,if_pos hk]
theorem RdR.pu {s:SV} {hs:List (Bool × SV)} {rs:List Rec} (h:RdR w s hs rs) (hp:Pu w w'):RdR w' s hs rs:=
 ⟨h.1,h.2.1,λi x hx=>let ⟨a,h1,h2,h3⟩:=h.2.2.1 i x hx;⟨a,h1,hp.cell h2,hp.cell h3⟩,λi x r hx hr=>⟨(h.2.2.2 i x r hx hr).1,(h.2.2.2 i x r hx hr).2.pu hp⟩⟩
theorem zJ5{t:Tbl}{f r:SV}(h:zXB w t f r)(hv:zQh t=0):Calls prog 56 #[zYq t f r] w λe w'=>∃q:HT,e=.returned (.agg #[.int .i64 q.page,slV q.f,slV q.r])/\zWg w w' t q/\Pu w w':=by
 have hR:=zX3.of hv
 have gn:=hR.n300
 have ls:=zVh hv
 have fv:=(zJE.of hv).n16
 obtain⟨hs,hrr⟩:=RdR.of h.recs
 have r2:=hrr.2.1
 refine yVn _ _ _ w _ (alB λw1 aA aD=>alB λw2 ay aL=>?_)
 have cz:=ay.blk aD
 have aJ:=aA.trans ay
 refine⟨f,cl cz 1,(yYf (h.fields.pu aJ) (by omega)).mono ?_⟩
 rintro e w3 ⟨q,rfl,hq,hqn,aC⟩
 have lV:=aC.blk cz
 have tD:=aC.blk aL
 have l1:w.heap.size<w1.heap.size:=zQ5 aD
 have l2:w1.heap.size<w2.heap.size:=zQ5 aL
 have z3:=aC.size
 refine⟨q,rfl,zQw lV (by show 1<3;omega) λw4 yE lF=>?_⟩
 have f34:Fr (·=w.heap.size) w3 w4:=by rw[yE];exact Fr.cell w3 _ _ _
 have ei:Pu w w4:=(aJ.trans aC).andNew f34 λi hi=>by rw[show i=_ from hi];exact Nat.le_refl _
 have pj:=f34.blk tD (show ¬w1.heap.size=w.heap.size by omega)
 have qu:=hq.fr f34 λb hb e=>by have:=hqn b hb;have e:b=w.heap.size:=e;omega
 refine⟨r,cl lF 2,(yVT (hrr.pu ei) (by omega)).mono ?_⟩
 rintro e w5 ⟨s,rfl,j9,hsn,ba⟩
 have kW:=ba.blk lF
 have ph:=ba.blk pj
 have z4:w4.heap.size=w3.heap.size:=by rw[yE];simp
 have z5:=ba.size
 refine⟨s,rfl,zQw kW (by show 2<3;omega) λw6 yF fY=>?_⟩
 have f56:Fr (·=w.heap.size) w5 w6:=by rw[yF];exact Fr.cell w5 _ _ _
 have z6:w6.heap.size=w5.heap.size:=by rw[yF];simp
 have fp:Pu w w6:=(ei.trans ba).andNew f56 λi hi=>by rw[show i=_ from hi];exact Nat.le_refl _
 have b26:=f56.blk ph (show ¬w1.heap.size=w.heap.size by omega)
 have qo:=j9.fr f56 λb hb e=>by have:=hsn b hb;have e:b=w.heap.size:=e;omega
 have pG:=(qu.pu ba).fr f56 λb hb e=>by have:=hqn b hb;have e:b=w.heap.size:=e;omega
 have hsl:=qo.len zQR (by decide)
 refine⟨s,cl fY 2,?_⟩
 rw[show((s.len:Nat):Int)=((t.recs.length:Nat):Int)by rw[hsl,r2]]
 -- the loop: so many rows of values are new
 refine zQD t.recs.length (λk j w'=>j=(k:Int)/\∃ns:List (Bool × SV),ns.length=k/\zQi w' 67 2 s ((ns ++ hs.drop k).flatMap yZt)/\w'.heap[w.heap.size]?=some (.cells #[.int .i64 t.page,slV q,slV s] 35)/\w'.heap[w1.heap.size]?=some (.cells #[.int .i64 0,.slice none 0 0,.slice none 0 0] 35)/\
   Pu w w'/\zQi w' 129 4 q (t.fields.flatMap zVr)/\w6.heap.size<=w'.heap.size/\(vBl ns).Nodup/\(∀b ∈ vBl ns,w6.heap.size<=b)/\∀(i:Nat) (x:Bool × SV) (r:Rec),ns[i]?=some x->t.recs[i]?=some r->x.1=r.gone/\zQi w' 73 3 x.2 (r.v.flatMap zWQ))
  ⟨rfl,[],rfl,by simpa using qo,fY,b26,fp,pG,Nat.le_refl _,by simp[vBl],by simp[vBl],λi x r hx=>by simp at hx⟩ ?_
 rintro k J j wa hk ⟨hj,ns,n1,n2,n3,n4,n5,n6,n7,n8,n9,fh⟩ hJ
 obtain rfl:j=(k:Int):=hj
 have hsl:=n2.len zQR (by decide)
 rw[List.length_append,List.length_drop,n1,r2]at hsl
 refine Br.of (λc=>?_) (λc=>?_)
 ·have hkn:k<t.recs.length:=by have:=zQs c;omega
  obtain⟨x,hx⟩:=zXf (l:=hs) (k:=k) (by omega)
  obtain⟨rc,hrc⟩:=zXf hkn
  have hnx:(ns ++ hs.drop k)[k]?=some x:=by rw[List.getElem?_append_right (by omega),n1,Nat.sub_self,List.getElem?_drop,Nat.add_zero];exact hx
  obtain⟨e1,e2⟩:=hrr.2.2.2 k x rc hx hrc
  obtain⟨a,ha,_,c0⟩:=n2.elem zQR hnx (o:=0) rfl
  obtain⟨a',ha',_,c1⟩:=n2.elem zQR hnx (o:=1) rfl
  rw[ha]at ha';cases ha'
  refine⟨a,ha,by omega,by omega,x.1,by rw[zZW];exact c0,x.2,by rw[zZW];exact c1,?_⟩
  refine alB λwb hpb bb=>zQl bb vk67.symm rfl rfl λwc bc fc zc=>zQe λwd hpd hhd=>?_
  have hac:Pu wa wc:=hpb.andNew fc λi hi=>by rw[show i=_ from hi];exact Nat.le_refl _
  have had:=hac.trans hpd
  have bd:=hpd.blk bc
  have tg:rc.v.length<=1000000:=(ls rc (List.mem_of_getElem? hrc)).2
  refine⟨λu=>Pu wd u,Pu.refl _,s,λu hu=>cl (hu.blk (had.blk n3)) 2,x.2,λu hu=>cl (hu.blk bd) 1,(yYH (e2.pu (n5.trans had)) tg).mono ?_⟩
  rintro e we ⟨v,rfl,yG,yH,hpe⟩
  have hae:=had.trans hpe
  refine⟨v,rfl,hpe,a,ha,by omega,by omega,?_⟩
  obtain⟨a2,qD,hst⟩:∃a2,s.a=some a2/\Sh.st1 ((a2.add (k * 2)).add 1) (slV v) we λw'=>J (IntKind.i64.wrap ((k:Int)+1)) w':=by
   refine zQi.stField (n2.pu hae) zQR (i:=k) (o:=1) (by rw[List.length_append,List.length_drop,n1];omega) (by decide) (x.1,v) (slV v) (λy hy=>by rw[hnx]at hy;cases hy;rfl) λwf hwf ff zf=>?_
   rw[zQa (by omega) (by omega)]
   have hne:∀{b:Nat} {c:Array Value} {e:TypeId},we.heap[b]?=some (.cells c e)->e ≠ 67->¬b ∈ zQb s:=λhb he=>(n2.pu hae).other hb (Ne.symm he)
   have zae:=hae.size
   have hslo:∀b ∈ zQb s,w4.heap.size<=b:=hsn
   have hshi:∀b ∈ zQb s,b<w6.heap.size:=qo.lt
   refine hJ _ _ hkn ⟨by omega,ns ++ [(x.1,v)],by simp[n1],?_,ff.blk (hae.blk n3) (hne (hae.blk n3) (by decide)),ff.blk (hae.blk n4) (hne (hae.blk n4) (by decide)),(n5.trans hae).andNew ff λb hb=>by have:=hslo b hb;omega,(n6.pu hae).fr ff (λb hb aL=>zQp (n6.pu hae) (n2.pu hae) (by decide) b hb aL),by omega,?_,?_,?_⟩
   ·have e:(ns ++ hs.drop k).set k (x.1,v)=ns ++ [(x.1,v)] ++ hs.drop (k+1):=by
     rw[List.set_append,if_neg (by omega),n1,Nat.sub_self,zXG hx,List.set_cons_zero,List.append_assoc];rfl
    rw[←e];exact hwf
   ·rw[zXL]
    refine List.nodup_append.2 ⟨n8,by simp[vBl,zW0],λb hb c hc e=>?_⟩
    subst e
    have hc:b ∈ zQb v:=by simpa[vBl] using hc
    have h1:=yH b hc
    obtain⟨y,hy,hyb⟩:=List.mem_flatMap.1 hb
    obtain⟨i,hi⟩:=List.getElem?_of_mem hy
    obtain⟨ry,hry⟩:=zXf (l:=t.recs) (k:=i) (by have:=(List.getElem?_eq_some_iff.1 hi).1;omega)
    have h2:=(fh i y ry hi hry).2.lt b hyb
    have:=had.size
    omega
   ·intro b hb
    rw[zXL,List.mem_append]at hb
    rcases hb with hb|hb
    ·exact n9 b hb
    ·have hb:b ∈ zQb v:=by simpa[vBl] using hb
     have h1:=yH b hb
     have:=had.size
     omega
   ·intro i y ry hy hry
    rcases Nat.lt_trichotomy i k with hi|hi|hi
    ·rw[List.getElem?_append_left (by omega)]at hy
     obtain⟨q1,q2⟩:=fh i y ry hy hry
     exact⟨q1,(q2.pu hae).fr ff (zQp (q2.pu hae) (n2.pu hae) (by decide))⟩
    ·subst hi
     rw[List.getElem?_append_right (by omega),n1,Nat.sub_self]at hy
     simp at hy;subst hy
     rw[hrc]at hry;cases hry
     exact⟨e1,yG.fr ff (zQp yG (n2.pu hae) (by decide))⟩
    ·rw[List.getElem?_eq_none (by rw[List.length_append,n1,List.length_singleton];omega)]at hy;cases hy
  rw[ha]at qD;cases qD
  rw[zZW];exact hst
 ·have hkn:k=t.recs.length:=by have:=zQj c;omega
  subst hkn
  refine⟨_,cl n3 0,q,cl n3 1,s,cl n3 2,zQl n4 zVm.symm rfl rfl λwz bz fz zz=>⟨_,cl bz 0,q,cl bz 1,s,cl bz 2,⟨t.page,q,s,ns⟩,rfl,?_,n5.andNew fz λi hi=>by rw[show i=_ from hi];omega⟩⟩
  rw[←r2,List.drop_length,List.append_nil]at n2
  have nz:∀b,w2.heap.size<=b->b ≠ w1.heap.size:=λb hb e=>by omega
  refine⟨⟨rfl,n2.fr fz λb hb=>nz b (by have:=hsn b hb;omega),n1,λi x r hx hr=>⟨(fh i x r hx hr).1,(fh i x r hx hr).2.fr fz λb hb=>nz b (by have:=n9 b (zY1 (List.mem_of_getElem? hx) hb);omega)⟩,n8⟩,n6.fr fz λb hb=>nz b (hqn b hb),λb hb=>by have:=hqn b hb;omega,λb hb=>by have:=hsn b hb;omega,λb hb=>by have:=n9 b hb;omega⟩
end Go.Proofs.YtaeecpjhfmcliaaGreatDoor
/- The log: numbers, sums and records as the program writes and reads them. No condition but those stated. -/
namespace Go.Proofs.YtaeecpjhfmcliaaGreatDoor
open Go.Sh Go.RowKit Tryz
variable {w w' : World}
theorem zYC:∀(k n:Nat),zZp n k=zWq n k
 | 0,_=>rfl
 | k+1,n=>by
  rw[zZp,zYC k]
  unfold zWq
  rw[List.range_succ_eq_map,List.map_cons,List.map_map]
  congr 1
  ·rw[Nat.pow_zero,Nat.div_one]
  ·refine List.map_congr_left λj _=>?_
   show UInt8.ofNat (n / 256 / 256 ^ j % 256)=UInt8.ofNat (n / 256 ^ (j+1) % 256)
   rw[Nat.div_div_eq_div_mul,Nat.pow_succ,Nat.mul_comm 256]
theorem yWN(n k:Nat):zZp n (k+1)=zZp n k ++ [UInt8.ofNat (n / 256 ^ k % 256)]:=by rw[zYC,zYC,yQM]
theorem pow256(j:Nat):256 ^ j=2 ^ (8 * j):=by rw[Nat.pow_mul]
theorem yZC(n k:Nat)(hk:k<=7)(hn:n<=1000000000000000)(w:World):Calls prog 143 #[.int .i64 (n:Int),.int .i64 (k:Int)] w λe w'=>∃q:SV,e=.returned (slV q)/\zQc w w' q (zZp n k)/\Pu w w':=by
 obtain⟨i,h2,h3,h4,h5⟩:=info_parts vi5
 obtain⟨w1,hr,hrow,aA,xb⟩:=zYB (P:=prog) (w:=w) vu22 h2 h3 h4 .i64 .i64 k (by rw[h5];omega) (by omega)
 refine yKo _ _ w _ ⟨⟨some ⟨w.heap.size,0,none⟩,k,k⟩,w1,hr,?_⟩
 have hz:((madeCells (Value.int .u8 0).cells (k * 1)).toList)=(List.replicate k (0:UInt8)).map u8V:=by
  rw[show(Value.int IntKind.u8 0).cells=#[.int .u8 0]from rfl,toList_madeCells_one,Nat.mul_one,List.map_replicate]
  rfl
 rw[hz]at hrow
 refine zQD k (λj t w'=>t=(j:Int)/\zQi w' 5 1 ⟨some ⟨w.heap.size,0,none⟩,k,k⟩ ((zZp n j ++ List.replicate (k - j) 0).map u8V)/\Pu w w') ⟨rfl,by simpa[zZp] using hrow,aA⟩ ?_
 rintro j J t w2 hj ⟨ht,h6,ay⟩ hJ
 obtain rfl:t=(j:Int):=ht
 refine Br.of (λc=>?_) (λc=>?_)
 ·have hjk:j<k:=by have:=zQs c;dsimp only at this;omega
  rw[zQa (n:=8 * (j:Int)) (by omega) (by omega)]
  obtain⟨a,ha,hst⟩:=h6.st1 (j:=j) (by rw[List.length_map,List.length_append,zQu,List.length_replicate];omega) (.int .u8 (IntKind.u8.wrap ((n:Int).fdiv (2 ^ (min (8 * (j:Int)).toNat 64))))) (K:=λw3=>J (IntKind.i64.wrap ((j:Int)+1)) w3) λw3 h7 hf hs=>by
   rw[zQa (by omega) (by omega)]
   refine hJ _ _ hjk ⟨rfl,?_,ay.andNew hf λb hb=>by simp[zQb]at hb;omega⟩
   have e:(.int .u8 (IntKind.u8.wrap ((n:Int).fdiv (2 ^ (min (8 * (j:Int)).toNat 64)))):Value)=u8V (UInt8.ofNat (n / 256 ^ j % 256)):=by
    rw[zZC]
    congr 1
    rw[←zWK]
    congr 1
    rw[show(min (8 * (j:Int)).toNat 64)=8 * j by omega,Int.fdiv_eq_ediv_of_nonneg _ (by exact_mod_cast Nat.zero_le _),pow256]
    norm_cast
   rw[e]at h7
   have e2:((zZp n j ++ List.replicate (k - j) 0).map u8V).set j (u8V (UInt8.ofNat (n / 256 ^ j % 256)))=(zZp n (j+1) ++ List.replicate (k - (j+1)) 0).map u8V:=by
    rw[←List.map_set]
    congr 1
    rw[List.set_append,if_neg (by rw[zQu];omega),zQu,Nat.sub_self,show k - j=(k - (j+1))+1 by omega,List.replicate_succ,List.set_cons_zero,yWN,List.append_assoc]
    rfl
   rw[←e2];exact h7
  refine⟨by omega,a,ha,by omega,by show(j:Int)<((k:Nat):Int);omega,?_⟩
  rw[zZW,Nat.mul_one]
  exact hst
 ·have hjk:j=k:=by have:=zQj c;dsimp only at this;omega
  subst hjk
  rw[Nat.sub_self,List.replicate_zero,List.append_nil]at h6
  exact⟨_,rfl,⟨h6,λb hb=>by simp[zQb]at hb;omega⟩,ay⟩
theorem u8_lt(b:UInt8):b.toNat<256:=b.toNat_lt
theorem yW0(l:List UInt8)(c:UInt8):zYT (l ++ [c])=yZU (zYT l) c:=by
 unfold zYT;rw[List.foldl_append,List.foldl_cons,List.foldl_nil]
theorem yKK{m:Nat}(h:m<2 ^ 32):(BitVec.ofInt 32 (m:Int)).toNat=m:=by
 rw[BitVec.toNat_ofInt,Int.emod_eq_of_lt (by omega) (by exact_mod_cast h)];rfl
theorem step32(n:Nat)(b:UInt8):IntKind.u32.wrap ((BitVec.ofInt 32 (IntKind.u32.wrap ((n:Int) * 16777619)) ^^^ BitVec.ofInt 32 (IntKind.u32.wrap ((b.toNat:Nat):Int))).toNat:Nat)=((yZU n b:Nat):Int):=by
 unfold yZU
 have hc:=u8_lt b
 generalize b.toNat=c at hc ⊢
 have e1:IntKind.u32.wrap ((n:Int) * 16777619)=((n * 16777619 % 4294967296:Nat):Int):=by rw[IntKind.wrap_u32];omega
 have e2:IntKind.u32.wrap (c:Int)=(c:Int):=by rw[IntKind.wrap_u32];omega
 have hm:n * 16777619 % 4294967296<4294967296:=Nat.mod_lt _ (by decide)
 rw[e1,e2]
 generalize n * 16777619 % 4294967296=m at hm ⊢
 have p32:(2:Nat) ^ 32=4294967296:=by decide
 rw[BitVec.toNat_xor,yKK (by omega),yKK (by omega)]
 have hx:m ^^^ c<2 ^ 32:=Nat.xor_lt_two_pow (by omega) (by omega)
 generalize m ^^^ c=y at hx ⊢
 rw[IntKind.wrap_u32]
 omega
theorem sum_c{s:SV}{d:List UInt8}(h:ByV w s d):Calls prog 127 #[slV s] w λe w'=>e=.returned (.int .i64 (zYT d:Nat))/\Pu w w':=by
 have hl:=h.len
 have hlim:=h.lim
 refine yKt _ w _ ?_
 refine zQD d.length (λj t w'=>t.2=(j:Int)/\t.1=((zYT (d.take j):Nat):Int)/\Pu w w') ⟨rfl,rfl,Pu.refl _⟩ ?_
 rintro j J ⟨t1,t2⟩ w2 hj ⟨h2,h1,hp⟩ hJ
 obtain rfl:t2=(j:Int):=h2
 obtain rfl:t1=((zYT (d.take j):Nat):Int):=h1
 dsimp only
 have hlt:=yX6 (d.take j)
 refine Br.of (λc=>?_) (λc=>?_)
 ·have hjk:j<d.length:=by have:=zQs c;omega
  obtain⟨b,hb⟩:=zXf hjk
  obtain⟨a,ha,hc⟩:=(h.pu hp).get j b hb
  have hB:=u8_lt b
  refine⟨a,ha,by omega,by omega,_,by rw[zZW];exact hc,?_⟩
  rw[step32,zQa (by omega) (by omega)]
  exact hJ _ _ hjk ⟨rfl,by rw[zQK hb,yW0],hp⟩
 ·have hjk:j=d.length:=by have:=zQj c;omega
  subst hjk
  rw[List.take_length]at hlt ⊢
  generalize zYT d=x at hlt ⊢
  refine⟨?_,hp⟩
  rw[zQa (by omega) (by omega)]
end Go.Proofs.YtaeecpjhfmcliaaGreatDoor
/- The log: records are made and taken off; writes are done; files are copied. No condition but those stated. -/
namespace Go.Proofs.YtaeecpjhfmcliaaGreatDoor
open Go.Sh Go.RowKit Tryz
variable {w w' : World}
theorem ByV.rest{s:SV}{d:List UInt8}(h:ByV w s d){lo:Nat}(hlo:lo<=d.length):ByV w ⟨if s.cap=lo then s.a else s.a.map (λx=>x.add (lo * 1)),s.len - lo,s.cap - lo⟩ (d.drop lo):=by
 have hl:=h.len
 have h1:=h.sub (lo:=lo) (hi:=d.length) hlo (Nat.le_refl _)
 rw[←hl,List.take_of_length_le (by rw[List.length_drop];omega)]at h1
 exact h1
theorem yQe {w0:World} {s m:SV} {l:List UInt8} {g:Nat} (h:zQc w0 w s l) (hg:s.a=some ⟨g,0,none⟩) {lo n c:Nat} {src:List UInt8} (hm:ByV w m src) (hne:src ≠ []) (hn:src.length=n) (hfit:lo+n<=l.length) :
  ∃w',(Builtin.copy_ #[22,22] 3 #[.slice (some ⟨g,lo,none⟩) n c,slV m]).run prog w=.ok (.int .i64 (n:Nat)) w'/\zQc w0 w' s (l.take lo ++ src ++ l.drop (lo+n))/\Fr (· ∈ zQb s) w w':=by
 have hl:=h.len
 have hml:=hm.len
 have hsz:(prog.info? 5).map (·.size)=some 1:=by
  have:=vi5
  simp only[Option.map_eq_some_iff]at *
  obtain⟨i,h1,h2⟩:=this
  exact⟨i,h1,by simp at h2;exact h2.2.1⟩
 obtain⟨hrow,hnew⟩:=h
 obtain⟨h1,hd|⟨g',cur,h3,h4,h5,h6,h7,h8⟩⟩:=hrow
 ·rw[hd]at hg;cases hg
 rw[hg]at h3
 obtain rfl:g=g':=by simpa using h3
 obtain⟨b0,pF⟩:=zXf (l:=src) (k:=0) (List.length_pos_iff.2 hne)
 obtain⟨a,ha,_⟩:=hm.get 0 b0 pF
 have hr:=run_copy_row prog (ty:=3) w 22 22 5 g lo n c a m.len m.cap cur 5 (src.map u8V) vu22 hsz h4 (by rw[List.length_map,hn,hml,hn];exact(Nat.min_self n).symm) (λj v hv=>by
  obtain⟨b,hb,rfl⟩:∃b,src[j]?=some b/\u8V b=v:=by simpa using hv
  obtain⟨a',e,hc⟩:=hm.get j b hb
  rw[ha]at e;cases e
  rw[Nat.mul_one]at hc
  exact hc) (by rw[List.length_map,hn,h7];omega) (λv hv=>by obtain⟨b,_,rfl⟩:=List.mem_map.1 hv;rfl)
 rw[List.length_map,hn]at hr
 rw[Nat.mul_one]at h8
 refine⟨_,by show(Builtin.copy_ #[22,22] 3 #[.slice (some ⟨g,lo,none⟩) n c,.slice m.a m.len m.cap]).run prog w=_;rw[ha];exact hr,⟨⟨?_,.inr ⟨g,_,hg,setRow_heap w g cur _ 5 (0,0) h4,h5,h6,?_,?_⟩⟩,hnew⟩,⟨rfl,rfl,rfl,by simp,λk _ hk=>setRow_other w g k _ (λe=>hk (by simp[zQb,hg,e]))⟩⟩
 ·simp;omega
 ·simp;omega
 ·have hll:l.length<=cur.size:=by rw[h7];omega
  rw[Nat.mul_one]
  simp only[List.map_append,List.map_take,List.map_drop,←h8]
  have e1:cur.toList=cur.toList.take s.len ++ cur.toList.drop s.len:=(List.take_append_drop _ _).symm
  apply List.ext_getElem?
  intro j
  have hcl:cur.toList.length=cur.size:=by simp
  simp only[List.getElem?_take,List.getElem?_append,List.length_append,List.length_take,List.length_map,List.getElem?_drop,hcl,hn]
  by_cases hj:j<s.len
  ·rw[if_pos hj]
   by_cases h0:j<lo
   ·rw[if_pos (by omega),if_pos (by omega),if_pos h0,if_pos (by omega),if_pos (by omega),if_pos h0,if_pos hj]
   ·by_cases h2:j<lo+n
    ·rw[if_pos (by omega),if_neg (by omega),if_pos (by omega),if_neg (by omega)]
     congr 1;omega
    ·rw[if_neg (by omega),if_neg (by omega),if_pos (by omega)]
     congr 1;omega
  ·rw[if_neg hj,if_neg (by omega),if_neg (by omega)]
theorem yJh(n:Nat)(hn:n<=1000000000)(w:World):∃w',(Instr.makeSlice 22 (.int .i64 (n:Int)) (.int .i64 (n:Int))).run prog w=.ok (slV ⟨some ⟨w.heap.size,0,none⟩,n,n⟩) w'/\zQc w w' ⟨some ⟨w.heap.size,0,none⟩,n,n⟩ (List.replicate n 0)/\Pu w w':=by
 obtain⟨i,h2,h3,h4,h5⟩:=info_parts vi5
 obtain⟨w1,hr,hrow,aA,xb⟩:=zYB (P:=prog) (w:=w) vu22 h2 h3 h4 .i64 .i64 n (by rw[h5];omega) (by omega)
 refine⟨w1,hr,⟨?_,λb hb=>by simp[zQb]at hb;omega⟩,aA⟩
 rw[show(Value.int IntKind.u8 0).cells=#[.int .u8 0]from rfl,toList_madeCells_one,Nat.mul_one]at hrow
 rw[List.map_replicate]
 exact hrow
theorem zQc.st1 {w0:World} {s:SV} {l:List UInt8} (h:zQc w0 w s l) {j:Nat} (hj:j<l.length) (b:UInt8) {K:World->Prop} (hK:∀w',zQc w0 w' s (l.set j b)->Fr (· ∈ zQb s) w w'->w'.heap.size=w.heap.size->K w') :
  ∃a,s.a=some a/\Sh.st1 (a.add (j * 1)) (u8V b) w K:=by
 obtain⟨a,ha,hst⟩:=h.1.st1 (j:=j) (by rw[List.length_map];exact hj) (u8V b) (K:=K) λw' h1 hf hs=>hK w' ⟨by rw[List.map_set];exact h1,h.2⟩ hf hs
 exact⟨a,ha,by rw[Nat.mul_one];exact hst⟩
theorem zQc.st1G {w0:World} {s:SV} {l:List UInt8} (h:zQc w0 w s l) {i:Int} {j:Nat} (hi:i=(j:Int)) (hj:j<l.length) (b:UInt8) {K:World->Prop} (hK:∀w',zQc w0 w' s (l.set j b)->Fr (· ∈ zQb s) w w'->w'.heap.size=w.heap.size->K w') :
  ∃a,s.a=some a/\0<=i/\i<((s.len:Nat):Int)/\Sh.st1 (a.add (i.toNat * 1)) (u8V b) w K:=by
 obtain⟨a,ha,hst⟩:=h.st1 hj b hK
 have hl:=h.len
 subst hi
 exact⟨a,ha,by omega,by omega,by rw[zZW];exact hst⟩
theorem yYo (kind:UInt8) {s:SV} {body:List UInt8} (h:ByV w s body) (hne:body ≠ []) (hb:body.length<=1000000):Calls prog 111 #[u8V kind,slV s] w λe w'=>∃q:SV,e=.returned (slV q)/\zQc w w' q (zJa kind body)/\Pu w w':=by
 have hl:=h.len
 have hpos:=List.length_pos_iff.2 hne
 obtain⟨w1,tZ,n1,aA⟩:=yJh (5+body.length) (by omega) w
 refine yKk _ _ w _ ⟨⟨some ⟨w.heap.size,0,none⟩,5+body.length,5+body.length⟩,w1,?_,?_⟩
 ·rw[hl,zQa (by omega) (by omega),show(5:Int)+((body.length:Nat):Int)=((5+body.length:Nat):Int)by omega];exact tZ
 refine n1.st1G (j:=0) rfl (by rw[List.length_replicate];omega) kind λw3 n3 ef hz3=>zQe λw4 aK _=>?_
 ·have hB:∀b ∈ zQb (⟨some ⟨w.heap.size,0,none⟩,5+body.length,5+body.length⟩:SV),w.heap.size<=b:=n1.2
  have aC:Pu w w3:=aA.andNew ef hB
  have ei:=aC.trans aK
  refine⟨by omega,by show 5<=5+body.length;omega,by omega,by decide,?_⟩
  rw[show((s.len:Nat):Int)=((body.length:Nat):Int)by omega]
  refine(yZC body.length 4 (by omega) (by omega) w4).mono ?_
  rintro e w5 ⟨q5,rfl,n5,ba⟩
  have m5:=(n3.pu aK).pu ba
  have l0:((List.replicate (5+body.length) (0:UInt8)).set 0 kind).length=5+body.length:=by simp
  obtain⟨w6,hr6,n6,jB⟩:=yQe (lo:=1) (n:=4) (c:=5+body.length - 1) m5 rfl (n5.by (by rw[zQu];omega)) (λe=>by have:=congrArg List.length e;rw[zQu]at this;simp at this) (zQu _ _) (by rw[l0];omega)
  have fp:Pu w w6:=(ei.trans ba).andNew jB hB
  refine⟨q5,rfl,((4:Nat):Int),w6,?_,Nat.le_refl _,by omega,by show 5<=5+body.length;omega,?_⟩
  ·rw[if_neg (by show ¬5+body.length=1;omega)];exact hr6
  obtain⟨w7,kM,n7,th⟩:=yQe (lo:=5) (n:=body.length) (c:=5+body.length - 5) n6 rfl (h.pu fp) hne rfl (by simp[zQu];omega)
  have kA:Pu w w7:=fp.andNew th hB
  refine⟨((body.length:Nat):Int),w7,?_,?_⟩
  ·rw[if_neg (by show ¬5+body.length=5;omega),show 5+body.length - (5:Int).toNat=body.length by show 5+body.length - 5=_;omega]
   rw[show 5+body.length - 5=body.length by omega]at kM
   exact kM
  have hrow:((List.replicate (5+body.length) (0:UInt8)).set 0 kind).take 1=[kind]:=by
   rw[show 5+body.length=(4+body.length)+1 by omega,List.replicate_succ,List.set_cons_zero];rfl
  have ti:((((List.replicate (5+body.length) (0:UInt8)).set 0 kind).take 1 ++ zZp body.length 4 ++ ((List.replicate (5+body.length) (0:UInt8)).set 0 kind).drop (1+4)).take 5 ++ body ++ (((List.replicate (5+body.length) (0:UInt8)).set 0 kind).take 1 ++ zZp body.length 4 ++ ((List.replicate (5+body.length) (0:UInt8)).set 0 kind).drop (1+4)).drop (5+body.length))=zJb kind body:=by
   have h5:([kind] ++ zZp body.length 4).length=5:=by simp[zQu]
   rw[hrow,List.take_append_of_le_length (by omega),List.take_of_length_le (by omega),List.drop_eq_nil_of_le (by simp[zQu];omega),List.append_nil]
   unfold zJb;simp
  rw[ti]at n7
  have hhl:=zKz kind body
  refine(sum_c (s:=⟨some ⟨w.heap.size,0,none⟩,5+body.length,5+body.length⟩) (n7.by (by omega))).mono ?_
  rintro e w8 ⟨rfl,bM⟩
  have hslt:=yX6 (zJb kind body)
  refine⟨_,rfl,(yZC (zYT (zJb kind body)) 4 (by omega) (by omega) w8).mono ?_⟩
  rintro e w9 ⟨q9,rfl,n9,dY⟩
  have m9:=(n7.pu bM).pu dY
  have iE:=(kA.trans bM).trans dY
  obtain⟨q,aM,xc,fh,jO⟩:=m9.app iE.size (m:=q9) (news:=zZp (zYT (zJb kind body)) 4) n9.len (λj b hj=>n9.cell hj) (by rw[zQu];omega)
  exact⟨q9,rfl,q,aM,xc,q,rfl,fh,iE.andNew jO hB⟩
end Go.Proofs.YtaeecpjhfmcliaaGreatDoor
/- The log: writes are done; files are copied. No condition but those stated. -/
namespace Go.Proofs.YtaeecpjhfmcliaaGreatDoor
open Go.Sh Go.RowKit Tryz
variable {w w' : World}
theorem files_row {s q0 q1:SV} {F:Fls} (h:zQi w 22 1 s [slV q0,slV q1]) (h0:ByV w q0 F.1) (h1:ByV w q1 F.2):zXK w s q0 q1 F:=by
 have hl:=h.1
 obtain⟨a,ha,c0,_⟩:=h.cell (j:=0) (v:=slV q0) rfl
 obtain⟨a',ha',c1,_⟩:=h.cell (j:=1) (v:=slV q1) rfl
 rw[ha]at ha';cases ha'
 simp at hl
 exact⟨by omega,by have:=h.le_cap.1;omega,⟨a,ha,c0,c1⟩,h0,h1⟩
def zXU(B:Nat->Prop)(w:World)(s q0 q1:SV)(F:Fls):Prop:=∀w2,Fr B w w2->zXK w2 s q0 q1 F
theorem zXU.at_{B:Nat->Prop}{s q0 q1:SV}{F:Fls}(h:zXU B w s q0 q1 F):zXK w s q0 q1 F:=h w (Fr.refl _ _)
theorem zXU.pu{B:Nat->Prop}{s q0 q1:SV}{F:Fls}(h:zXU B w s q0 q1 F)(hp:Pu w w'):zXU B w' s q0 q1 F:=λw2 h2=>h w2 ((Fr.pu hp:Fr B w w').trans h2 λb hb _=>hb)
theorem yZf(a b:Int)(w:World):(Builtin.min_ #[3,3] 3 #[.int .i64 a,.int .i64 b]).run prog w=.ok (.int .i64 (min a b)) w:=by
 have e:(if b<a then b else a)=min a b:=by split <;> omega
 rw[←e]
 simp[Builtin.min_,Builtin.min2]
theorem ByV.front{s:SV}{d:List UInt8}(h:ByV w s d){n:Nat}(hn:n<=d.length):ByV w ⟨if s.cap=0 then s.a else s.a.map (λx=>x.add (0 * 1)),n - 0,s.cap - 0⟩ (d.take n):=by
 have:=h.sub (lo:=0) (hi:=n) (Nat.zero_le _) hn
 rw[List.drop_zero,Nat.sub_zero]at this
 exact this
theorem done_c{B:Nat->Prop}{x:Wr}{q s q0 q1:SV}{F:Fls}(hB:∀b,B b->b<w.heap.size)(hs:zXU B w s q0 q1 F)(hq:ByV w q x.b)(hf:x.file=0∨x.file=1)(hat:0<=x.at_)(hF:F.1.length<=900000000/\F.2.length<=900000000)(hb:x.b.length<=1000000)(k:Int) :
  Calls prog 76 #[.agg #[.int .i64 x.file,.int .i64 x.at_,slV q],slV s,.int .i64 k] w λe w'=>∃o r0 r1:SV,e=.returned (slV o)/\zXU B w' o r0 r1 (zZY F x k)/\Pu w w':=by
 refine yKP _ _ _ _ _ w _ (alB λw1 aA aD=>(yV9 (hs.pu aA).at_).mono ?_)
 rintro e w2 ⟨o,rfl,ho,hon,ay⟩
 have aJ:=aA.trans ay
 have mt:w.heap.size<w1.heap.size:=zQ5 aD
 -- what a row of files that is new tells, whatever is written elsewhere
 have kept:∀{wz:World} {r0 r1:SV} {G:Fls},zQi wz 22 1 o [slV r0,slV r1]->Pu w wz->(∀w3,Fr B wz w3->ByV w3 r0 G.1/\ByV w3 r1 G.2)->zXU B wz o r0 r1 G:=λ{wz r0 r1 G} hr hpz hG w3 h3=>
  files_row (hr.fr h3 λb hb e=>by have:=hon b hb;have:=hB b e;omega) (hG w3 h3).1 (hG w3 h3).2
 have old:∀{wz:World},Pu w wz->∀w3,Fr B wz w3->ByV w3 q0 F.1/\ByV w3 q1 F.2:=λhpz w3 h3=>by
  have:=hs.pu hpz w3 h3
  exact⟨this.b0,this.b1⟩
 refine⟨o,rfl,Br.of (λc=>?_) (λc=>?_)⟩
 ·rw[zV3 F x (zQs c)]
  exact⟨o,q0,q1,rfl,kept ho aJ (old aJ),aJ⟩
 have c:=zQj c
 refine zQe λw4 aK _=>?_
 have ei:=aJ.trans aK
 have lF:=aK.blk (ay.blk aD)
 have qq:=ho.pu aK
 have nb:∀{wz w3:World} {b:SV} {l:List UInt8},zQc w wz b l->Fr B wz w3->l.length<=2000000000->ByV w3 b l:=λhn h3 hl=>(hn.fr h3 λk hk e=>by have:=hn.2 k hk;have:=hB k e;omega).by (by omega)
 obtain⟨i,hi,xd,qi,di,hrow,hbi,hdi,hdl,hput⟩:∃i:Nat,x.file=(i:Int)/\i<2/\∃(qi:SV) (di:List UInt8),[slV q0,slV q1][i]?=some (slV qi)/\(∀{wz:World},Pu w wz->ByV wz qi di)/\F.get x.file=di/\di.length<=900000000/\
   ∀{wz:World} {b:SV} {l:List UInt8},zQi wz 22 1 o ([slV q0,slV q1].set i (slV b))->Pu w wz->zQc w wz b l->l.length<=2000000000->∃r0 r1,zXU B wz o r0 r1 (F.put x.file l):=by
  rcases hf with hf|hf
  ·refine⟨0,hf,by omega,q0,F.1,rfl,λhpz=>(hs.pu hpz).at_.b0,by rw[hf];rfl,hF.1,λ{wz b l} hr hpz hn hl=>⟨b,q1,?_⟩⟩
   rw[hf]
   exact kept hr hpz λw3 h3=>⟨nb hn h3 hl,(old hpz w3 h3).2⟩
  ·refine⟨1,hf,by omega,q1,F.2,rfl,λhpz=>(hs.pu hpz).at_.b1,by rw[hf];rfl,hF.2,λ{wz b l} hr hpz hn hl=>⟨q0,b,?_⟩⟩
   rw[hf]
   exact kept hr hpz λw3 h3=>⟨(old hpz w3 h3).1,nb hn h3 hl⟩
 have hol:o.len=2:=by have:=qq.1;simp at this;omega
 obtain⟨a5,yI,c5,_⟩:=qq.cell hrow
 obtain⟨n,hn⟩:∃n:Nat,(n:Int)=min x.at_ di.length:=⟨(min x.at_ di.length).toNat,by omega⟩
 have pM:=hbi ei
 have hql:=pM.len
 have hqc:=pM.cap
 have qA:n<=di.length:=by omega
 refine⟨λu=>Pu w4 u,Pu.refl _,x.file,λu hu=>cl0 (hu.blk lF),a5,yI,by omega,by omega,qi,λu hu=>hu.cell (by rw[hi,zZW,Nat.mul_one];exact c5),x.at_,λu hu=>cl (hu.blk lF) 1,x.file,λu hu=>cl0 (hu.blk lF),a5,yI,by omega,by omega,qi,
  λu hu=>hu.cell (by rw[hi,zZW,Nat.mul_one];exact c5),(n:Int),w4,by rw[hql,hn];exact yZf _ _ _,Pu.refl _,by omega,by omega,by omega,?_⟩
 rw[zZW]
 refine(yYi (pM.front qA) (by rw[List.length_take];omega)).mono ?_
 rintro e w8 ⟨q8,rfl,n8,bM⟩
 have fS:=ei.trans bM
 have lK:=bM.blk lF
 have sZ:=qq.pu bM
 have tj:=n8.low ei.size
 have kn:∀{wz:World} {b:SV} {l:List UInt8},Pu w wz->zQi wz 22 1 o [slV q0,slV q1]->zQc w wz b l->l=(F.get x.file).take (min x.at_ (F.get x.file).length).toNat ++ x.b.take k.toNat->wz.heap[w.heap.size]?=some (.cells #[.int .i64 x.file,.int .i64 x.at_,slV q] 90)->
   ∃fV:Int,wz.cell? (⟨w.heap.size,0,none⟩:Addr)=some (.int .i64 fV)/\∃cT:Addr,o.a=some cT/\0<=fV/\fV<((o.len:Nat):Int)/\Sh.st1 (cT.add (fV.toNat * 1)) (slV b) wz λaR=>∃o' r0 r1:SV,(Ending.returned (slV o)=.returned (slV o'))/\zXU B aR o' r0 r1 (zZY F x k)/\Pu w aR:=λ{wz b l} hpz hrz hnz hl hbz=>by
  obtain⟨a,ha,hst⟩:=hrz.st1 (j:=i) (by simpa using xd) (slV b) (K:=λaR=>∃o' r0 r1:SV,(Ending.returned (slV o)=.returned (slV o'))/\zXU B aR o' r0 r1 (zZY F x k)/\Pu w aR) λaR kN gm hs12=>by
   have dW:Pu w aR:=hpz.andNew gm λb hb=>by have:=hon b hb;omega
   have hll:l.length<=2000000000:=by
    have h1:=List.length_take_le (min x.at_ (F.get x.file).length).toNat (F.get x.file)
    have h2:(x.b.take k.toNat).length<=x.b.length:=by rw[List.length_take];exact Nat.min_le_right _ _
    have h3:((F.get x.file).take (min x.at_ (F.get x.file).length).toNat).length<=(F.get x.file).length:=by rw[List.length_take];exact Nat.min_le_right _ _
    rw[hl,List.length_append]
    rw[hdi]at h3 ⊢
    omega
   obtain⟨r0,r1,hK⟩:=hput kN dW (hnz.fr gm (zQp hnz.1 hrz (by decide))) hll
   refine⟨o,r0,r1,rfl,?_,dW⟩
   rw[yXa F x (by omega),←hl]
   exact hK
  exact⟨x.file,cl0 hbz,a,ha,by omega,by omega,by rw[hi,zZW,Nat.mul_one];exact hst⟩
 have htk:di.take n=(F.get x.file).take (min x.at_ (F.get x.file).length).toNat:=by rw[hdi];congr 1;omega
 refine⟨q8,rfl,q,cl lK 2,Br.of (λc1=>?_) (λc1=>?_)⟩
 ·have c1:=zQs c1
  have hqw:=hq.pu fS
  have hqwl:=hqw.len
  have hqwc:=hqw.cap
  obtain⟨m,hm⟩:∃m:Nat,(m:Int)=min k x.b.length:=⟨(min k x.b.length).toNat,by omega⟩
  have tQ:m<=x.b.length:=by omega
  have hmf:=hqw.front tQ
  obtain⟨q9,w9,hr9,n9,lJ⟩:=tj.app (by have:=fS.size;omega) (m:=⟨if q.cap=0 then q.a else q.a.map (λx=>x.add (0 * 1)),m - 0,q.cap - 0⟩) (news:=x.b.take m) hmf.len (λj b hj=>by
   obtain⟨a,ha,hc⟩:=hmf.get j b hj
   exact⟨a,ha,by rw[Nat.mul_one]at hc;exact hc⟩) (by rw[List.length_take,List.length_take];omega)
  have iE:Pu w w9:=fS.andNew lJ tj.2
  refine⟨q,cl lK 2,q,cl lK 2,(m:Int),w8,by rw[hqwl,hm];exact yZf _ _ _,by omega,by omega,by omega,?_⟩
  rw[zZW]
  refine⟨q9,w9,hr9,kn iE (sZ.fr lJ (zQp sZ tj.1 (by decide))) n9 ?_ (lJ.blk lK λhk=>tj.1.other lK (by decide) hk)⟩
  rw[←htk]
  congr 1
  by_cases hk:k<=x.b.length
  ·congr 1;omega
  ·rw[List.take_of_length_le (by omega),List.take_of_length_le (by omega)]
 ·have c1:=zQj c1
  have mA:x.b=[]:=List.eq_nil_of_length_eq_zero (by have:=hq.len;omega)
  refine kn fS sZ tj ?_ lK
  rw[mA,List.take_nil,List.append_nil,←htk]
theorem with_c{B:Nat->Prop}{x:Wr}{q s q0 q1:SV}{F:Fls}(hB:∀b,B b->b<w.heap.size)(hs:zXU B w s q0 q1 F)(hq:ByV w q x.b)(hf:x.file=0∨x.file=1)(hat:0<=x.at_)(hF:F.1.length<=900000000/\F.2.length<=900000000)(hb:x.b.length<=1000000) :
  Calls prog 49 #[slV s,.agg #[.int .i64 x.file,.int .i64 x.at_,slV q]] w λe w'=>∃o r0 r1:SV,e=.returned (slV o)/\zXU B w' o r0 r1 (zXR F x)/\Pu w w':=by
 refine yWA _ _ _ _ w _ (alB λw1 aA aD=>zQe λw2 ay _=>?_)
 have aJ:=aA.trans ay
 have cz:=ay.blk aD
 refine⟨λu=>Pu w2 u,Pu.refl _,x.file,λu hu=>cl (hu.blk cz) 0,x.at_,λu hu=>cl (hu.blk cz) 1,q,λu hu=>cl (hu.blk cz) 2,x.file,λu hu=>cl (hu.blk cz) 0,x.at_,λu hu=>cl (hu.blk cz) 1,q,λu hu=>cl (hu.blk cz) 2,?_⟩
 refine yW2 _ _ _ w2 _ (alB λw3 aC be=>⟨q,cl be 2,?_⟩)
 have hql:=hq.len
 rw[show((q.len:Nat):Int)=((x.b.length:Nat):Int)by omega,zQa (by omega) (by omega)]
 refine⟨_,rfl,aC,?_⟩
 have cd:=aJ.trans aC
 refine(done_c (B:=B) (x:=x) (λb hbb=>Nat.lt_of_lt_of_le (hB b hbb) cd.size) (hs.pu cd) (hq.pu cd) hf hat hF hb _).mono ?_
 rintro e w4 ⟨o,r0,r1,rfl,h1,h2⟩
 exact⟨o,rfl,o,r0,r1,rfl,h1,cd.trans h2⟩
structure yWV(w0 w:World)(s q0 q1:SV)(F:Fls):Prop where
 row:zQi w 22 1 s [slV q0,slV q1]
 rn:∀b ∈ zQb s,w0.heap.size<=b
 n0:zQc w0 w q0 F.1
 n1:zQc w0 w q1 F.2
theorem yWV.pu{w0:World}{s q0 q1:SV}{F:Fls}(h:yWV w0 w s q0 q1 F)(hp:Pu w w'):yWV w0 w' s q0 q1 F:=⟨h.row.pu hp,h.rn,h.n0.pu hp,h.n1.pu hp⟩
theorem yWV.keep{w0:World}{s q0 q1:SV}{F:Fls}(h:yWV w0 w s q0 q1 F)(hF:F.1.length<=2000000000/\F.2.length<=2000000000){B:Nat->Prop}(hB:∀b,B b->b<w0.heap.size):zXU B w s q0 q1 F:=λw3 h3=>
 files_row (h.row.fr h3 λb hb e=>by have:=h.rn b hb;have:=hB b e;omega) ((h.n0.fr h3 λb hb e=>by have:=h.n0.2 b hb;have:=hB b e;omega).by (by omega)) ((h.n1.fr h3 λb hb e=>by have:=h.n1.2 b hb;have:=hB b e;omega).by (by omega))
end Go.Proofs.YtaeecpjhfmcliaaGreatDoor
/- The log: files told; a whole table as a record; a row read by itself; some records told. No condition but those stated. -/
namespace Go.Proofs.YtaeecpjhfmcliaaGreatDoor
open Go.Sh Go.RowKit Tryz
variable {w w' : World}
end Go.Proofs.YtaeecpjhfmcliaaGreatDoor
/- The log: what tells some records of a table. No condition but those stated. -/
namespace Go.Proofs.YtaeecpjhfmcliaaGreatDoor
open Go.Sh Go.RowKit Tryz
variable {w w' : World}
def yZV(t:Tbl)(k:Int):List UInt8:=if (t.recs.length:Int)<k then []else zZp k.toNat 2 ++ yVK t k
theorem zVT(t:Tbl)(l:List Int):zQU t l=zZp t.recs.length 2 ++ l.flatMap (yZV t):=rfl
theorem yWB{t:Tbl}(hv:zQh t=0)(k:Int):(yZV t k).length<=2002:=by
 have ho:=zJE.of hv
 unfold yZV
 split
 ·simp
 ·rw[List.length_append,zQu]
  unfold yVK
  split
  ·rename_i r hr
   have h1:=zJ0 ho.all (ho.recs r (List.mem_of_getElem? hr))
   have h2:=ho.w2
   omega
  ·simp
theorem yWh {α:Type} {g:α->List UInt8} {n:Nat} (hg:∀x,(g x).length<=n):∀l:List α,(l.flatMap g).length<=l.length * n
 | []=>by simp
 | x :: l=>by
  have:=yWh hg l
  have:=hg x
  rw[List.flatMap_cons,List.length_append,List.length_cons,Nat.succ_mul];omega
theorem yVX{t:Tbl}{f r:SV}(h:zXB w t f r)(hv:zQh t=0){w0:World}{s:SV}{l:List Int}(hl:zWm w0 w s l)(hk:∀k ∈ l,1<=k/\k<=1000000)(hn:l.length<=1000) :
  Calls prog 112 #[zYq t f r,slV s] w λe w'=>∃q:SV,e=.returned (slV q)/\zQc w w' q (zQU t l)/\Pu w w':=by
 have ho:=zJE.of hv
 have hsl:=hl.len
 have hrl:=h.recs.len
 have gn:=ho.m300
 refine yKg _ _ _ _ w _ (alB λw1 aA aD=>⟨r,cl aD 2,?_⟩)
 rw[show((r.len:Nat):Int)=((t.recs.length:Nat):Int)by omega]
 refine(yZC t.recs.length 2 (by omega) (by omega) w1).mono ?_
 rintro e w2 ⟨q2,rfl,o5,ay⟩
 refine⟨q2,rfl,?_⟩
 rw[show((s.len:Nat):Int)=((l.length:Nat):Int)by omega]
 refine zQD l.length (λk u w'=>u.2=(k:Int)/\zQc w1 w' u.1 (zZp t.recs.length 2 ++ (l.take k).flatMap (yZV t))/\Pu w1 w') ⟨rfl,by simpa using o5,ay⟩ ?_
 rintro k J ⟨u1,u2⟩ wa hka ⟨sT,hr,hp⟩ hJ
 obtain rfl:u2=(k:Int):=sT
 have hr:zQc w1 wa u1 (zZp t.recs.length 2 ++ (l.take k).flatMap (yZV t)):=hr
 dsimp only
 have hpa:=aA.trans hp
 have b1a:=hp.blk aD
 refine Br.of (λc=>?_) (λc=>?_)
 ·have aI:k<l.length:=by have:=zQs c;omega
  obtain⟨x,hx⟩:=zXf aI
  obtain⟨x1,x2⟩:=hk x (List.mem_of_getElem? hx)
  obtain⟨a,ha,hc,_⟩:=(hl.pu hpa).1.cell (j:=k) (v:=yVF x) (by rw[List.getElem?_map,hx];rfl)
  refine⟨a,ha,by omega,by omega,x,by rw[zZW,Nat.mul_one];exact hc,r,cl b1a 2,?_⟩
  have htk:(l.take (k+1)).flatMap (yZV t)=(l.take k).flatMap (yZV t) ++ yZV t x:=by rw[zQK hx,List.flatMap_append];simp
  have hfl:((l.take k).flatMap (yZV t)).length<=2002000:=by
   have h1:=yWh (yWB hv) (l.take k)
   have h2:(l.take k).length<=1000:=by rw[List.length_take];omega
   have h3:=Nat.mul_le_mul_right 2002 h2
   omega
  have hcx:=yWB hv x
  refine Br.of (λc2=>?_) (λc2=>?_)
  ·have c2:=zQs c2
   have e:yZV t x=[]:=by unfold yZV;rw[if_pos (by omega)]
   rw[zQa (by omega) (by omega)]
   exact hJ _ _ aI ⟨rfl,by dsimp only;rw[htk,e,List.append_nil];exact hr,hp⟩
  ·have c2:=zQj c2
   refine⟨_,cl b1a 0,f,cl b1a 1,r,cl b1a 2,(rowE_c (sh:=zQm) (h.pu hpa) (zKs hv) x ⟨by omega,by omega⟩ (λ_ y hy=>⟨zXh.writes ho.all (ho.recs y hy),zXh.ne ho.all (ho.recs y hy) ho.ne⟩)).mono ?_⟩
   rintro e w5 ⟨q5,rfl,h5,ba⟩
   have hro:zVU zQm t x=yVK t x:=by
    unfold zVU yVK
    rw[if_pos (by unfold zZy;rw[if_neg (by rw[hv];simp),if_neg (by omega)])]
    all_goals (cases t.recs[(x - 1).toNat]? <;> rfl)
   rw[hro]at h5
   refine⟨q5,_,rfl,?_⟩
   rw[show x=((x.toNat:Nat):Int)by omega]
   refine(yZC x.toNat 2 (by omega) (by omega) w5).mono ?_
   rintro e w6 ⟨q6,rfl,h6,cW⟩
   have bU:=(hp.trans ba).trans cW
   obtain⟨q7,w7,kM,n7,th⟩:=((hr.pu ba).pu cW).app bU.size (m:=q6) (news:=zZp x.toNat 2) h6.len (λj b hj=>h6.cell hj) (by rw[List.length_append,zQu,zQu];omega)
   have ec:yZV t x=zZp x.toNat 2 ++ yVK t x:=by unfold yZV;rw[if_neg (by omega)]
   have hrb:(yVK t x).length<=2002:=by rw[ec,List.length_append]at hcx;omega
   have yJ:zQc wa w7 q5 (yVK t x):=(h5.pu cW).fr th λb hb e=>by
    have h1:=h5.2 b hb
    have h2:=hr.1.lt b e
    omega
   obtain⟨q8,w8,hr8,n8,tk⟩:=n7.app (by have:=bU.size;have:=th.size;omega) (m:=q5) (news:=yVK t x) yJ.len (λj b hj=>yJ.cell hj) (by simp only[List.length_append,zQu];omega)
   have jR:Pu w1 w7:=bU.andNew th hr.2
   refine⟨q6,rfl,q7,w7,kM,q8,w8,hr8,?_⟩
   rw[zQa (by omega) (by omega)]
   refine hJ _ _ aI ⟨rfl,?_,jR.andNew tk n7.2⟩
   dsimp only
   rw[htk,ec,←List.append_assoc,←List.append_assoc,List.append_assoc (zZp t.recs.length 2)]at *
   exact n8
 ·have aI:k=l.length:=by have:=zQj c;omega
  subst aI
  rw[List.take_length]at hr
  exact⟨u1,rfl,by rw[zVT];exact hr.low aA.size,hpa⟩
end Go.Proofs.YtaeecpjhfmcliaaGreatDoor
/- The log: what is told of records changes a table: one of them. No condition but those stated. -/
namespace Go.Proofs.YtaeecpjhfmcliaaGreatDoor
open Go.Sh Go.RowKit Tryz
variable {w w' : World}
def badT(R:Rt)(p2 p4:Option Addr)(ds:Ds)(aZ:World):Prop:=
 zQf p2 λfG=>
 ∃o6:Int,aZ.cell? (fG.add 0)=some (.int .i64 o6)/\
 ∃bH:SV,aZ.cell? (fG.add 1)=some (.slice bH.a bH.len bH.cap)/\
 ∃io:SV,aZ.cell? (fG.add 2)=some (.slice io.a io.len io.cap)/\
 zQf p4 λgq=>
 stA prog 35 gq #[.int .i64 o6,.slice bH.a bH.len bH.cap,.slice io.a io.len io.cap] aZ λbK=>
 zQd prog ds bK λbA=>
 zQf p4 λiG=>
 ∃ag:Int,bA.cell? (iG.add 0)=some (.int .i64 ag)/\
 ∃ab:SV,bA.cell? (iG.add 1)=some (.slice ab.a ab.len ab.cap)/\
 ∃ae:SV,bA.cell? (iG.add 2)=some (.slice ae.a ae.len ae.cap)/\
 R (.returned (.tuple #[.agg #[.int .i64 ag,.slice ab.a ab.len ab.cap,.slice ae.a ae.len ae.cap],.bool false])) bA
def ChgR(w:World)(t:Tbl)(body:List UInt8):Rt:=λe w'=>Pu w w'/\∃(p:Int) (q1 q2:SV) (b:Bool),e=.returned (.tuple #[.agg #[.int .i64 p,slV q1,slV q2],.bool b])/\
 ((b=false/\zZa t body=none)∨b=true/\∃u,zZa t body=some u/\p=u.page/\zKH w w' u q1 q2)
theorem zJD.other {w0:World} {s:SV} {rs:List Rec} {b:Nat} {c:Array Value} {e:TypeId} (h:zJD w0 w s rs) (hf:Fr (·=b) w w') (hb:w.heap[b]?=some (.cells c e)) (h1:e ≠ 67) (h2:e ≠ 73):zJD w0 w' s rs:=by
 obtain⟨qs,k1,k2,k3,k4⟩:=h
 exact⟨qs,k1.fr hf λk hk ek=>k1.other hb (Ne.symm h1) (by rw[←show k=b from ek];exact hk),k2,k3,λi r x hr hx=>⟨(k4 i r x hr hx).1,(k4 i r x hr hx).2.fr hf λk hk ek=>(k4 i r x hr hx).2.1.other hb (Ne.symm h2) (by rw[←show k=b from ek];exact hk)⟩⟩
theorem zJD.set {w0:World} {s q:SV} {rs:List Rec} (h:zJD w0 w s rs) {k:Nat} (hk:k<rs.length) {x:Rec} (hq:zJO w0 w q x.v) {K:World->Prop} (hK:∀w',zJD w0 w' s (rs.set k x)->Fr (· ∈ zQb s) w w'->K w') :
  ∃a,s.a=some a/\stA prog 67 (a.add (k * 2)) #[.bool x.gone,slV q] w K:=by
 obtain⟨qs,k1,k2,k3,k4⟩:=h
 refine k1.stElem zQR (by decide) (i:=k) (by omega) (x.gone,q) vk67.symm rfl λw1 h1 hf hs=>hK w1 ⟨qs.set k (x.gone,q),h1,k2,by rw[List.length_set,List.length_set,k3],λi r y hr hy=>?_⟩ hf
 rw[List.getElem?_set]at hr hy
 by_cases e:k=i
 ·subst e
  rw[if_pos rfl,if_pos (by omega)]at hy hr
  cases hr;cases hy
  exact⟨rfl,hq.fr hf (zQp hq.1 k1 (by decide))⟩
 ·rw[if_neg e]at hr hy
  obtain⟨e1,e2⟩:=k4 i r y hr hy
  exact⟨e1,e2.fr hf (zQp e2.1 k1 (by decide))⟩
theorem zV4{t:Tbl}(hv:zQh t=0):zYI t:=by
 have ho:=zJE.of hv
 have hp:=ho.page
 unfold zQY at hp
 simp only[Bool.and_eq_true,decide_eq_true_eq]at hp
 have fv:=ho.n16
 refine⟨⟨by omega,by omega⟩,λg hg=>?_,zVh hv,by omega,ho.m300,λg hg=>(zQT (List.all_eq_true.1 ho.all g hg)).2.1⟩
 have hg:=List.all_eq_true.1 ho.all g hg
 have h1:=yWe hg
 have h2:=zXm hg
 exact⟨⟨by omega,by omega⟩,⟨by omega,by omega⟩⟩
structure ChS(w0:World)(r2 r4:Nat)(t:Tbl)(qf:SV)(recs:List Rec)(w:World):Prop where
 ex:∃s,w.heap[r2]?=some (.cells #[.int .i64 t.page,slV qf,slV s] 35)/\zJD w0 w s recs
 b4:w.heap[r4]?=some (.cells #[.int .i64 0,.slice none 0 0,.slice none 0 0] 35)
 qf:zKC w0 w qf t.fields
 pu:Pu w0 w
 z2:w0.heap.size<=r2
 z4:w0.heap.size<=r4
 ne:r2 ≠ r4
theorem ChS.on{w0:World}{r2 r4:Nat}{t:Tbl}{qf:SV}{recs:List Rec}(h:ChS w0 r2 r4 t qf recs w)(hp:Pu w w'):ChS w0 r2 r4 t qf recs w':=by
 obtain⟨s,h1,h2⟩:=h.ex
 exact⟨⟨s,hp.blk h1,h2.pu hp⟩,hp.blk h.b4,h.qf.pu hp,h.pu.trans hp,h.z2,h.z4,h.ne⟩
theorem ChS.bad{w0:World}{r2 r4:Nat}{t:Tbl}{qf:SV}{recs:List Rec}{body:List UInt8}(h:ChS w0 r2 r4 t qf recs w)(hno:zZa t body=none):badT (ChgR w0 t body) (some ⟨r2,0,none⟩) (some ⟨r4,0,none⟩) [] w:=by
 obtain⟨s,h1,h2⟩:=h.ex
 refine⟨_,cl h1 0,qf,cl h1 1,s,cl h1 2,zQl h.b4 zVm.symm rfl rfl λw2 aL dL _=>⟨_,cl aL 0,qf,cl aL 1,s,cl aL 2,h.pu.andNew dL λi hi=>by rw[show i=_ from hi];exact h.z4,_,qf,s,false,rfl,.inl ⟨rfl,hno⟩⟩⟩
end Go.Proofs.YtaeecpjhfmcliaaGreatDoor
/- The log: what is told of records changes a table. No condition but those stated. -/
namespace Go.Proofs.YtaeecpjhfmcliaaGreatDoor
open Go.Sh Go.RowKit Tryz
variable {w w' : World}
end Go.Proofs.YtaeecpjhfmcliaaGreatDoor
/- The log: what files tell, as the program finds it; what a recovery writes. No condition but those stated. -/
namespace Go.Proofs.YtaeecpjhfmcliaaGreatDoor
open Go.Sh Go.RowKit Tryz
variable {w w' : World}
structure TabS(w0:World)(r2 r6:Nat)(cur:Option Tbl)(is:Bool)(w:World):Prop where
 ex:∃(p:Int) (f r:SV),w.heap[r6]?=some (.cells #[.int .i64 p,slV f,slV r] 35)/\((is=false/\cur=none)∨is=true/\∃t,cur=some t/\zQh t=0/\p=t.page/\zKH w0 w t f r)
 b2:w.heap[r2]?=some (.cells #[.int .i64 0,.slice none 0 0,.slice none 0 0] 35)
 pu:Pu w0 w
 z2:w0.heap.size<=r2
 z6:w0.heap.size<=r6
 ne:r2 ≠ r6
theorem zKH.other {w0:World} {t:Tbl} {f r:SV} {b:Nat} {c:Array Value} (h:zKH w0 w t f r) (hf:Fr (·=b) w w') (hb:w.heap[b]?=some (.cells c 35)):zKH w0 w' t f r:=
 ⟨h.fs.fr hf λk hk e=>h.fs.1.other hb (by decide) (by rw[←show k=b from e];exact hk),h.rs.other hf hb (by decide) (by decide)⟩
theorem TabS.on{w0:World}{r2 r6:Nat}{cur:Option Tbl}{is:Bool}(h:TabS w0 r2 r6 cur is w)(hp:Pu w w'):TabS w0 r2 r6 cur is w':=by
 obtain⟨p,f,r,h1,h2⟩:=h.ex
 exact⟨⟨p,f,r,hp.blk h1,h2.imp id λ⟨a,t,b,c,d,e⟩=>⟨a,t,b,c,d,e.pu hp⟩⟩,hp.blk h.b2,h.pu.trans hp,h.z2,h.z6,h.ne⟩
theorem TabS.put {w0:World} {r2 r6:Nat} {cur cur':Option Tbl} {is is':Bool} (h:TabS w0 r2 r6 cur is w) {p:Int} {f r:SV} (hx:(is'=false/\cur'=none)∨is'=true/\∃t,cur'=some t/\zQh t=0/\p=t.page/\zKH w0 w t f r) {K:World->Prop}
  (hK:∀w',TabS w0 r2 r6 cur' is' w'->K w'):stA prog 35 (⟨r6,0,none⟩:Addr) #[.int .i64 p,slV f,slV r] w K:=by
 obtain⟨p0,f0,r0,h1,_⟩:=h.ex
 refine zQl h1 zVm.symm rfl rfl λw2 aL dL _=>hK w2 ⟨⟨p,f,r,aL,hx.imp id λ⟨a,t,b,c,d,e⟩=>⟨a,t,b,c,d,e.other dL h1⟩⟩,dL.blk h.b2 h.ne,h.pu.andNew dL λi hi=>by rw[show i=_ from hi];exact h.z6,h.z2,h.z6,h.ne⟩
end Go.Proofs.YtaeecpjhfmcliaaGreatDoor
/- The log: a store is entered and left; its parts are written, one by one. No condition but those stated. -/
namespace Go.Proofs.YtaeecpjhfmcliaaGreatDoor
open Go.Sh Go.RowKit Tryz
variable {w w' : World} {X : Nat -> Prop} {L L' : SL} {d d' : Dat} {mu : Int}
theorem disable(w:World):(callFunc 169 #[]).run prog w=.ok (.value (.tuple #[])) w:=run_call_mark0 Tryz.func169 (by kernel_rfl) (by kernel_rfl) (by kernel_rfl) .disable (by kernel_rfl) w
theorem enable(w:World):(callFunc 171 #[]).run prog w=.ok (.value (.tuple #[])) w:=run_call_mark0 Tryz.func171 (by kernel_rfl) (by kernel_rfl) (by kernel_rfl) .enable (by kernel_rfl) w
theorem acquire(a:Addr)(w:World):(callFunc 172 #[.pointer (some a)]).run prog w=.ok (.value (.tuple #[])) w:=run_call_marked Tryz.func172 (by kernel_rfl) (by kernel_rfl) (by kernel_rfl) .acquire (by kernel_rfl) a w
theorem yYm(a:Addr)(w:World):(callFunc 174 #[.pointer (some a)]).run prog w=.ok (.value (.tuple #[])) w:=run_call_marked Tryz.func174 (by kernel_rfl) (by kernel_rfl) (by kernel_rfl) .releaseMerge (by kernel_rfl) a w
theorem mu1:prog.underlying 197=some (.pointer 103):=by kernel_rfl
theorem mu2:prog.underlying 201=some .unsafePointer:=by kernel_rfl
theorem mu3:(prog.info? 103).map (λi=>decide (i.size=0))=some false:=by kernel_rfl
theorem muLock {a:Addr} {w:World} (hc:w.cell? a=some (.int .i32 0)) (hz:w.frozen? a=false) :
  Calls prog 95 #[.pointer (some a)] w λe w'=>e=.returned (.tuple #[])/\w'=w.setCell a (.int .i32 1):=by
 refine yVp _ w _ ?_
 refine Calls.mono (R:=λe w'=>e=.returned (.tuple #[])/\w'=w.setCell a (.int .i32 1)) ?_ λe w' h=>⟨h.1,rfl,h.2⟩
 refine yJD _ w _ ?_
 refine⟨w,disable w,true,w.setCell a (.int .i32 1),run_call_cas_hit Tryz.func170 (by kernel_rfl) (by kernel_rfl) (by kernel_rfl) .i32 (by kernel_rfl) hc hz,?_⟩
 have hc':(w.setCell a (.int .i32 1)).cell? a=some (.int .i32 1):=World.cell?_setCell_same _ _ _ hc
 exact⟨_,enable _,_,_,run_convert_to_unsafe mu1 mu2 mu3 hc',_,acquire a _,rfl,rfl⟩
theorem yYR {a:Addr} {w:World} (hc:w.cell? a=some (.int .i32 1)) (hz:w.frozen? a=false) (u:FrameMode) :
  CallsD prog 96 #[.pointer (some a)] u w λe u' w'=>u'=u/\e=.returned (.tuple #[])/\w'=w.setCell a (.int .i32 0):=by
 refine yKl _ w (λe w'=>e=.returned (.tuple #[])/\w'=w.setCell a (.int .i32 0)) u ?_
 refine Calls.mono (R:=λe w'=>e=.returned (.tuple #[])/\w'=w.setCell a (.int .i32 0)) ?_ λe w' h=>⟨h.1,rfl,h.2⟩
 refine yJW _ w _ ?_
 refine⟨1,hc,_,_,run_convert_to_unsafe mu1 mu2 mu3 hc,_,yYm a _,_,disable _,0,w.setCell a (.int .i32 0),
  run_call_add Tryz.func175 (by kernel_rfl) (by kernel_rfl) (by kernel_rfl) .i32 (by kernel_rfl) hc hz (by simp[go_sem];rfl),w.setCell a (.int .i32 0),enable _,rfl,rfl⟩
theorem zQH.reS (h:zQH X w L d mu) (hf:Fr (·=L.S) w w') {mu':Int} (hst:w'.heap[L.S]?=some (.cells (zZR mu' L) 108)):zQH X w' L d mu' where
 st:=hst
 lv:=h.lv.fr hf λb hb e=>h.lv.other h.st (by decide) (by rw[←show b=L.S from e];exact hb)
 dn:=h.dn.fr hf λb hb e=>h.dn.other h.st (by decide) (by rw[←show b=L.S from e];exact hb)
 wr:=h.wr.fr hf λb hb e=>h.wr.other h.st (by decide) (by rw[←show b=L.S from e];exact hb)
 pt:=h.pt.fr hf λb hb e=>h.pt.other h.st (by decide) (by rw[←show b=L.S from e];exact hb)
 now:=h.now.fr hf λb hb e=>h.now.other h.st (by decide) (by decide) (by rw[←show b=L.S from e];exact hb)
 ll:=h.ll
 dl:=h.dl
 wl:=h.wl
 lvs:=λi x t hx ht=>(h.lvs i x t hx ht).fr hf λb hb e=>(h.lvs i x t hx ht).other h.st (by decide) (by decide) (by rw[←show b=L.S from e];exact hb)
 ld:=h.ld
 dj:=h.dj
 djl:=h.djl
 xl:=λb hb=>Nat.lt_of_lt_of_le (h.xl b hb) hf.size
 kp:=λw2 h2=>h.kp w2 ((hf.mono λb hb _=>.inl (.inl hb)).trans h2 λb hb _=>hb)
theorem zQH.setMu(h:zQH X w L d mu)(m:Int):zQH X (w.setCell ⟨L.S,0,none⟩ (.int .i32 m)) L d m:=h.reS (Fr.cell w _ _ _) (by rw[zZN h.st 0 (.int .i32 m)];rfl)
def yV4(L:SL):Value:=.func (.func 96) #[L.ptr] #[]
def zZt(L:SL):Deferred:={ target:=.fn (.func 96) #[],args:=#[L.ptr] }
theorem xJf(h:zQH X w L d 0):Calls prog 55 #[L.ptr] w λe w'=>e=.returned (.tuple #[yV4 L,.int .i64 0])/\zQH X w' L d 1/\Fr (·=L.S) w w'/\w'.heap.size=w.heap.size:=by
 refine zYS _ w _ ⟨false,w,zW8 vu24 _ _ _ w,?_⟩
 show Calls prog 95 #[.pointer (some ⟨L.S,0,none⟩)] w _
 refine Calls.mono (muLock (by rw[h.cell];rfl) (zKP h.st 0)) ?_
 rintro e w1 ⟨rfl,fy⟩
 refine⟨rfl,rfl,?_,?_,?_⟩
 ·rw[fy];exact h.setMu 1
 ·rw[fy];exact Fr.cell w _ _ _
 ·rw[fy];simp
theorem zV6 (h:zQH X w L d 1) {K:World->Prop} (hK:K (w.setCell ⟨L.S,0,none⟩ (.int .i32 0))):zQd prog [zZt L] w K:=by
 show yVd prog (zZt L) w _
 show CallsD prog 96 #[.pointer (some ⟨L.S,0,none⟩)] .returning w _
 refine CallsD.mono (yYR (by rw[h.cell];rfl) (zKP h.st 0) .returning) ?_
 rintro e u' w' ⟨rfl,rfl,rfl⟩
 exact⟨⟨_,rfl⟩,rfl,hK⟩
theorem yJH {w0:World} {L0:SL} (h:zQH X w L d 1) (hl:zZe w0 w L0 L) {K:World->Prop} (hK:∀w',zQH X w' L d 0->zZe w0 w' L0 L->Fr (·=L.S) w w'->K w'):zQd prog [zZt L] w K:=
 zV6 h (hK _ (h.setMu 0) (hl.trans ⟨(Fr.cell w _ _ _).mono λb hb _=>.inl hb,λ_ h=>.inl h,rfl⟩) (Fr.cell w _ _ _))
theorem yYK {w0:World} (h0:zQH X w0 L d 0) (h:zQH X w L d 1) (hf:Fr (·=L.S) w0 w) {K:World->Prop} (hK:∀w',Pu w0 w'->Fr (·=L.S) w w'->K w'):zQd prog [zZt L] w K:=by
 refine zV6 h (hK _ ?_ (Fr.cell w _ _ _))
 have dL:=hf.trans (Fr.cell w L.S 0 (.int .i32 0)) λi hi _=>hi
 refine⟨dL.os,dL.tape,dL.output,dL.size,λk hk=>?_⟩
 by_cases e:k=L.S
 ·subst e
  rw[h0.st,(h.setMu 0).st]
 ·exact dL.block k hk e
theorem zWg.keep{w0:World}{t:Tbl}{q:HT}(hq:zWg w0 w t q)(hv:zQh t=0)(ho:∀b,L.own b->b<w0.heap.size)(hx:∀b,X b->b<w0.heap.size):∀w2,Fr (λb=>L.own b∨X b) w w2->zXB w2 t q.f q.r:=λw2 h2=>
 (hq.fr h2 λb hb _ e=>e.elim (λe=>by have:=ho b e;omega) (λe=>by have:=hx b e;omega)).rd hv
theorem zQH.pushDone (h:zQH X w L d mu) {q:HT} {t:Tbl} (hp:q.page=t.page) (hq:∀w2,Fr (λb=>L.own b∨X b) w w2->zXB w2 t q.f q.r) {r:Nat} (hr:w.heap[r]?=some (.cells (yZm q).toArray 35)) (hro:∀b,L.own b->b ≠ r) (hn:d.σ.done.length<=1000000)
  {K:World->Prop} (hK:∀w' L',zQH X w' L' { d with σ:={ d.σ with done:=d.σ.done ++ [t] } } mu->zZe w w' L L'->L'.now=L.now->L'.lh=L.lh->K w') :
  ∃s:SV,∃w1:World,(Builtin.append_ #[106,106] 106 #[slV L.dn,.slice (some ⟨r,0,none⟩) 1 1]).run prog w=.ok (slV s) w1/\st1 ((⟨L.S,0,none⟩:Addr).add 6) (slV s) w1 K:=by
 have hl:=h.dn.len zQL (by decide)
 have hdl:=h.dl
 obtain⟨s,w1,hra,hrow,cY,hblk,hsl⟩:=zQ1 (P:=prog) (ty:=106) vu106 vi35 rfl (by decide) h.dn (A:=some ⟨r,0,none⟩) (m:=1) (c:=1) (news:=yZm q) rfl (λj u hu=>⟨_,rfl,by rw[cl hr];simpa using hu⟩) (λu hu=>by simp[yZm]at hu;rcases hu with rfl|rfl|rfl <;> rfl) (by show(L.dn.len+1) * (56+1)<=_;omega)
 refine⟨s,w1,hra,?_⟩
 have hnS:L.S ∉ zQb L.dn:=h.dn.other h.st (by decide)
 have xe:=cY.blk h.st hnS
 rw[zQn,Nat.zero_add]
 refine zQw xe (by show 6<11;omega) λw2 kL aL=>?_
 have dL:Fr (·=L.S) w1 w2:=by rw[kL];exact Fr.cell w1 _ _ _
 have hf:Fr (λb=>b=L.S∨b ∈ zQb L.dn) w w2:=(cY.mono λb hb _=>.inr hb).trans dL λb hb _=>.inl hb
 have hsn:∀b ∈ zQb s,b ≠ L.S:=λb hb e=>by
  rcases hblk b hb with h1|h1
  ·exact hnS (by rw[←e];exact h1)
  ·have:=zQ5 h.st;omega
 have tl:zQi w2 35 3 s ((L.dh ++ [q]).flatMap yZm):=by
  rw[List.flatMap_append,List.flatMap_singleton]
  exact hrow.fr dL λb hb e=>hsn b hb e
 have oth:∀{e:TypeId} {sz:Nat} {s':SV} {vs:List Value},zQi w e sz s' vs->e ≠ 35->e ≠ 108->zQi w2 e sz s' vs:=λhr' h1 h2=>hr'.fr hf λb hb hx=>by
  rcases hx with rfl|hx
  ·exact hr'.other h.st h2 hb
  ·exact zQp hr' h.dn h1 b hb hx
 have tabo:∀{t:Tbl} {x:HT},zZX w t x->zZX w2 t x:=λht=>ht.fr hf λb hb hx=>by
  rcases hx with rfl|hx
  ·exact ht.other h.st (by decide) (by decide) hb
  ·obtain⟨_,hd|⟨g,cur,h3,h4,_⟩⟩:=h.dn
   ·rw[hd]at hx;simp[zQb]at hx
   ·simp[zQb,h3]at hx;subst hx
    exact ht.other h4 (by decide) (by decide) hb
 have hown:∀b,SL.own { L with dn:=s,dh:=L.dh ++ [q] } b->L.own b∨w.heap.size<=b:=λb hb=>by
  rcases hb with hb|hb|hb|hb|hb|hb
  ·exact .inl (.inl hb)
  ·exact .inl (.inr (.inl hb))
  ·rcases hblk b hb with h1|h1
   ·exact .inl (.inr (.inr (.inl h1)))
   ·exact .inr h1
  ·exact .inl (.inr (.inr (.inr (.inl hb))))
  ·exact .inl (.inr (.inr (.inr (.inr (.inl hb)))))
  ·exact .inl (.inr (.inr (.inr (.inr (.inr hb)))))
 have hleft:zZe w w2 L { L with dn:=s,dh:=L.dh ++ [q] }:=⟨hf.mono λb hb _=>hb.elim .inl λhb=>.inr (.inr (.inl hb)),hown,rfl⟩
 refine hK w2 { L with dn:=s,dh:=L.dh ++ [q] } ⟨aL,h.lv.fr hf λb hb hx=>?_,tl,oth h.wr (by decide) (by decide),oth h.pt (by decide) (by decide),tabo h.now,h.ll,by simp[hdl],h.wl,λi x u hx hu=>tabo (h.lvs i x u hx hu),λb hb hx=>?_,h.dj,h.djl,λb hb=>Nat.lt_of_lt_of_le (h.xl b hb) hf.size,?_⟩ hleft rfl rfl
 ·rcases hx with rfl|hx
  ·exact h.lv.other h.st (by decide) hb
  ·exact h.ld b hb hx
 ·rcases hblk b hx with h1|h1
  ·exact h.ld b hb h1
  ·have:=h.lv.lt b hb;omega
 ·have k1:=hleft.keep (X:=X) h.kp h.xl
  have k2:=hleft.keep (X:=X) hq h.xl
  intro w3 h3
  obtain⟨a1,a2,a3,a4,a5,a6⟩:=k1 w3 h3
  refine⟨a1,a2,λi x u hx hu=>?_,a4,a5,a6⟩
  rcases Nat.lt_trichotomy i d.σ.done.length with hi|hi|hi
  ·have hx:(L.dh ++ [q])[i]?=some x:=hx
   have hu:(d.σ.done ++ [t])[i]?=some u:=hu
   rw[List.getElem?_append_left (by omega)]at hx hu
   exact a3 i x u hx hu
  ·have hx:(L.dh ++ [q])[i]?=some x:=hx
   have hu:(d.σ.done ++ [t])[i]?=some u:=hu
   rw[List.getElem?_append_right (by omega),hdl,hi,Nat.sub_self]at hx
   rw[List.getElem?_append_right (by omega),hi,Nat.sub_self]at hu
   simp at hx hu;subst hx hu
   exact⟨hp,k2 w3 h3⟩
  ·have hu:(d.σ.done ++ [t])[i]?=some u:=hu
   rw[List.getElem?_eq_none (by rw[List.length_append,List.length_singleton];omega)]at hu;cases hu
end Go.Proofs.YtaeecpjhfmcliaaGreatDoor
/- The log: the parts of a store are written, one by one, continued. No condition but those stated. -/
namespace Go.Proofs.YtaeecpjhfmcliaaGreatDoor
open Go.Sh Go.RowKit Tryz
variable {w0 w w' : World} {X : Nat -> Prop} {L L' : SL} {d d' : Dat} {mu : Int}
theorem zQH.oth (h:zQH X w L d mu) {er:TypeId} {szr:Nat} {row:SV} {vsr:List Value} (hr:zQi w er szr row vsr) (hf:Fr (λb=>b=L.S∨b ∈ zQb row) w w') {e:TypeId} {sz:Nat} {s:SV} {vs:List Value} (hx:zQi w e sz s vs) (h1:e ≠ er) (h2:e ≠ 108):zQi w' e sz s vs:=
 hx.fr hf λb hb hB=>by
  rcases hB with rfl|hB
  ·exact hx.other h.st h2 hb
  ·exact zQp hx hr h1 b hb hB
theorem zQH.tabo (h:zQH X w L d mu) {er:TypeId} {szr:Nat} {row:SV} {vsr:List Value} (hr:zQi w er szr row vsr) (hf:Fr (λb=>b=L.S∨b ∈ zQb row) w w') (h1:er ≠ 67) (h2:er ≠ 73) {t:Tbl} {x:HT} (ht:zZX w t x):zZX w' t x:=
 ht.fr hf λb hb hB=>by
  rcases hB with rfl|hB
  ·exact ht.other h.st (by decide) (by decide) hb
  ·obtain⟨_,hd|⟨g,cur,h3,h4,_⟩⟩:=hr
   ·rw[hd]at hB;simp[zQb]at hB
   ·simp[zQb,h3]at hB;subst hB
    exact ht.other h4 h1 h2 hb
theorem zQH.grow (h:zQH X w L d mu) {er:TypeId} {szr:Nat} {row s:SV} {vsr:List Value} {w1:World} (hr:zQi w er szr row vsr) (he:er ≠ 108) (cY:Fr (· ∈ zQb row) w w1) (hblk:∀k ∈ zQb s,k ∈ zQb row∨w.heap.size<=k) {o:Nat} (ho:o<11) {v:Value} {K:World->Prop}
  (hK:∀w2,w2.heap[L.S]?=some (.cells ((zZR mu L).setIfInBounds o v) 108)->Fr (λb=>b=L.S∨b ∈ zQb row) w w2->Fr (·=L.S) w1 w2->(∀b ∈ zQb s,b ≠ L.S)->K w2):st1 ((⟨L.S,0,none⟩:Addr).add o) v w1 K:=by
 have hnS:L.S ∉ zQb row:=hr.other h.st he
 rw[zQn,Nat.zero_add]
 refine zQw (cY.blk h.st hnS) ho λw2 kL aL=>?_
 have dL:Fr (·=L.S) w1 w2:=by rw[kL];exact Fr.cell w1 _ _ _
 refine hK w2 aL ((cY.mono λb hb _=>.inr hb).trans dL λb hb _=>.inl hb) dL λb hb e=>?_
 rcases hblk b hb with h1|h1
 ·exact hnS (by rw[←e];exact h1)
 ·have:=zQ5 h.st;omega
theorem zYx {α β:Type} {l:List α} {m:List β} {a:α} {b:β} (hl:l.length=m.length) {P:α->β->Prop} (h:∀(i:Nat) x y,l[i]?=some x->m[i]?=some y->P x y) (h0:P a b):∀(i:Nat) x y,(l ++ [a])[i]?=some x->(m ++ [b])[i]?=some y->P x y:=λi x y hx hy=>by
 rcases Nat.lt_trichotomy i m.length with hi|hi|hi
 ·rw[List.getElem?_append_left (by omega)]at hx hy
  exact h i x y hx hy
 ·rw[List.getElem?_append_right (by omega),hl,hi,Nat.sub_self]at hx
  rw[List.getElem?_append_right (by omega),hi,Nat.sub_self]at hy
  simp at hx hy;subst hx hy
  exact h0
 ·rw[List.getElem?_eq_none (by rw[List.length_append,List.length_singleton];omega)]at hy;cases hy
theorem zQH.pushWr (h:zQH X w L d mu) {q:SV} {y:Wr} (hq:∀w2,Fr (λb=>L.own b∨X b) w w2->ByV w2 q y.b) {r:Nat} (hr:w.heap[r]?=some (.cells #[.int .i64 y.file,.int .i64 y.at_,slV q] 90)) (hn:d.wr.length<=1000000)
  {K:World->Prop} (hK:∀w' L',zQH X w' L' { d with wr:=d.wr ++ [y] } mu->zZe w w' L L'->L'.last=L.last->K w') :
  ∃s:SV,∃w1:World,(Builtin.append_ #[87,87] 87 #[slV L.wr,.slice (some ⟨r,0,none⟩) 1 1]).run prog w=.ok (slV s) w1/\st1 ((⟨L.S,0,none⟩:Addr).add 9) (slV s) w1 K:=by
 have hl:=h.wr.len zJZ (by decide)
 have hwl:=h.wl
 obtain⟨s,w1,hra,hrow,cY,hblk,hsl⟩:=zQ1 (P:=prog) (ty:=87) vu87 vi90 rfl (by decide) h.wr (A:=some ⟨r,0,none⟩) (m:=1) (c:=1) (news:=wrC (y.file,y.at_,q)) rfl (λj u hu=>⟨_,rfl,by rw[cl hr];simpa using hu⟩) (λu hu=>by simp[wrC]at hu;rcases hu with rfl|rfl|rfl <;> rfl) (by show(L.wr.len+1) * (40+1)<=_;omega)
 refine⟨s,w1,hra,h.grow h.wr (by decide) cY hblk (by decide) λw2 aL hf dL hsn=>?_⟩
 have hown:∀b,SL.own { L with wr:=s,wh:=L.wh ++ [(y.file,y.at_,q)] } b->L.own b∨w.heap.size<=b:=λb hb=>by
  rcases hb with hb|hb|hb|hb|hb|hb
  ·exact .inl (.inl hb)
  ·exact .inl (.inr (.inl hb))
  ·exact .inl (.inr (.inr (.inl hb)))
  ·rcases hblk b hb with h1|h1
   ·exact .inl (.inr (.inr (.inr (.inl h1))))
   ·exact .inr h1
  ·exact .inl (.inr (.inr (.inr (.inr (.inl hb)))))
  ·exact .inl (.inr (.inr (.inr (.inr (.inr hb)))))
 have hleft:zZe w w2 L { L with wr:=s,wh:=L.wh ++ [(y.file,y.at_,q)] }:=⟨hf.mono λb hb _=>hb.elim .inl λhb=>.inr (.inr (.inr (.inl hb))),hown,rfl⟩
 refine hK w2 { L with wr:=s,wh:=L.wh ++ [(y.file,y.at_,q)] } ⟨aL,h.oth h.wr hf h.lv (by decide) (by decide),h.oth h.wr hf h.dn (by decide) (by decide),?_,h.oth h.wr hf h.pt (by decide) (by decide),h.tabo h.wr hf (by decide) (by decide) h.now,h.ll,h.dl,by simp[hwl],λi x u hx hu=>h.tabo h.wr hf (by decide) (by decide) (h.lvs i x u hx hu),h.ld,h.dj,h.djl,λb hb=>Nat.lt_of_lt_of_le (h.xl b hb) hf.size,?_⟩ hleft rfl
 ·show zQi w2 90 3 s ((L.wh ++ [(y.file,y.at_,q)]).flatMap wrC)
  rw[List.flatMap_append,List.flatMap_singleton]
  exact hrow.fr dL λb hb e=>hsn b hb e
 ·have k1:=hleft.keep (X:=X) h.kp h.xl
  have k2:=hleft.keep (X:=X) hq h.xl
  intro w3 h3
  obtain⟨a1,a2,a3,a4,a5,a6⟩:=k1 w3 h3
  exact⟨a1,a2,a3,a4,a5,zYx (P:=λx y=>x.1=y.file/\x.2.1=y.at_/\ByV w3 x.2.2 y.b) h.wl a6 ⟨rfl,rfl,k2 w3 h3⟩⟩
theorem zQH.pushPt (h:zQH X w L d mu) {n:Int} {r:Nat} (hr:w.heap[r]?=some (.cells #[.int .i64 n] 3)) (hn:d.pts.length<=1000000)
  {K:World->Prop} (hK:∀w' L',zQH X w' L' { d with pts:=d.pts ++ [n] } mu->zZe w w' L L'->K w') :
  ∃s:SV,∃w1:World,(Builtin.append_ #[52,52] 52 #[slV L.pt,.slice (some ⟨r,0,none⟩) 1 1]).run prog w=.ok (slV s) w1/\st1 ((⟨L.S,0,none⟩:Addr).add 10) (slV s) w1 K:=by
 have hl:=h.pt.1
 rw[List.length_map,Nat.mul_one]at hl
 obtain⟨s,w1,hra,hrow,cY,hblk,hsl⟩:=zQ1 (P:=prog) (ty:=52) vu52 vi3 rfl (by decide) h.pt (A:=some ⟨r,0,none⟩) (m:=1) (c:=1) (news:=[.int .i64 n]) rfl (λj u hu=>⟨_,rfl,by rw[cl hr];simpa using hu⟩) (λu hu=>by simp at hu;subst hu;rfl) (by show(L.pt.len+1) * (8+1)<=_;omega)
 refine⟨s,w1,hra,h.grow h.pt (by decide) cY hblk (by decide) λw2 aL hf dL hsn=>?_⟩
 have hown:∀b,SL.own { L with pt:=s } b->L.own b∨w.heap.size<=b:=λb hb=>by
  rcases hb with hb|hb|hb|hb|hb|hb
  ·exact .inl (.inl hb)
  ·exact .inl (.inr (.inl hb))
  ·exact .inl (.inr (.inr (.inl hb)))
  ·exact .inl (.inr (.inr (.inr (.inl hb))))
  ·rcases hblk b hb with h1|h1
   ·exact .inl (.inr (.inr (.inr (.inr (.inl h1)))))
   ·exact .inr h1
  ·exact .inl (.inr (.inr (.inr (.inr (.inr hb)))))
 have hleft:zZe w w2 L { L with pt:=s }:=⟨hf.mono λb hb _=>hb.elim .inl λhb=>.inr (.inr (.inr (.inr (.inl hb)))),hown,rfl⟩
 refine hK w2 { L with pt:=s } ⟨aL,h.oth h.pt hf h.lv (by decide) (by decide),h.oth h.pt hf h.dn (by decide) (by decide),h.oth h.pt hf h.wr (by decide) (by decide),?_,h.tabo h.pt hf (by decide) (by decide) h.now,h.ll,h.dl,h.wl,λi x u hx hu=>h.tabo h.pt hf (by decide) (by decide) (h.lvs i x u hx hu),h.ld,h.dj,h.djl,λb hb=>Nat.lt_of_lt_of_le (h.xl b hb) hf.size,?_⟩ hleft
 ·show zQi w2 3 1 s ((d.pts ++ [n]).map (Value.int .i64))
  rw[List.map_append]
  exact hrow.fr dL λb hb e=>hsn b hb e
 ·have k1:=hleft.keep (X:=X) h.kp h.xl
  intro w3 h3
  obtain⟨a1,a2,a3,a4,a5,a6⟩:=k1 w3 h3
  exact⟨a1,a2,a3,a4,a5,a6⟩
theorem zQH.setLast (h:zQH X w L d mu) {s q0 q1:SV} {F:Fls} (hq:∀w2,Fr (λb=>L.own b∨X b) w w2->zXK w2 s q0 q1 F) {K:World->Prop} (hK:∀w' L',zQH X w' L' { d with last:=F } mu->zZe w w' L L'->K w'):st1 ((⟨L.S,0,none⟩:Addr).add 8) (slV s) w K:=by
 rw[zQn,Nat.zero_add]
 refine zQw h.st (by show 8<11;omega) λw2 kL aL=>?_
 have dL:Fr (·=L.S) w w2:=by rw[kL];exact Fr.cell w _ _ _
 have hleft:zZe w w2 L { L with last:=s,l0:=q0,l1:=q1 }:=⟨dL.mono λb hb _=>.inl hb,λb hb=>.inl hb,rfl⟩
 have oth:∀{e:TypeId} {sz:Nat} {s':SV} {vs:List Value},zQi w e sz s' vs->e ≠ 108->zQi w2 e sz s' vs:=λhx h2=>hx.fr dL λb hb e=>hx.other h.st h2 (by rw[←show b=L.S from e];exact hb)
 have tabo:∀{t:Tbl} {x:HT},zZX w t x->zZX w2 t x:=λht=>ht.fr dL λb hb e=>ht.other h.st (by decide) (by decide) (by rw[←show b=L.S from e];exact hb)
 refine hK w2 { L with last:=s,l0:=q0,l1:=q1 } ⟨aL,oth h.lv (by decide),oth h.dn (by decide),oth h.wr (by decide),oth h.pt (by decide),tabo h.now,h.ll,h.dl,h.wl,λi x u hx hu=>tabo (h.lvs i x u hx hu),h.ld,h.dj,h.djl,λb hb=>Nat.lt_of_lt_of_le (h.xl b hb) dL.size,?_⟩ hleft
 have k1:=hleft.keep (X:=X) h.kp h.xl
 have k2:=hleft.keep (X:=X) hq h.xl
 intro w3 h3
 obtain⟨a1,a2,a3,a4,a5,a6⟩:=k1 w3 h3
 exact⟨a1,a2,a3,a4,k2 w3 h3,a6⟩
theorem zQH.pushLev (h:zQH X w0 L d mu) (hp:Pu w0 w) {q:HT} {t:Tbl} (hq:zWg w0 w t q) (hv:zQh t=0) {r:Nat} (hr:w.heap[r]?=some (.cells (yZm q).toArray 35)) (hn:d.σ.lev.length<=1000000)
  {K:World->Prop} (hK:∀w' L',zQH X w' L' { d with σ:={ d.σ with lev:=d.σ.lev ++ [t] } } mu->zZe w0 w' L L'->K w') :
  ∃s:SV,∃w1:World,(Builtin.append_ #[106,106] 106 #[slV L.lv,.slice (some ⟨r,0,none⟩) 1 1]).run prog w=.ok (slV s) w1/\st1 ((⟨L.S,0,none⟩:Addr).add 5) (slV s) w1 K:=by
 have h1:=h.pu hp
 have hl:=h1.lv.len zQL (by decide)
 have hll:=h.ll
 obtain⟨s,w1,hra,hrow,cY,hblk,hsl⟩:=zQ1 (P:=prog) (ty:=106) vu106 vi35 rfl (by decide) h1.lv (A:=some ⟨r,0,none⟩) (m:=1) (c:=1) (news:=yZm q) rfl (λj u hu=>⟨_,rfl,by rw[cl hr];simpa using hu⟩) (λu hu=>by simp[yZm]at hu;rcases hu with rfl|rfl|rfl <;> rfl) (by show(L.lv.len+1) * (56+1)<=_;omega)
 refine⟨s,w1,hra,h1.grow h1.lv (by decide) cY hblk (by decide) λw2 aL hf dL hsn=>?_⟩
 have hz:=hp.size
 have hqo:∀b,q.own b->w0.heap.size<=b:=λb hb=>hb.elim (hq.rn b) (hq.vn b)
 have hown:∀b,SL.own { L with lv:=s,lh:=L.lh ++ [q] } b->L.own b∨w0.heap.size<=b:=λb hb=>by
  rcases hb with hb|hb|hb|hb|hb|⟨x,hx,hb⟩
  ·exact .inl (.inl hb)
  ·rcases hblk b hb with h1|h1
   ·exact .inl (.inr (.inl h1))
   ·exact .inr (by omega)
  ·exact .inl (.inr (.inr (.inl hb)))
  ·exact .inl (.inr (.inr (.inr (.inl hb))))
  ·exact .inl (.inr (.inr (.inr (.inr (.inl hb)))))
  ·have hx:x ∈ L.now :: (L.lh ++ [q]):=hx
   rw[←List.cons_append,List.mem_append,List.mem_singleton]at hx
   rcases hx with hx|rfl
   ·exact .inl (.inr (.inr (.inr (.inr (.inr ⟨x,hx,hb⟩)))))
   ·exact .inr (hqo b hb)
 have hfL:Fr L.own w0 w2:=(Fr.pu hp:Fr L.own w0 w).trans (hf.mono λb hb _=>hb.elim .inl λhb=>.inr (.inl hb)) λb hb _=>hb
 have hleft:zZe w0 w2 L { L with lv:=s,lh:=L.lh ++ [q] }:=⟨hfL,hown,rfl⟩
 have o5:zWg w0 w2 t q:=hq.fr hf λb hb hlt e=>by
  rcases e with rfl|e
  ·have:=h.own_lt (.inl rfl);omega
  ·have:=h.lv.lt b e;omega
 have lt:∀x ∈ L.lh,∀b,x.own b->b<w0.heap.size:=λx hx b hb=>h.own_lt (.inr (.inr (.inr (.inr (.inr ⟨x,List.mem_cons_of_mem _ hx,hb⟩)))))
 refine hK w2 { L with lv:=s,lh:=L.lh ++ [q] } ⟨aL,?_,h1.dn.fr hf λb hb hx=>?_,h1.oth h1.lv hf h1.wr (by decide) (by decide),h1.oth h1.lv hf h1.pt (by decide) (by decide),h1.tabo h1.lv hf (by decide) (by decide) h1.now,by simp[hll],h.dl,h.wl,zYx (P:=λx u=>zZX w2 u x) h.ll (λi x u hx hu=>h1.tabo h1.lv hf (by decide) (by decide) (h1.lvs i x u hx hu)) o5.tab,λb hb hx=>?_,λx hx b hb hxb=>?_,λi j x y hij hx hy b hb hyb=>?_,λb hb=>Nat.lt_of_lt_of_le (h.xl b hb) hfL.size,?_⟩ hleft
 ·show zQi w2 35 3 s ((L.lh ++ [q]).flatMap yZm)
  rw[List.flatMap_append,List.flatMap_singleton]
  exact hrow.fr dL λb hb e=>hsn b hb e
 ·rcases hx with rfl|hx
  ·exact h1.dn.other h1.st (by decide) hb
  ·exact h.ld b hx hb
 ·rcases hblk b hb with h2|h2
  ·exact h.ld b h2 hx
  ·have:=h1.dn.lt b hx;omega
 ·rcases List.mem_append.1 hx with hx|hx
  ·exact h.dj x hx b hb hxb
  ·rw[List.mem_singleton.1 hx]at hxb
   have:=hqo b hxb
   have:=h.own_lt (b:=b) (.inr (.inr (.inr (.inr (.inr ⟨L.now,List.mem_cons_self,hb⟩)))))
   omega
 ·have qw:(L.lh ++ [q])[i]?=some x:=hx
  have pN:(L.lh ++ [q])[j]?=some y:=hy
  rw[List.getElem?_append]at qw pN
  split at qw
  ·split at pN
   ·exact h.djl i j x y hij qw pN b hb hyb
   ·have e:y=q:=List.mem_singleton.1 (List.mem_of_getElem? pN)
    have:=hqo b (by rw[←e];exact hyb)
    have:=lt x (List.mem_of_getElem? qw) b hb
    omega
  ·have e:x=q:=List.mem_singleton.1 (List.mem_of_getElem? qw)
   split at pN
   ·have:=hqo b (by rw[←e];exact hb)
    have:=lt y (List.mem_of_getElem? pN) b hyb
    omega
   ·have hi:=(List.getElem?_eq_some_iff.1 qw).1
    have hj:=(List.getElem?_eq_some_iff.1 pN).1
    simp at hi hj
    omega
 ·have k1:=hleft.keep (X:=X) h.kp h.xl
  intro w3 h3
  obtain⟨a1,a2,a3,a4,a5,a6⟩:=k1 w3 h3
  refine⟨a1,zYx (P:=λx u=>zXV w3 x.f u.fields) h.ll a2 ?_,a3,a4,a5,a6⟩
  have yw:zQi w3 129 4 q.f (t.fields.flatMap zVr):=by
   refine o5.f.fr h3 λb hb e=>?_
   have hbn:=o5.fn b hb
   rcases e with e|e
   ·
    rcases e with e|e|e|e|e|⟨x,hx,e⟩
    ·have e:b=L.S:=e
     have:=h.own_lt (b:=b) (.inl e)
     omega
    ·exact zQp o5.f (show zQi w2 35 3 s ((L.lh ++ [q]).flatMap yZm)by
      rw[List.flatMap_append,List.flatMap_singleton];exact hrow.fr dL λb hb e=>hsn b hb e) (by decide) b hb e
    ·have:=h.dn.lt b e;omega
    ·have:=h.wr.lt b e;omega
    ·have:=h.pt.lt b e;omega
    ·have hx:x ∈ L.now :: (L.lh ++ [q]):=hx
     rw[←List.cons_append,List.mem_append,List.mem_singleton]at hx
     rcases hx with hx|rfl
     ·have:=h.own_lt (b:=b) (.inr (.inr (.inr (.inr (.inr ⟨x,hx,e⟩)))));omega
     ·obtain⟨_,hd|⟨g,cur,g3,g4,_⟩⟩:=o5.f
      ·rw[hd]at hb;simp[zQb]at hb
      ·simp[zQb,g3]at hb;subst hb
       exact o5.tab.other g4 (by decide) (by decide) e
   ·have:=h.xl b e;omega
  exact zKq hv yw
theorem zQH.reNow (h:zQH X w0 L d mu) (hp:Pu w0 w) {B:Nat->Prop} (hf:Fr B w w') (hB:∀b,B b->b=L.S∨L.now.own b) {q:HT} {t:Tbl} (hst:w'.heap[L.S]?=some (.cells (zZR mu { L with now:=q }) 108)) (hq:zZX w' t q) (ho:∀b,q.own b->L.now.own b∨w0.heap.size<=b)
  (hqf:q.f=L.now.f) (hft:t.fields=d.σ.t.fields):zQH X w' { L with now:=q } { d with σ:={ d.σ with t:=t } } mu/\zZe w0 w' L { L with now:=q }:=by
 have h1:=h.pu hp
 have hown:∀b,SL.own { L with now:=q } b->L.own b∨w0.heap.size<=b:=λb hb=>by
  rcases hb with hb|hb|hb|hb|hb|⟨x,hx,hb⟩
  ·exact .inl (.inl hb)
  ·exact .inl (.inr (.inl hb))
  ·exact .inl (.inr (.inr (.inl hb)))
  ·exact .inl (.inr (.inr (.inr (.inl hb))))
  ·exact .inl (.inr (.inr (.inr (.inr (.inl hb)))))
  ·rcases List.mem_cons.1 hx with rfl|hx
   ·rcases ho b hb with h2|h2
    ·exact .inl (.inr (.inr (.inr (.inr (.inr ⟨L.now,List.mem_cons_self,h2⟩)))))
    ·exact .inr h2
   ·exact .inl (.inr (.inr (.inr (.inr (.inr ⟨x,List.mem_cons_of_mem _ hx,hb⟩)))))
 have hfL:Fr L.own w0 w':=(Fr.pu hp:Fr L.own w0 w).trans (hf.mono λb hb _=>(hB b hb).elim .inl λhb=>.inr (.inr (.inr (.inr (.inr ⟨L.now,List.mem_cons_self,hb⟩))))) λb hb _=>hb
 have hleft:zZe w0 w' L { L with now:=q }:=⟨hfL,hown,rfl⟩
 have oth:∀{e:TypeId} {sz:Nat} {s':SV} {vs:List Value},zQi w e sz s' vs->e ≠ 108->e ≠ 67->e ≠ 73->zQi w' e sz s' vs:=λ{e sz s' vs} hx h2 h3 h4=>hx.fr hf λb hb hbB=>by
  rcases hB b hbB with rfl|hn
  ·exact hx.other h1.st h2 hb
  ·obtain⟨_,hd|⟨g,cur,g3,g4,_⟩⟩:=hx
   ·rw[hd]at hb;simp[zQb]at hb
   ·simp[zQb,g3]at hb;subst hb
    exact h1.now.other g4 h3 h4 hn
 have lt:∀x ∈ L.lh,∀b,x.own b->b<w0.heap.size:=λx hx b hb=>h.own_lt (.inr (.inr (.inr (.inr (.inr ⟨x,List.mem_cons_of_mem _ hx,hb⟩)))))
 refine⟨⟨hst,oth h1.lv (by decide) (by decide) (by decide),oth h1.dn (by decide) (by decide) (by decide),oth h1.wr (by decide) (by decide) (by decide),oth h1.pt (by decide) (by decide) (by decide),hq,h.ll,h.dl,h.wl,λi x u hx hu=>?_,h.ld,λx hx b hb hxb=>?_,h.djl,λb hb=>Nat.lt_of_lt_of_le (h.xl b hb) hfL.size,?_⟩,hleft⟩
 ·refine(h1.lvs i x u hx hu).fr hf λb hb hbB=>?_
  rcases hB b hbB with rfl|hn
  ·exact(h1.lvs i x u hx hu).other h1.st (by decide) (by decide) hb
  ·exact h.dj x (List.mem_of_getElem? hx) b hn hb
 ·rcases ho b hb with h2|h2
  ·exact h.dj x hx b h2 hxb
  ·have:=lt x hx b hxb;omega
 ·have k1:=hleft.keep (X:=X) h.kp h.xl
  intro w3 h3
  obtain⟨a1,a2,a3,a4,a5,a6⟩:=k1 w3 h3
  exact⟨by show zXV w3 q.f t.fields;rw[hqf,hft];exact a1,a2,a3,a4,a5,a6⟩
end Go.Proofs.YtaeecpjhfmcliaaGreatDoor
/- The log: what a recovery writes; stores are made. No condition but those stated. -/
namespace Go.Proofs.YtaeecpjhfmcliaaGreatDoor
open Go.Sh Go.RowKit Tryz
variable {w w' : World}
def yVH(w0 w:World)(q:SV)(b:List UInt8):Prop:=(q=⟨none,0,0⟩/\b=[])∨zQc w0 w q b
theorem yVH.fr{w0:World}{q:SV}{b:List UInt8}{B:Nat->Prop}(h:yVH w0 w q b)(hf:Fr B w w')(hB:∀k,w0.heap.size<=k->k<w.heap.size->¬B k):yVH w0 w' q b:=h.imp id λh=>h.fr hf λk hk=>hB k (h.2 k hk) (h.1.lt k hk)
theorem yVH.by{w0:World}{q:SV}{b:List UInt8}(h:yVH w0 w q b)(hl:b.length<=1000000000):ByV w q b:=by
 rcases h with⟨rfl,rfl⟩|h
 ·exact⟨rfl,Nat.le_refl _,Nat.zero_le _,λj b hj=>by simp at hj⟩
 ·exact h.by (by omega)
structure zK5 (w0 w:World) (q:SV) (wh:List (Int × Int × SV)) (l:List Wr):Prop where
 row:zQi w 90 3 q (wh.flatMap wrC)
 rn:∀b ∈ zQb q,w0.heap.size<=b
 len:wh.length=l.length
 each:∀(i:Nat) x y,wh[i]?=some x->l[i]?=some y->x.1=y.file/\x.2.1=y.at_/\yVH w0 w x.2.2 y.b
theorem zK5.nil(w0 w:World):zK5 w0 w ⟨none,0,0⟩ [] []:=⟨zQi.nil w 90 3,by simp[zQb],rfl,λi x y hx=>by simp at hx⟩
theorem zK5.pu {w0:World} {q:SV} {wh:List (Int × Int × SV)} {l:List Wr} (h:zK5 w0 w q wh l) (hp:Pu w w'):zK5 w0 w' q wh l:=
 ⟨h.row.pu hp,h.rn,h.len,λi x y hx hy=>⟨(h.each i x y hx hy).1,(h.each i x y hx hy).2.1,(h.each i x y hx hy).2.2.fr (Fr.pu hp:Fr (λ_=>False) w w') λ_ _ _ h=>h⟩⟩
theorem zK5.push {w0:World} {q:SV} {wh news:List (Int × Int × SV)} {l lnew:List Wr} (h:zK5 w0 w q wh l) (hz:w0.heap.size<=w.heap.size) {r:Nat} (hr:w.heap[r]?=some (.cells (news.flatMap wrC).toArray 90)) (hn:news.length=lnew.length) (hb:l.length+lnew.length<=100000)
  (he:∀(i:Nat) x y,news[i]?=some x->lnew[i]?=some y->x.1=y.file/\x.2.1=y.at_/\yVH w0 w x.2.2 y.b) :
  ∃(s:SV) (w1:World),(Builtin.append_ #[87,87] 87 #[slV q,.slice (some ⟨r,0,none⟩) news.length news.length]).run prog w=.ok (slV s) w1/\zK5 w0 w1 s (wh ++ news) (l ++ lnew)/\Fr (· ∈ zQb q) w w1:=by
 have hl:=h.row.len zJZ (by decide)
 have hll:=h.len
 obtain⟨s,w1,hra,hrow,cY,hblk,hsl⟩:=zQ1 (P:=prog) (ty:=87) vu87 vi90 rfl (by decide) h.row (A:=some ⟨r,0,none⟩) (m:=news.length) (c:=news.length) (news:=news.flatMap wrC) (by rw[zQy zJZ]) (λj u hu=>⟨_,rfl,by rw[cl hr];simpa using hu⟩) (λu hu=>by
  obtain⟨y,_,hy⟩:=List.mem_flatMap.1 hu
  simp[wrC]at hy
  rcases hy with rfl|rfl|rfl <;> rfl) (by show(q.len+news.length) * (40+1)<=_;omega)
 have keep:∀{x:SV} {b:List UInt8},yVH w0 w x b->yVH w0 w1 x b:=λhx=>hx.imp id λhx=>hx.fr cY λk hk e=>zQp hx.1 h.row (by decide) k hk e
 refine⟨s,w1,hra,⟨by rw[List.flatMap_append];exact hrow,λb hb=>?_,by simp[hll,hn],λi x y hx hy=>?_⟩,cY⟩
 ·rcases hblk b hb with h1|h1
  ·exact h.rn b h1
  ·omega
 ·rw[List.getElem?_append]at hx hy
  split at hx
  ·rename_i hi
   rw[if_pos (by omega)]at hy
   obtain⟨a,b,c⟩:=h.each i x y hx hy
   exact⟨a,b,keep c⟩
  ·rename_i hi
   rw[if_neg (by omega)]at hy
   rw[hll]at hx
   obtain⟨a,b,c⟩:=he _ x y hx hy
   exact⟨a,b,keep c⟩
end Go.Proofs.YtaeecpjhfmcliaaGreatDoor
