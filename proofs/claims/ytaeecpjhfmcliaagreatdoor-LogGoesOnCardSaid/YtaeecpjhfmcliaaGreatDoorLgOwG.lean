import Derived.Test.YtaeecpjhfmcliaaGreatDoorLgOwF
import Derived.Test.YtaeecpjhfmcliaaGreatDoorLgPrB
/- The log: rows, tables and files are copied. No condition but those stated. -/
set_option maxRecDepth 100000
set_option linter.unusedVariables false
set_option linter.unusedSimpArgs false
noncomputable section
namespace Go.Proofs.YtaeecpjhfmcliaaGreatDoor
open Go.Sh Go.RowKit Tryz
variable {w w' : World}
def zV8(w:World)(e:TypeId)(sz:Nat)(news:List Value):Rt:=λx w'=>∃q:SV,x=.returned (slV q)/\zQl w' e sz q news/\(∀b ∈ zQe q,w.heap.size<=b)/\Pu w w'
theorem zJ3 {t e:TypeId} {sz b:Nat} {z:Value} (ht:prog.underlying t=some (.slice e)) (hi:(prog.info? e).map (λi=>(i.zero,i.size,i.bytes))=some (some z,sz,b)) (hz:z.cells.size=sz) (hsz:0<sz)
  (s:SV) {news:List Value} (hl:news.length=s.len * sz) (hn:∀j u,news[j]?=some u->∃a,s.a=some a/\w.cell? (a.add j)=some u) (h1:∀u ∈ news,u.oneCell'=true) (hb:s.len * (b+1)<=140737488355328)
  :
  ∃b4:Bool,∃w1:World,(eqS .eql t (.tmp 3) (.const (.slice none 0 0)) (.slice s.a s.len s.cap) (.slice none 0 0)).run prog w=.ok (.bool b4) w1/\
  Br b4 (zV8 w e sz news (.returned (.slice none 0 0)) w1) (alE (.cells #[] e) w1 λr5 w3=>
   ∃l7:SV,∃w4:World,(Builtin.append_ #[t,t] t #[.slice (some ⟨r5,0,none⟩) 0 0,.slice s.a s.len s.cap]).run prog w3=.ok (.slice l7.a l7.len l7.cap) w4/\zV8 w e sz news (.returned (.slice l7.a l7.len l7.cap)) w4):=by
 refine⟨_,w,yX2 ht _ _ _ _ _ w,Br.of (λhn'=>?_) (λhn'=>?_)⟩
 ·have xg:news=[]:=by
   cases news with
   | nil=>rfl
   | cons v l=>
    obtain⟨a,ha,_⟩:=hn 0 v rfl
    rw[ha]at hn';cases hn'
  subst xg
  exact⟨⟨none,0,0⟩,rfl,zQl.nil _ _ _,by simp[zQe],Pu.refl w⟩
 ·refine zY2 λw1 kb=>?_
  have ar:Pu w w1:=by rw[kb];exact Pu.alloc w _
  have sV:zQl w1 e sz ⟨some ⟨w.heap.size,0,none⟩,0,0⟩ []:=⟨by simp,.inr ⟨_,#[],rfl,by rw[kb];exact zZt w _,Nat.le_refl _,Nat.zero_le _,by simp,by simp⟩⟩
  obtain⟨q,w2,hr,hrow,hf,hblk,_⟩:=zQy (P:=prog) (ty:=t) ht hi hz hsz sV (A:=s.a) (m:=s.len) (c:=s.cap) (news:=news) hl (λj u hu=>by
   obtain⟨a,ha,hc⟩:=hn j u hu
   exact⟨a,ha,ar.cell hc⟩) h1 (by show(0+s.len) * (b+1)<=_;rw[Nat.zero_add];exact hb)
  rw[List.nil_append]at hrow
  refine⟨q,w2,hr,q,rfl,hrow,λb hb=>?_,ar.andNew hf λb hb=>by simp[zQe]at hb;omega⟩
  rcases hblk b hb with h|h
  ·simp[zQe]at h;omega
  ·have:=ar.size;omega
theorem zJ8 {α:Type} {cells:α->List Value} {n:Nat} (hn:∀x,(cells x).length=n) (h0:0<n) {s:SV} {l:List α} (h:∀i x,l[i]?=some x->∃a,s.a=some a/\∀o v,(cells x)[o]?=some v->w.cell? ((a.add (i * n)).add o)=some v) :
  ∀j u,(l.flatMap cells)[j]?=some u->∃a,s.a=some a/\w.cell? (a.add j)=some u:=λj u hu=>by
 have hj:j<l.length * n:=by have:=(List.getElem?_eq_some_iff.1 hu).1;rwa [zQ4 hn]at this
 have hd:j / n<l.length:=(Nat.div_lt_iff_lt_mul h0).2 hj
 have hm:j / n * n+j % n=j:=by have:=Nat.div_add_mod j n;rw[Nat.mul_comm]at this;exact this
 obtain⟨x,hx⟩:=zQM hd
 obtain⟨a,ha,hc⟩:=h _ x hx
 have h2:=zKT hn hx (j % n) (Nat.mod_lt _ h0)
 rw[hm,hu]at h2
 have h3:=hc _ u h2.symm
 rw[Addr.add_add,hm]at h3
 exact⟨a,ha,h3⟩
theorem yXI{s:SV}{l:List Val}(h:RdV w s l)(hb:l.length<=1000000):Calls prog 78 #[slV s] w (zV8 w 73 3 (l.flatMap zVN)):=by
 have hl:=h.len
 refine xQY s w _ (zJ3 vu38 vi73 rfl (by decide) s (by rw[zQ4 zXA,hl]) (zJ8 zXA (by decide) λi v hv=>?_) (λu hu=>?_) (by omega))
 ·obtain⟨a,ha,c0,c1,c2⟩:=h.get i v hv
  refine⟨a,ha,λo u hu=>?_⟩
  rcases o with _|_|_|o <;> simp[zVN]at hu <;> subst hu <;> assumption
 ·obtain⟨y,_,hy⟩:=List.mem_flatMap.1 hu
  simp[zVN]at hy
  rcases hy with rfl|rfl|rfl <;> rfl
theorem xJ9{s:SV}{l:List Fld}(h:zX3 w s l)(hb:l.length<=1000000):Calls prog 97 #[slV s] w (zV8 w 129 4 (l.flatMap zYl)):=by
 have hl:=h.len
 refine xQ7 s w _ (zJ3 vu32 vi129 rfl (by decide) s (by rw[zQ4 zZO,hl]) (zJ8 zZO (by decide) λi v hv=>?_) (λu hu=>?_) (by omega))
 ·obtain⟨a,ha,_,_,_,_,c0,c1,c2,c3⟩:=zJl h hv
  refine⟨a,ha,λo u hu=>?_⟩
  rcases o with _|_|_|_|o <;> simp[zYl]at hu <;> subst hu <;> assumption
 ·obtain⟨y,_,hy⟩:=List.mem_flatMap.1 hu
  simp[zYl]at hy
  rcases hy with rfl|rfl|rfl|rfl <;> rfl
def RdR (w:World) (s:SV) (hs:List (Bool × SV)) (rs:List Rec):Prop:=s.len=rs.length/\hs.length=rs.length/\(∀(i:Nat) (x:Bool × SV),hs[i]?=some x->∃a,s.a=some a/\w.cell? ((a.add (i * 2)).add 0)=some (.bool x.1)/\w.cell? ((a.add (i * 2)).add 1)=some (slV x.2))/\∀(i:Nat) (x:Bool × SV) (r:Rec),hs[i]?=some x->rs[i]?=some r->x.1=r.gone/\RdV w x.2 r.v
theorem RdR.of{s:SV}{rs:List Rec}(h:zX3 w s rs):∃hs,RdR w s hs rs:=by
 have key:∀i r,rs[i]?=some r->∃x:Bool × SV,∃a,s.a=some a/\w.cell? ((a.add (i * 2)).add 0)=some (.bool x.1)/\w.cell? ((a.add (i * 2)).add 1)=some (slV x.2)/\x.1=r.gone/\RdV w x.2 r.v:=λi r hr=>by
  obtain⟨a,t,h1,_,h2,h3,h4⟩:=zWk h hr
  exact⟨(r.gone,t),a,h1,h3,h4,rfl,RdV.of h2⟩
 have sA:∀n,n<=rs.length->∃hs:List (Bool × SV),hs.length=n/\∀(i:Nat) (x:Bool × SV) (r:Rec),hs[i]?=some x->rs[i]?=some r->∃a,s.a=some a/\w.cell? ((a.add (i * 2)).add 0)=some (.bool x.1)/\w.cell? ((a.add (i * 2)).add 1)=some (slV x.2)/\x.1=r.gone/\RdV w x.2 r.v:=by
  intro n
  induction n with
  | zero=>exact λ_=>⟨[],rfl,λi x r hx=>by simp at hx⟩
  | succ n ih=>
   intro hn
   obtain⟨hs,h1,h2⟩:=ih (by omega)
   obtain⟨r,hr⟩:=zQM (l:=rs) (k:=n) (by omega)
   obtain⟨x,hx⟩:=key n r hr
   refine⟨hs ++ [x],by simp[h1],λi y r' hy hr'=>?_⟩
   rcases Nat.lt_trichotomy i n with hi|hi|hi
   ·rw[List.getElem?_append_left (by omega)]at hy;exact h2 i y r' hy hr'
   ·subst hi
    rw[List.getElem?_append_right (by omega),h1,Nat.sub_self]at hy
    simp at hy;subst hy
    rw[hr]at hr';cases hr'
    exact hx
   ·rw[List.getElem?_eq_none (by rw[List.length_append,h1,List.length_singleton];omega)]at hy;cases hy
 obtain⟨hs,h1,h2⟩:=sA rs.length (Nat.le_refl _)
 refine⟨hs,h.len,h1,λi x hx=>?_,λi x r hx hr=>?_⟩
 ·obtain⟨r,hr⟩:=zQM (l:=rs) (k:=i) (by have:=(List.getElem?_eq_some_iff.1 hx).1;omega)
  obtain⟨a,q1,q2,q3,_⟩:=h2 i x r hx hr
  exact⟨a,q1,q2,q3⟩
 ·obtain⟨a,_,_,_,q4,q5⟩:=h2 i x r hx hr
  exact⟨q4,q5⟩
theorem xJj {s:SV} {hs:List (Bool × SV)} {rs:List Rec} (h:RdR w s hs rs) (hb:rs.length<=1000000):Calls prog 98 #[slV s] w (zV8 w 67 2 (hs.flatMap yKk)):=by
 obtain⟨hl,qJ,h3,h4⟩:=h
 refine yYF s w _ (zJ3 vu33 vi67 rfl (by decide) s (by rw[zQ4 zQT,hl,qJ]) (zJ8 zQT (by decide) λi v hv=>?_) (λu hu=>?_) (by omega))
 ·obtain⟨a,ha,c0,c1⟩:=h3 i v hv
  refine⟨a,ha,λo u hu=>?_⟩
  rcases o with _|_|o <;> simp[yKk]at hu <;> subst hu <;> assumption
 ·obtain⟨y,_,hy⟩:=List.mem_flatMap.1 hu
  simp[yKk]at hy
  rcases hy with rfl|rfl <;> rfl
theorem xJi {s:SV} {l:List Int} (h:zQl w 3 1 s (l.map (Value.int .i64))) (hb:l.length<=1000000):Calls prog 74 #[slV s] w (zV8 w 3 1 (l.map (Value.int .i64))):=by
 have hl:=h.1
 rw[List.length_map,Nat.mul_one]at hl
 refine xQo s w _ (zJ3 vu52 vi3 rfl (by decide) s (by rw[List.length_map,Nat.mul_one,hl]) (λj u hu=>?_) (λu hu=>?_) (by omega))
 ·obtain⟨a,ha,hc,_⟩:=h.cell hu;exact⟨a,ha,hc⟩
 ·obtain⟨y,_,rfl⟩:=List.mem_map.1 hu;rfl
theorem xJC{s:SV}{l:List UInt8}(h:ByV w s l)(hb:l.length<=1000000000):Calls prog 110 #[slV s] w λe w'=>∃q:SV,e=.returned (slV q)/\zQh w w' q l/\Pu w w':=by
 have hl:=h.len
 refine(yVb s w (zV8 w 5 1 (l.map u8V)) (zJ3 vu22 vi5 rfl (by decide) s (by rw[List.length_map,Nat.mul_one,hl]) (λj u hu=>?_) (λu hu=>?_) (by omega))).mono λe w' ⟨q,h0,h1,h2,h3⟩=>⟨q,h0,⟨h1,h2⟩,h3⟩
 ·obtain⟨b,hb,rfl⟩:∃b,l[j]?=some b/\u8V b=u:=by simpa using hu
  obtain⟨a,ha,hc⟩:=h.get j b hb
  exact⟨a,ha,by rw[Nat.mul_one]at hc;exact hc⟩
 ·obtain⟨y,_,rfl⟩:=List.mem_map.1 hu;rfl
theorem zXG.cells{s q0 q1:SV}{F:Fls}(h:zXG w s q0 q1 F):∀(j:Nat) u,[slV q0,slV q1][j]?=some u->∃a,s.a=some a/\w.cell? (a.add j)=some u:=by
 obtain⟨a,h1,h2,h3⟩:=h.ex
 refine λj u hu=>⟨a,h1,?_⟩
 rcases j with _|_|j <;> simp at hu <;> subst hu <;> assumption
theorem xQn{s q0 q1:SV}{F:Fls}(h:zXG w s q0 q1 F):Calls prog 109 #[slV s] w (zV8 w 22 1 [slV q0,slV q1]):=by
 have hl:=h.len
 refine yVB s w _ (zJ3 vu82 vi22 rfl (by decide) s (by rw[hl];rfl) h.cells (λu hu=>?_) (by omega))
 simp at hu
 rcases hu with rfl|rfl <;> rfl
structure zKF(w0 w:World)(t:Tbl)(h:HT):Prop where
 tab:zJJ w t h
 f:zQl w 129 4 h.f (t.fields.flatMap zYl)
 fn:∀b ∈ zQe h.f,w0.heap.size<=b
 rn:∀b ∈ zQe h.r,w0.heap.size<=b
 vn:∀b ∈ vBl h.hs,w0.heap.size<=b
theorem zKF.fr{w0:World}{t:Tbl}{h:HT}{B:Nat->Prop}(ht:zKF w0 w t h)(hf:Fr B w w')(hn:∀b,w0.heap.size<=b->b<w.heap.size->¬B b):zKF w0 w' t h where
 tab:=ht.tab.fr hf λb hb=>hn b (hb.elim (ht.rn b) (ht.vn b)) (ht.tab.lt b hb)
 f:=ht.f.fr hf λb hb=>hn b (ht.fn b hb) (ht.f.lt b hb)
 fn:=ht.fn
 rn:=ht.rn
 vn:=ht.vn
theorem zKF.pu{w0:World}{t:Tbl}{h:HT}(ht:zKF w0 w t h)(hp:Pu w w'):zKF w0 w' t h:=ht.fr (Fr.pu hp:Fr (λ_=>False) w w') λ_ _ _ h=>h
theorem zKF.low{w0 w1:World}{t:Tbl}{h:HT}(ht:zKF w1 w t h)(hz:w0.heap.size<=w1.heap.size):zKF w0 w t h:=
 ⟨ht.tab,ht.f,λb hb=>Nat.le_trans hz (ht.fn b hb),λb hb=>Nat.le_trans hz (ht.rn b hb),λb hb=>Nat.le_trans hz (ht.vn b hb)⟩
theorem zWY {t:Tbl} {s:SV} (hv:zQf t=0) (ht:zQl w 129 4 s (t.fields.flatMap zYl)):zX3 w s t.fields:=by
 have ho:=zJg.of hv
 have iY:=ho.n16
 refine zKS.rd (w0:={ w with heap:=#[] }) ⟨ht,λ_ _=>Nat.zero_le _⟩ (by omega) λg hg=>?_
 have hg:=List.all_eq_true.1 ho.all g hg
 have h1:=yX9 hg
 have h2:=zXt hg
 exact⟨⟨by omega,by omega⟩,⟨by omega,by omega⟩⟩
theorem zKF.fields{w0:World}{t:Tbl}{h:HT}(ht:zKF w0 w t h)(hv:zQf t=0):zX3 w h.f t.fields:=zWY hv ht.f
theorem zKF.rd{w0:World}{t:Tbl}{h:HT}(ht:zKF w0 w t h)(hv:zQf t=0):zX2 w t h.f h.r:=ht.tab.rd (ht.fields hv) hv
theorem zY8(s:SV):(zQe s).Nodup:=by unfold zQe;split <;> simp
theorem zXy (a b:List (Bool × SV)):vBl (a ++ b)=vBl a ++ vBl b:=by unfold vBl;rw[List.flatMap_append]
theorem xX1 {hs:List (Bool × SV)} {k:Nat} {x:Bool × SV} (hk:k<hs.length):hs.set k x=hs.take k ++ x :: hs.drop (k+1):=by
 rw[List.set_eq_take_append_cons_drop,if_pos hk]
theorem RdR.pu {s:SV} {hs:List (Bool × SV)} {rs:List Rec} (h:RdR w s hs rs) (hp:Pu w w'):RdR w' s hs rs:=
 ⟨h.1,h.2.1,λi x hx=>let ⟨a,h1,h2,h3⟩:=h.2.2.1 i x hx;⟨a,h1,hp.cell h2,hp.cell h3⟩,λi x r hx hr=>⟨(h.2.2.2 i x r hx hr).1,(h.2.2.2 i x r hx hr).2.pu hp⟩⟩
theorem zJT{t:Tbl}{f r:SV}(h:zX2 w t f r)(hv:zQf t=0):Calls prog 56 #[zVb t f r] w λe w'=>∃q:HT,e=.returned (.agg #[.int .i64 q.page,slV q.f,slV q.r])/\zKF w w' t q/\Pu w w':=by
 have hR:=zQP.of hv
 have cM:=hR.n300
 have pr:=zZl hv
 have iY:=(zJg.of hv).n16
 obtain⟨hs,hrr⟩:=RdR.of h.recs
 have r2:=hrr.2.1
 refine xXo _ _ _ w _ (alB λw1 ar aB=>alB λw2 aq aM=>?_)
 have cP:=aq.blk aB
 have aG:=ar.trans aq
 refine⟨f,cl cP 1,(xJ9 (h.fields.pu aG) (by omega)).mono ?_⟩
 rintro e w3 ⟨q,rfl,hq,hqn,au⟩
 have kT:=au.blk cP
 have qq:=au.blk aM
 have l1:w.heap.size<w1.heap.size:=zQx aB
 have l2:w1.heap.size<w2.heap.size:=zQx aM
 have z3:=au.size
 refine⟨q,rfl,zQt kT (by show 1<3;omega) λw4 hw4 iB=>?_⟩
 have f34:Fr (·=w.heap.size) w3 w4:=by rw[hw4];exact Fr.cell w3 _ _ _
 have bQ:Pu w w4:=(aG.trans au).andNew f34 λi hi=>by rw[show i=_ from hi];exact Nat.le_refl _
 have tg:=f34.blk qq (show ¬w1.heap.size=w.heap.size by omega)
 have yC:=hq.fr f34 λb hb e=>by have:=hqn b hb;have e:b=w.heap.size:=e;omega
 refine⟨r,cl iB 2,(xJj (hrr.pu bQ) (by omega)).mono ?_⟩
 rintro e w5 ⟨s,rfl,oL,hsn,aR⟩
 have j5:=aR.blk iB
 have qQ:=aR.blk tg
 have z4:w4.heap.size=w3.heap.size:=by rw[hw4];simp
 have z5:=aR.size
 refine⟨s,rfl,zQt j5 (by show 2<3;omega) λw6 hw6 ke=>?_⟩
 have f56:Fr (·=w.heap.size) w5 w6:=by rw[hw6];exact Fr.cell w5 _ _ _
 have z6:w6.heap.size=w5.heap.size:=by rw[hw6];simp
 have eL:Pu w w6:=(bQ.trans aR).andNew f56 λi hi=>by rw[show i=_ from hi];exact Nat.le_refl _
 have qO:=f56.blk qQ (show ¬w1.heap.size=w.heap.size by omega)
 have yw:=oL.fr f56 λb hb e=>by have:=hsn b hb;have e:b=w.heap.size:=e;omega
 have tw:=(yC.pu aR).fr f56 λb hb e=>by have:=hqn b hb;have e:b=w.heap.size:=e;omega
 have hsl:=yw.len zQT (by decide)
 refine⟨s,cl ke 2,?_⟩
 rw[show((s.len:Nat):Int)=((t.recs.length:Nat):Int)by rw[hsl,r2]]
 -- the loop: so many rows of values are new
 refine zQw t.recs.length (λk j w'=>j=(k:Int)/\∃ns:List (Bool × SV),ns.length=k/\zQl w' 67 2 s ((ns ++ hs.drop k).flatMap yKk)/\w'.heap[w.heap.size]?=some (.cells #[.int .i64 t.page,slV q,slV s] 35)/\w'.heap[w1.heap.size]?=some (.cells #[.int .i64 0,.slice none 0 0,.slice none 0 0] 35)/\
   Pu w w'/\zQl w' 129 4 q (t.fields.flatMap zYl)/\w6.heap.size<=w'.heap.size/\(vBl ns).Nodup/\(∀b ∈ vBl ns,w6.heap.size<=b)/\∀(i:Nat) (x:Bool × SV) (r:Rec),ns[i]?=some x->t.recs[i]?=some r->x.1=r.gone/\zQl w' 73 3 x.2 (r.v.flatMap zVN))
  ⟨rfl,[],rfl,by simpa using yw,ke,qO,eL,tw,Nat.le_refl _,by simp[vBl],by simp[vBl],λi x r hx=>by simp at hx⟩ ?_
 rintro k J j wa hk ⟨hj,ns,n1,n2,n3,n4,n5,n6,n7,n8,n9,i6⟩ hJ
 obtain rfl:j=(k:Int):=hj
 have hsl:=n2.len zQT (by decide)
 rw[List.length_append,List.length_drop,n1,r2]at hsl
 refine Br.of (λc=>?_) (λc=>?_)
 ·have hkn:k<t.recs.length:=by have:=zQk c;omega
  obtain⟨x,hx⟩:=zQM (l:=hs) (k:=k) (by omega)
  obtain⟨rc,hrc⟩:=zQM hkn
  have hnx:(ns ++ hs.drop k)[k]?=some x:=by rw[List.getElem?_append_right (by omega),n1,Nat.sub_self,List.getElem?_drop,Nat.add_zero];exact hx
  obtain⟨e1,e2⟩:=hrr.2.2.2 k x rc hx hrc
  obtain⟨a,ha,_,c0⟩:=n2.elem zQT hnx (o:=0) rfl
  obtain⟨a',ha',_,c1⟩:=n2.elem zQT hnx (o:=1) rfl
  rw[ha]at ha';cases ha'
  refine⟨a,ha,by omega,by omega,x.1,by rw[zXj];exact c0,x.2,by rw[zXj];exact c1,?_⟩
  refine alB λwb hpb bb=>zQi bb yWN.symm rfl rfl λwc bc fc zc=>zQc λwd hpd hhd=>?_
  have hac:Pu wa wc:=hpb.andNew fc λi hi=>by rw[show i=_ from hi];exact Nat.le_refl _
  have had:=hac.trans hpd
  have bd:=hpd.blk bc
  have hr300:rc.v.length<=1000000:=(pr rc (List.mem_of_getElem? hrc)).2
  refine⟨λu=>Pu wd u,Pu.refl _,s,λu hu=>cl (hu.blk (had.blk n3)) 2,x.2,λu hu=>cl (hu.blk bd) 1,(yXI (e2.pu (n5.trans had)) hr300).mono ?_⟩
  rintro e we ⟨v,rfl,hv1,hv2,hpe⟩
  have hae:=had.trans hpe
  refine⟨v,rfl,hpe,a,ha,by omega,by omega,?_⟩
  obtain⟨a2,tQ,hst⟩:∃a2,s.a=some a2/\Sh.st1 ((a2.add (k * 2)).add 1) (slV v) we λw'=>J (IntKind.i64.wrap ((k:Int)+1)) w':=by
   refine zQl.stField (n2.pu hae) zQT (i:=k) (o:=1) (by rw[List.length_append,List.length_drop,n1];omega) (by decide) (x.1,v) (slV v) (λy hy=>by rw[hnx]at hy;cases hy;rfl) λwf hwf ff zf=>?_
   rw[zQa (by omega) (by omega)]
   have hne:∀{b:Nat} {c:Array Value} {e:TypeId},we.heap[b]?=some (.cells c e)->e ≠ 67->¬b ∈ zQe s:=λhb he=>(n2.pu hae).other hb (Ne.symm he)
   have zae:=hae.size
   have hslo:∀b ∈ zQe s,w4.heap.size<=b:=hsn
   have hshi:∀b ∈ zQe s,b<w6.heap.size:=yw.lt
   refine hJ _ _ hkn ⟨by omega,ns ++ [(x.1,v)],by simp[n1],?_,ff.blk (hae.blk n3) (hne (hae.blk n3) (by decide)),ff.blk (hae.blk n4) (hne (hae.blk n4) (by decide)),(n5.trans hae).andNew ff λb hb=>by have:=hslo b hb;omega,(n6.pu hae).fr ff (λb hb aM=>zQq (n6.pu hae) (n2.pu hae) (by decide) b hb aM),by omega,?_,?_,?_⟩
   ·have e:(ns ++ hs.drop k).set k (x.1,v)=ns ++ [(x.1,v)] ++ hs.drop (k+1):=by
     rw[List.set_append,if_neg (by omega),n1,Nat.sub_self,zXU hx,List.set_cons_zero,List.append_assoc];rfl
    rw[←e];exact hwf
   ·rw[zXy]
    refine List.nodup_append.2 ⟨n8,by simp[vBl,zY8],λb hb c hc e=>?_⟩
    subst e
    have hc:b ∈ zQe v:=by simpa[vBl] using hc
    have h1:=hv2 b hc
    obtain⟨y,hy,hyb⟩:=List.mem_flatMap.1 hb
    obtain⟨i,hi⟩:=List.getElem?_of_mem hy
    obtain⟨ry,hry⟩:=zQM (l:=t.recs) (k:=i) (by have:=(List.getElem?_eq_some_iff.1 hi).1;omega)
    have h2:=(i6 i y ry hi hry).2.lt b hyb
    have:=had.size
    omega
   ·intro b hb
    rw[zXy,List.mem_append]at hb
    rcases hb with hb|hb
    ·exact n9 b hb
    ·have hb:b ∈ zQe v:=by simpa[vBl] using hb
     have h1:=hv2 b hb
     have:=had.size
     omega
   ·intro i y ry hy hry
    rcases Nat.lt_trichotomy i k with hi|hi|hi
    ·rw[List.getElem?_append_left (by omega)]at hy
     obtain⟨q1,q2⟩:=i6 i y ry hy hry
     exact⟨q1,(q2.pu hae).fr ff (zQq (q2.pu hae) (n2.pu hae) (by decide))⟩
    ·subst hi
     rw[List.getElem?_append_right (by omega),n1,Nat.sub_self]at hy
     simp at hy;subst hy
     rw[hrc]at hry;cases hry
     exact⟨e1,hv1.fr ff (zQq hv1 (n2.pu hae) (by decide))⟩
    ·rw[List.getElem?_eq_none (by rw[List.length_append,n1,List.length_singleton];omega)]at hy;cases hy
  rw[ha]at tQ;cases tQ
  rw[zXj];exact hst
 ·have hkn:k=t.recs.length:=by have:=zQd c;omega
  subst hkn
  refine⟨_,cl n3 0,q,cl n3 1,s,cl n3 2,zQi n4 zKW.symm rfl rfl λwz bz fz zz=>⟨_,cl bz 0,q,cl bz 1,s,cl bz 2,⟨t.page,q,s,ns⟩,rfl,?_,n5.andNew fz λi hi=>by rw[show i=_ from hi];omega⟩⟩
  rw[←r2,List.drop_length,List.append_nil]at n2
  have nz:∀b,w2.heap.size<=b->b ≠ w1.heap.size:=λb hb e=>by omega
  refine⟨⟨rfl,n2.fr fz λb hb=>nz b (by have:=hsn b hb;omega),n1,λi x r hx hr=>⟨(i6 i x r hx hr).1,(i6 i x r hx hr).2.fr fz λb hb=>nz b (by have:=n9 b (zVp (List.mem_of_getElem? hx) hb);omega)⟩,n8⟩,n6.fr fz λb hb=>nz b (hqn b hb),λb hb=>by have:=hqn b hb;omega,λb hb=>by have:=hsn b hb;omega,λb hb=>by have:=n9 b hb;omega⟩
end Go.Proofs.YtaeecpjhfmcliaaGreatDoor
/- The log: numbers, sums and records as the program writes and reads them. No condition but those stated. -/
namespace Go.Proofs.YtaeecpjhfmcliaaGreatDoor
open Go.Sh Go.RowKit Tryz
variable {w w' : World}
theorem zWO:∀(k n:Nat),zJh n k=zVS n k
 | 0,_=>rfl
 | k+1,n=>by
  rw[zJh,zWO k]
  unfold zVS
  rw[List.range_succ_eq_map,List.map_cons,List.map_map]
  congr 1
  ·rw[Nat.pow_zero,Nat.div_one]
  ·refine List.map_congr_left λj _=>?_
   show UInt8.ofNat (n / 256 / 256 ^ j % 256)=UInt8.ofNat (n / 256 ^ (j+1) % 256)
   rw[Nat.div_div_eq_div_mul,Nat.pow_succ,Nat.mul_comm 256]
theorem xZw(n k:Nat):zJh n (k+1)=zJh n k ++ [UInt8.ofNat (n / 256 ^ k % 256)]:=by rw[zWO,zWO,yXQ]
theorem yKl(j:Nat):256 ^ j=2 ^ (8 * j):=by rw[Nat.pow_mul]
theorem yK4(n k:Nat)(hk:k<=7)(hn:n<=1000000000000000)(w:World):Calls prog 143 #[.int .i64 (n:Int),.int .i64 (k:Int)] w λe w'=>∃q:SV,e=.returned (slV q)/\zQh w w' q (zJh n k)/\Pu w w':=by
 obtain⟨i,h2,h3,h4,h5⟩:=info_parts vi5
 obtain⟨w1,hr,hrow,ar,hz1⟩:=zYg (P:=prog) (w:=w) vu22 h2 h3 h4 .i64 .i64 k (by rw[h5];omega) (by omega)
 refine yVS _ _ w _ ⟨⟨some ⟨w.heap.size,0,none⟩,k,k⟩,w1,hr,?_⟩
 have hz:((madeCells (Value.int .u8 0).cells (k * 1)).toList)=(List.replicate k (0:UInt8)).map u8V:=by
  rw[show(Value.int IntKind.u8 0).cells=#[.int .u8 0]from rfl,toList_madeCells_one,Nat.mul_one,List.map_replicate]
  rfl
 rw[hz]at hrow
 refine zQw k (λj t w'=>t=(j:Int)/\zQl w' 5 1 ⟨some ⟨w.heap.size,0,none⟩,k,k⟩ ((zJh n j ++ List.replicate (k - j) 0).map u8V)/\Pu w w') ⟨rfl,by simpa[zJh] using hrow,ar⟩ ?_
 rintro j J t w2 hj ⟨ht,h6,aq⟩ hJ
 obtain rfl:t=(j:Int):=ht
 refine Br.of (λc=>?_) (λc=>?_)
 ·have hjk:j<k:=by have:=zQk c;dsimp only at this;omega
  rw[zQa (n:=8 * (j:Int)) (by omega) (by omega)]
  obtain⟨a,ha,hst⟩:=h6.st1 (j:=j) (by rw[List.length_map,List.length_append,zQ7,List.length_replicate];omega) (.int .u8 (IntKind.u8.wrap ((n:Int).fdiv (2 ^ (min (8 * (j:Int)).toNat 64))))) (K:=λw3=>J (IntKind.i64.wrap ((j:Int)+1)) w3) λw3 h7 hf hs=>by
   rw[zQa (by omega) (by omega)]
   refine hJ _ _ hjk ⟨rfl,?_,aq.andNew hf λb hb=>by simp[zQe]at hb;omega⟩
   have e:(.int .u8 (IntKind.u8.wrap ((n:Int).fdiv (2 ^ (min (8 * (j:Int)).toNat 64)))):Value)=u8V (UInt8.ofNat (n / 256 ^ j % 256)):=by
    rw[zJ2]
    congr 1
    rw[←zYZ]
    congr 1
    rw[show(min (8 * (j:Int)).toNat 64)=8 * j by omega,Int.fdiv_eq_ediv_of_nonneg _ (by exact_mod_cast Nat.zero_le _),yKl]
    norm_cast
   rw[e]at h7
   have e2:((zJh n j ++ List.replicate (k - j) 0).map u8V).set j (u8V (UInt8.ofNat (n / 256 ^ j % 256)))=(zJh n (j+1) ++ List.replicate (k - (j+1)) 0).map u8V:=by
    rw[←List.map_set]
    congr 1
    rw[List.set_append,if_neg (by rw[zQ7];omega),zQ7,Nat.sub_self,show k - j=(k - (j+1))+1 by omega,List.replicate_succ,List.set_cons_zero,xZw,List.append_assoc]
    rfl
   rw[←e2];exact h7
  refine⟨by omega,a,ha,by omega,by show(j:Int)<((k:Nat):Int);omega,?_⟩
  rw[zXj,Nat.mul_one]
  exact hst
 ·have hjk:j=k:=by have:=zQd c;dsimp only at this;omega
  subst hjk
  rw[Nat.sub_self,List.replicate_zero,List.append_nil]at h6
  exact⟨_,rfl,⟨h6,λb hb=>by simp[zQe]at hb;omega⟩,aq⟩
theorem zVf:∀{d:List UInt8} {j:Nat} {b:UInt8},d[j]?=some b->zQY (d.take (j+1))=zQY (d.take j)+b.toNat * 256 ^ j
 | [],j,b,h=>by simp at h
 | c :: d,0,b,h=>by simp at h;subst h;simp[zQY]
 | c :: d,j+1,b,h=>by
  have h:d[j]?=some b:=by simpa using h
  rw[List.take_succ_cons,List.take_succ_cons,zQY,zQY,zVf h,Nat.pow_succ,Nat.mul_add,Nat.add_assoc]
  congr 2
  rw[Nat.mul_comm 256,Nat.mul_assoc]
theorem yXi:∀d:List UInt8,zQY d<256 ^ d.length
 | []=>by simp[zQY]
 | c :: d=>by
  have h1:=yXi d
  have h2:=c.toNat_lt
  rw[zQY,List.length_cons,Nat.pow_succ]
  omega
theorem xYV{a b j:Nat}(ha:a<2 ^ j):a ||| (b * 2 ^ j)=a+b * 2 ^ j:=by
 rw[Nat.or_comm,←Nat.shiftLeft_eq,←Nat.shiftLeft_add_eq_or_of_lt ha,Nat.add_comm]
theorem kQi(b:UInt8):b.toNat<256:=b.toNat_lt
theorem yXK{s:SV}{d:List UInt8}(h:ByV w s d)(hd:d.length<=7):Calls prog 126 #[slV s] w λe w'=>e=.returned (.int .i64 (zQY d:Nat))/\Pu w w':=by
 have hl:=h.len
 refine yVs _ w _ ?_
 refine zQw d.length (λj t w'=>t.2=(j:Int)/\t.1=((zQY (d.take j):Nat):Int)/\Pu w w') ⟨rfl,rfl,Pu.refl _⟩ ?_
 rintro j J ⟨t1,t2⟩ w2 hj ⟨h2,h1,hp⟩ hJ
 obtain rfl:t2=(j:Int):=h2
 obtain rfl:t1=((zQY (d.take j):Nat):Int):=h1
 dsimp only
 refine Br.of (λc=>?_) (λc=>?_)
 ·have hjk:j<d.length:=by have:=zQk c;omega
  obtain⟨b,hb⟩:=zQM hjk
  obtain⟨a,ha,hc⟩:=(h.pu hp).get j b hb
  have hB:=kQi b
  have hlt:=yXi (d.take j)
  rw[List.length_take,Nat.min_eq_left (by omega),yKl]at hlt
  have cv:(2:Nat) ^ (8 * j)<=2 ^ 48:=Nat.pow_le_pow_right (by decide) (by omega)
  have hmul:b.toNat * 2 ^ (8 * j)<=255 * 2 ^ 48:=Nat.mul_le_mul (by omega) cv
  refine⟨a,ha,by omega,by omega,_,by rw[zXj];exact hc,?_⟩
  rw[zQa (n:=8 * (j:Int)) (by omega) (by omega)]
  refine⟨by omega,?_⟩
  have e0:(min (8 * (j:Int)).toNat 64)=8 * j:=by omega
  have e1:IntKind.i64.wrap (IntKind.i64.wrap ((b.toNat:Nat):Int) * 2 ^ (8 * j))=((b.toNat * 2 ^ (8 * j):Nat):Int):=by
   rw[zQa (n:=((b.toNat:Nat):Int)) (by omega) (by omega),show((b.toNat:Nat):Int) * 2 ^ (8 * j)=((b.toNat * 2 ^ (8 * j):Nat):Int)by norm_cast]
   exact zQa (by omega) (by omega)
  have e2:(BitVec.ofInt 64 ((zQY (d.take j):Nat):Int) ||| BitVec.ofInt 64 ((b.toNat * 2 ^ (8 * j):Nat):Int)).toNat=zQY (d.take (j+1)):=by
   rw[BitVec.toNat_or,BitVec.toNat_ofInt,BitVec.toNat_ofInt]
   have m1:(((zQY (d.take j):Nat):Int) % ((2 ^ 64:Nat):Int)).toNat=zQY (d.take j):=by
    rw[Int.emod_eq_of_lt (by omega) (by have p48:(2:Nat) ^ 48=281474976710656:=(by decide);have p64:(2:Nat) ^ 64=18446744073709551616:=(by decide);omega)]
    rfl
   have m2:(((b.toNat * 2 ^ (8 * j):Nat):Int) % ((2 ^ 64:Nat):Int)).toNat=b.toNat * 2 ^ (8 * j):=by
    rw[Int.emod_eq_of_lt (by omega) (by have p48:(2:Nat) ^ 48=281474976710656:=(by decide);have p64:(2:Nat) ^ 64=18446744073709551616:=(by decide);omega)]
    rfl
   rw[m1,m2,xYV hlt,zVf hb,yKl]
  rw[e0,e1,e2]
  have hfin:zQY (d.take (j+1))<=2 ^ 48+255 * 2 ^ 48:=by rw[zVf hb,yKl];omega
  rw[zQa (by omega) (by have p48:(2:Nat) ^ 48=281474976710656:=(by decide);omega),zQa (by omega) (by omega)]
  exact hJ _ _ hjk ⟨rfl,rfl,hp⟩
 ·have hjk:j=d.length:=by have:=zQd c;omega
  subst hjk
  refine⟨?_,hp⟩
  rw[List.take_length]
theorem xXC(l:List UInt8)(c:UInt8):yX4 (l ++ [c])=yWO (yX4 l) c:=by
 unfold yX4;rw[List.foldl_append,List.foldl_cons,List.foldl_nil]
theorem xQ6{m:Nat}(h:m<2 ^ 32):(BitVec.ofInt 32 (m:Int)).toNat=m:=by
 rw[BitVec.toNat_ofInt,Int.emod_eq_of_lt (by omega) (by exact_mod_cast h)];rfl
theorem step32(n:Nat)(b:UInt8):IntKind.u32.wrap ((BitVec.ofInt 32 (IntKind.u32.wrap ((n:Int) * 16777619)) ^^^ BitVec.ofInt 32 (IntKind.u32.wrap ((b.toNat:Nat):Int))).toNat:Nat)=((yWO n b:Nat):Int):=by
 unfold yWO
 have hc:=kQi b
 generalize b.toNat=c at hc ⊢
 have e1:IntKind.u32.wrap ((n:Int) * 16777619)=((n * 16777619 % 4294967296:Nat):Int):=by rw[IntKind.wrap_u32];omega
 have e2:IntKind.u32.wrap (c:Int)=(c:Int):=by rw[IntKind.wrap_u32];omega
 have hm:n * 16777619 % 4294967296<4294967296:=Nat.mod_lt _ (by decide)
 rw[e1,e2]
 generalize n * 16777619 % 4294967296=m at hm ⊢
 have p32:(2:Nat) ^ 32=4294967296:=by decide
 rw[BitVec.toNat_xor,xQ6 (by omega),xQ6 (by omega)]
 have hx:m ^^^ c<2 ^ 32:=Nat.xor_lt_two_pow (by omega) (by omega)
 generalize m ^^^ c=y at hx ⊢
 rw[IntKind.wrap_u32]
 omega
theorem sum_c{s:SV}{d:List UInt8}(h:ByV w s d):Calls prog 127 #[slV s] w λe w'=>e=.returned (.int .i64 (yX4 d:Nat))/\Pu w w':=by
 have hl:=h.len
 have hlim:=h.lim
 refine yVR _ w _ ?_
 refine zQw d.length (λj t w'=>t.2=(j:Int)/\t.1=((yX4 (d.take j):Nat):Int)/\Pu w w') ⟨rfl,rfl,Pu.refl _⟩ ?_
 rintro j J ⟨t1,t2⟩ w2 hj ⟨h2,h1,hp⟩ hJ
 obtain rfl:t2=(j:Int):=h2
 obtain rfl:t1=((yX4 (d.take j):Nat):Int):=h1
 dsimp only
 have hlt:=yJb (d.take j)
 refine Br.of (λc=>?_) (λc=>?_)
 ·have hjk:j<d.length:=by have:=zQk c;omega
  obtain⟨b,hb⟩:=zQM hjk
  obtain⟨a,ha,hc⟩:=(h.pu hp).get j b hb
  have hB:=kQi b
  refine⟨a,ha,by omega,by omega,_,by rw[zXj];exact hc,?_⟩
  rw[step32,zQa (by omega) (by omega)]
  exact hJ _ _ hjk ⟨rfl,by rw[zQD hb,xXC],hp⟩
 ·have hjk:j=d.length:=by have:=zQd c;omega
  subst hjk
  rw[List.take_length]at hlt ⊢
  generalize yX4 d=x at hlt ⊢
  refine⟨?_,hp⟩
  rw[zQa (by omega) (by omega)]
end Go.Proofs.YtaeecpjhfmcliaaGreatDoor
/- The log: records are made and taken off; writes are done; files are copied. No condition but those stated. -/
namespace Go.Proofs.YtaeecpjhfmcliaaGreatDoor
open Go.Sh Go.RowKit Tryz
variable {w w' : World}
def NextR(w:World)(s:SV)(d:List UInt8):Rt:=λe w'=>Pu w w'/\∃(k:Int) (q1 q2:SV) (b:Bool),e=.returned (.tuple #[.int .u8 k,slV q1,slV q2,.bool b])/\
 ((b=false/\zZH d=none)∨b=true/\∃kk body more,zZH d=some (kk,body,more)/\k=((kk.toNat:Nat):Int)/\∀wv,ByV wv s d->ByV wv q1 body/\ByV wv q2 more)
theorem ByV.rest{s:SV}{d:List UInt8}(h:ByV w s d){lo:Nat}(hlo:lo<=d.length):ByV w ⟨if s.cap=lo then s.a else s.a.map (λx=>x.add (lo * 1)),s.len - lo,s.cap - lo⟩ (d.drop lo):=by
 have hl:=h.len
 have h1:=h.sub (lo:=lo) (hi:=d.length) hlo (Nat.le_refl _)
 rw[←hl,List.take_of_length_le (by rw[List.length_drop];omega)]at h1
 exact h1
theorem next_c{s:SV}{d:List UInt8}(h:ByV w s d)(hd:d.length<=1000000000):Calls prog 88 #[slV s] w (NextR w s d):=by
 have hl:=h.len
 have hc:=h.cap
 refine xQB _ w _ (Br.of (λc=>?_) (λc=>?_))
 ·have c:=zQk c
  exact⟨Pu.refl _,0,⟨none,0,0⟩,⟨none,0,0⟩,false,rfl,.inl ⟨rfl,by unfold zZH;rw[if_pos (by omega)]⟩⟩
 have c:=zQd c
 refine⟨by omega,by show 5<=s.cap;omega,by omega,by decide,?_⟩
 have sU:=h.sub (lo:=1) (hi:=5) (by omega) (by omega)
 refine(yXK sU (by rw[List.length_take];omega)).mono ?_
 rintro e w2 ⟨rfl,aq⟩
 refine⟨_,rfl,zQc λw3 au _=>?_⟩
 obtain⟨n,en⟩:∃n,n=zQY ((d.drop 1).take (5 - 1)):=⟨_,rfl⟩
 rw[←en]
 have hn:n<4294967296:=by
  have:=yXi ((d.drop 1).take (5 - 1))
  rw[←en,List.length_take,List.length_drop,Nat.min_eq_left (by omega)]at this
  exact this
 have aU:=aq.trans au
 rw[zQa (n:=((s.len:Nat):Int) - 5) (by omega) (by omega),zQa (n:=((s.len:Nat):Int) - 5 - 4) (by omega) (by omega)]
 refine Br.of (λc1=>?_) (λc1=>?_)
 ·have c1:=zQk c1
  exact⟨aU,0,⟨none,0,0⟩,⟨none,0,0⟩,false,rfl,.inl ⟨rfl,by unfold zZH;rw[if_neg (by omega),if_pos (by show d.length<zQY ((d.drop 1).take (5 - 1))+9;rw[←en];omega)]⟩⟩
 have c1:=zQd c1
 rw[zQa (n:=(5:Int)+(n:Int)) (by omega) (by omega),zQa (n:=(5:Int)+(n:Int)+4) (by omega) (by omega)]
 have t1:((5:Int)+(n:Int)).toNat=5+n:=by omega
 have t2:((5:Int)+(n:Int)+4).toNat=9+n:=by omega
 rw[t1,t2]
 have sL:=(h.pu aU).sub (lo:=5+n) (hi:=9+n) (by omega) (by omega)
 refine⟨by omega,by omega,by omega,by omega,by omega,by omega,by omega,(yXK sL (by rw[List.length_take];omega)).mono ?_⟩
 rintro e w5 ⟨rfl,aR⟩
 have cI:=aU.trans aR
 have qU:=(h.pu cI).sub (lo:=0) (hi:=5+n) (by omega) (by omega)
 refine⟨_,rfl,(sum_c qU).mono ?_⟩
 rintro e w6 ⟨rfl,bB⟩
 have eL:=cI.trans bB
 rw[List.drop_zero,Nat.sub_zero,show 9+n - (5+n)=4 by omega]
 refine⟨_,rfl,Br.of (λc2=>?_) (λc2=>zQc λw8 bP _=>?_)⟩
 ·have c2:¬zQY ((d.drop (5+n)).take 4)=yX4 (d.take (5+n)):=λe=>zQ2 c2 (by rw[e])
  exact⟨eL,0,⟨none,0,0⟩,⟨none,0,0⟩,false,rfl,.inl ⟨rfl,by
   unfold zZH
   rw[show(d.drop 1).take 4=(d.drop 1).take (5 - 1)from rfl,←en,if_neg (by omega),if_neg (by omega),if_pos c2]⟩⟩
 ·have c2:zQY ((d.drop (5+n)).take 4)=yX4 (d.take (5+n)):=by have:=zQs c2;omega
  have h8:=h.pu (eL.trans bP)
  obtain⟨b0,e0⟩:=zQM (l:=d) (k:=0) (by omega)
  obtain⟨a,ha,hc0⟩:=h8.get 0 b0 e0
  refine⟨a,ha,by omega,by omega,_,hc0,by omega,by omega,by omega,by show 5<=5+n;omega,hc,by omega,by omega,eL.trans bP,_,⟨_,_,_⟩,⟨_,_,_⟩,true,rfl,.inr ⟨rfl,b0,(d.drop 5).take n,d.drop (9+n),?_,rfl,λwv hv=>⟨?_,hv.rest (lo:=9+n) (by omega)⟩⟩⟩
  ·unfold zZH
   rw[show(d.drop 1).take 4=(d.drop 1).take (5 - 1)from rfl,←en,if_neg (by omega),if_neg (by omega),if_neg (by rw[c2];simp)]
   have:d.headD 0=b0:=by cases d with
    | nil=>simp at e0
    | cons x d=>simpa using e0
   rw[this]
  ·have aB:=hv.sub (lo:=5) (hi:=5+n) (by omega) (by omega)
   rw[show 5+n - 5=n by omega]at aB
   rw[show((5:Int)).toNat=5 from rfl,show 5+n - 5=n by omega]
   exact aB
theorem zYH {w0:World} {s m:SV} {l:List UInt8} {g:Nat} (h:zQh w0 w s l) (hg:s.a=some ⟨g,0,none⟩) {lo n c:Nat} {src:List UInt8} (hm:ByV w m src) (hne:src ≠ []) (hn:src.length=n) (hfit:lo+n<=l.length) :
  ∃w',(Builtin.copy_ #[22,22] 3 #[.slice (some ⟨g,lo,none⟩) n c,slV m]).run prog w=.ok (.int .i64 (n:Nat)) w'/\zQh w0 w' s (l.take lo ++ src ++ l.drop (lo+n))/\Fr (· ∈ zQe s) w w':=by
 have hl:=h.len
 have hml:=hm.len
 have hsz:(prog.info? 5).map (·.size)=some 1:=by
  have:=vi5
  simp only[Option.map_eq_some_iff]at *
  obtain⟨i,h1,h2⟩:=this
  exact⟨i,h1,by simp at h2;exact h2.2.1⟩
 obtain⟨hrow,hnew⟩:=h
 obtain⟨h1,hd|⟨g',cur,h3,h4,h5,h6,h7,h8⟩⟩:=hrow
 ·rw[hd]at hg;cases hg
 rw[hg]at h3
 obtain rfl:g=g':=by simpa using h3
 obtain⟨b0,tP⟩:=zQM (l:=src) (k:=0) (List.length_pos_iff.2 hne)
 obtain⟨a,ha,_⟩:=hm.get 0 b0 tP
 have hr:=run_copy_row prog (ty:=3) w 22 22 5 g lo n c a m.len m.cap cur 5 (src.map u8V) vu22 hsz h4 (by rw[List.length_map,hn,hml,hn];exact(Nat.min_self n).symm) (λj v hv=>by
  obtain⟨b,hb,rfl⟩:∃b,src[j]?=some b/\u8V b=v:=by simpa using hv
  obtain⟨a',e,hc⟩:=hm.get j b hb
  rw[ha]at e;cases e
  rw[Nat.mul_one]at hc
  exact hc) (by rw[List.length_map,hn,h7];omega) (λv hv=>by obtain⟨b,_,rfl⟩:=List.mem_map.1 hv;rfl)
 rw[List.length_map,hn]at hr
 rw[Nat.mul_one]at h8
 refine⟨_,by show(Builtin.copy_ #[22,22] 3 #[.slice (some ⟨g,lo,none⟩) n c,.slice m.a m.len m.cap]).run prog w=_;rw[ha];exact hr,⟨⟨?_,.inr ⟨g,_,hg,setRow_heap w g cur _ 5 (0,0) h4,h5,h6,?_,?_⟩⟩,hnew⟩,⟨rfl,rfl,rfl,by simp,λk _ hk=>setRow_other w g k _ (λe=>hk (by simp[zQe,hg,e]))⟩⟩
 ·simp;omega
 ·simp;omega
 ·have hll:l.length<=cur.size:=by rw[h7];omega
  rw[Nat.mul_one]
  simp only[List.map_append,List.map_take,List.map_drop,←h8]
  have e1:cur.toList=cur.toList.take s.len ++ cur.toList.drop s.len:=(List.take_append_drop _ _).symm
  apply List.ext_getElem?
  intro j
  have hcl:cur.toList.length=cur.size:=by simp
  simp only[List.getElem?_take,List.getElem?_append,List.length_append,List.length_take,List.length_map,List.getElem?_drop,hcl,hn]
  by_cases hj:j<s.len
  ·rw[if_pos hj]
   by_cases h0:j<lo
   ·rw[if_pos (by omega),if_pos (by omega),if_pos h0,if_pos (by omega),if_pos (by omega),if_pos h0,if_pos hj]
   ·by_cases h2:j<lo+n
    ·rw[if_pos (by omega),if_neg (by omega),if_pos (by omega),if_neg (by omega)]
     congr 1;omega
    ·rw[if_neg (by omega),if_neg (by omega),if_pos (by omega)]
     congr 1;omega
  ·rw[if_neg hj,if_neg (by omega),if_neg (by omega)]
theorem yQ3(n:Nat)(hn:n<=1000000000)(w:World):∃w',(Instr.makeSlice 22 (.int .i64 (n:Int)) (.int .i64 (n:Int))).run prog w=.ok (slV ⟨some ⟨w.heap.size,0,none⟩,n,n⟩) w'/\zQh w w' ⟨some ⟨w.heap.size,0,none⟩,n,n⟩ (List.replicate n 0)/\Pu w w':=by
 obtain⟨i,h2,h3,h4,h5⟩:=info_parts vi5
 obtain⟨w1,hr,hrow,ar,hz1⟩:=zYg (P:=prog) (w:=w) vu22 h2 h3 h4 .i64 .i64 n (by rw[h5];omega) (by omega)
 refine⟨w1,hr,⟨?_,λb hb=>by simp[zQe]at hb;omega⟩,ar⟩
 rw[show(Value.int IntKind.u8 0).cells=#[.int .u8 0]from rfl,toList_madeCells_one,Nat.mul_one]at hrow
 rw[List.map_replicate]
 exact hrow
theorem zQh.st1 {w0:World} {s:SV} {l:List UInt8} (h:zQh w0 w s l) {j:Nat} (hj:j<l.length) (b:UInt8) {K:World->Prop} (hK:∀w',zQh w0 w' s (l.set j b)->Fr (· ∈ zQe s) w w'->w'.heap.size=w.heap.size->K w') :
  ∃a,s.a=some a/\Sh.st1 (a.add (j * 1)) (u8V b) w K:=by
 obtain⟨a,ha,hst⟩:=h.1.st1 (j:=j) (by rw[List.length_map];exact hj) (u8V b) (K:=K) λw' h1 hf hs=>hK w' ⟨by rw[List.map_set];exact h1,h.2⟩ hf hs
 exact⟨a,ha,by rw[Nat.mul_one];exact hst⟩
theorem zQh.st1G {w0:World} {s:SV} {l:List UInt8} (h:zQh w0 w s l) {i:Int} {j:Nat} (hi:i=(j:Int)) (hj:j<l.length) (b:UInt8) {K:World->Prop} (hK:∀w',zQh w0 w' s (l.set j b)->Fr (· ∈ zQe s) w w'->w'.heap.size=w.heap.size->K w') :
  ∃a,s.a=some a/\0<=i/\i<((s.len:Nat):Int)/\Sh.st1 (a.add (i.toNat * 1)) (u8V b) w K:=by
 obtain⟨a,ha,hst⟩:=h.st1 hj b hK
 have hl:=h.len
 subst hi
 exact⟨a,ha,by omega,by omega,by rw[zXj];exact hst⟩
theorem yKa (kind:UInt8) {s:SV} {body:List UInt8} (h:ByV w s body) (hne:body ≠ []) (hb:body.length<=1000000):Calls prog 111 #[u8V kind,slV s] w λe w'=>∃q:SV,e=.returned (slV q)/\zQh w w' q (zZY kind body)/\Pu w w':=by
 have hl:=h.len
 have hpos:=List.length_pos_iff.2 hne
 obtain⟨w1,hr1,n1,ar⟩:=yQ3 (5+body.length) (by omega) w
 refine yVM _ _ w _ ⟨⟨some ⟨w.heap.size,0,none⟩,5+body.length,5+body.length⟩,w1,?_,?_⟩
 ·rw[hl,zQa (by omega) (by omega),show(5:Int)+((body.length:Nat):Int)=((5+body.length:Nat):Int)by omega];exact hr1
 refine n1.st1G (j:=0) rfl (by rw[List.length_replicate];omega) kind λw3 n3 fT hz3=>zQc λw4 aK _=>?_
 ·have hB:∀b ∈ zQe (⟨some ⟨w.heap.size,0,none⟩,5+body.length,5+body.length⟩:SV),w.heap.size<=b:=n1.2
  have au:Pu w w3:=ar.andNew fT hB
  have bQ:=au.trans aK
  refine⟨by omega,by show 5<=5+body.length;omega,by omega,by decide,?_⟩
  rw[show((s.len:Nat):Int)=((body.length:Nat):Int)by omega]
  refine(yK4 body.length 4 (by omega) (by omega) w4).mono ?_
  rintro e w5 ⟨q5,rfl,n5,aR⟩
  have m5:=(n3.pu aK).pu aR
  have l0:((List.replicate (5+body.length) (0:UInt8)).set 0 kind).length=5+body.length:=by simp
  obtain⟨w6,hr6,n6,iJ⟩:=zYH (lo:=1) (n:=4) (c:=5+body.length - 1) m5 rfl (n5.by (by rw[zQ7];omega)) (λe=>by have:=congrArg List.length e;rw[zQ7]at this;simp at this) (zQ7 _ _) (by rw[l0];omega)
  have eL:Pu w w6:=(bQ.trans aR).andNew iJ hB
  refine⟨q5,rfl,((4:Nat):Int),w6,?_,Nat.le_refl _,by omega,by show 5<=5+body.length;omega,?_⟩
  ·rw[if_neg (by show ¬5+body.length=1;omega)];exact hr6
  obtain⟨w7,qh,n7,ki⟩:=zYH (lo:=5) (n:=body.length) (c:=5+body.length - 5) n6 rfl (h.pu eL) hne rfl (by simp[zQ7];omega)
  have gm:Pu w w7:=eL.andNew ki hB
  refine⟨((body.length:Nat):Int),w7,?_,?_⟩
  ·rw[if_neg (by show ¬5+body.length=5;omega),show 5+body.length - (5:Int).toNat=body.length by show 5+body.length - 5=_;omega]
   rw[show 5+body.length - 5=body.length by omega]at qh
   exact qh
  have hrow:((List.replicate (5+body.length) (0:UInt8)).set 0 kind).take 1=[kind]:=by
   rw[show 5+body.length=(4+body.length)+1 by omega,List.replicate_succ,List.set_cons_zero];rfl
  have hrow7:((((List.replicate (5+body.length) (0:UInt8)).set 0 kind).take 1 ++ zJh body.length 4 ++ ((List.replicate (5+body.length) (0:UInt8)).set 0 kind).drop (1+4)).take 5 ++ body ++ (((List.replicate (5+body.length) (0:UInt8)).set 0 kind).take 1 ++ zJh body.length 4 ++ ((List.replicate (5+body.length) (0:UInt8)).set 0 kind).drop (1+4)).drop (5+body.length))=zKk kind body:=by
   have h5:([kind] ++ zJh body.length 4).length=5:=by simp[zQ7]
   rw[hrow,List.take_append_of_le_length (by omega),List.take_of_length_le (by omega),List.drop_eq_nil_of_le (by simp[zQ7];omega),List.append_nil]
   unfold zKk;simp
  rw[hrow7]at n7
  have hhl:=zWQ kind body
  refine(sum_c (s:=⟨some ⟨w.heap.size,0,none⟩,5+body.length,5+body.length⟩) (n7.by (by omega))).mono ?_
  rintro e w8 ⟨rfl,bP⟩
  have hslt:=yJb (zKk kind body)
  refine⟨_,rfl,(yK4 (yX4 (zKk kind body)) 4 (by omega) (by omega) w8).mono ?_⟩
  rintro e w9 ⟨q9,rfl,n9,cx⟩
  have m9:=(n7.pu bP).pu cx
  have nE:=(gm.trans bP).trans cx
  obtain⟨q,aN,xR,i6,nx⟩:=m9.app nE.size (m:=q9) (news:=zJh (yX4 (zKk kind body)) 4) n9.len (λj b hj=>n9.cell hj) (by rw[zQ7];omega)
  exact⟨q9,rfl,q,aN,xR,q,rfl,i6,nE.andNew nx hB⟩
end Go.Proofs.YtaeecpjhfmcliaaGreatDoor
/- The log: writes are done; files are copied. No condition but those stated. -/
namespace Go.Proofs.YtaeecpjhfmcliaaGreatDoor
open Go.Sh Go.RowKit Tryz
variable {w w' : World}
theorem files_row {s q0 q1:SV} {F:Fls} (h:zQl w 22 1 s [slV q0,slV q1]) (h0:ByV w q0 F.1) (h1:ByV w q1 F.2):zXG w s q0 q1 F:=by
 have hl:=h.1
 obtain⟨a,ha,c0,_⟩:=h.cell (j:=0) (v:=slV q0) rfl
 obtain⟨a',ha',c1,_⟩:=h.cell (j:=1) (v:=slV q1) rfl
 rw[ha]at ha';cases ha'
 simp at hl
 exact⟨by omega,by have:=h.le_cap.1;omega,⟨a,ha,c0,c1⟩,h0,h1⟩
def zZb(B:Nat->Prop)(w:World)(s q0 q1:SV)(F:Fls):Prop:=∀w2,Fr B w w2->zXG w2 s q0 q1 F
theorem zZb.at_{B:Nat->Prop}{s q0 q1:SV}{F:Fls}(h:zZb B w s q0 q1 F):zXG w s q0 q1 F:=h w (Fr.refl _ _)
theorem zZb.pu{B:Nat->Prop}{s q0 q1:SV}{F:Fls}(h:zZb B w s q0 q1 F)(hp:Pu w w'):zZb B w' s q0 q1 F:=λw2 h2=>h w2 ((Fr.pu hp:Fr B w w').trans h2 λb hb _=>hb)
theorem yKR(a b:Int)(w:World):(Builtin.min_ #[3,3] 3 #[.int .i64 a,.int .i64 b]).run prog w=.ok (.int .i64 (min a b)) w:=by
 have e:(if b<a then b else a)=min a b:=by split <;> omega
 rw[←e]
 simp[Builtin.min_,Builtin.min2]
theorem ByV.front{s:SV}{d:List UInt8}(h:ByV w s d){n:Nat}(hn:n<=d.length):ByV w ⟨if s.cap=0 then s.a else s.a.map (λx=>x.add (0 * 1)),n - 0,s.cap - 0⟩ (d.take n):=by
 have:=h.sub (lo:=0) (hi:=n) (Nat.zero_le _) hn
 rw[List.drop_zero,Nat.sub_zero]at this
 exact this
theorem xJQ{B:Nat->Prop}{x:Wr}{q s q0 q1:SV}{F:Fls}(hB:∀b,B b->b<w.heap.size)(hs:zZb B w s q0 q1 F)(hq:ByV w q x.b)(hf:x.file=0∨x.file=1)(hat:0<=x.at_)(hF:F.1.length<=900000000/\F.2.length<=900000000)(hb:x.b.length<=1000000)(k:Int) :
  Calls prog 76 #[.agg #[.int .i64 x.file,.int .i64 x.at_,slV q],slV s,.int .i64 k] w λe w'=>∃o r0 r1:SV,e=.returned (slV o)/\zZb B w' o r0 r1 (zZs F x k)/\Pu w w':=by
 refine yYL _ _ _ _ _ w _ (alB λw1 ar aB=>(xQn (hs.pu ar).at_).mono ?_)
 rintro e w2 ⟨o,rfl,ho,hon,aq⟩
 have aG:=ar.trans aq
 have nJ:w.heap.size<w1.heap.size:=zQx aB
 -- what a row of files that is new tells, whatever is written elsewhere
 have kept:∀{wz:World} {r0 r1:SV} {G:Fls},zQl wz 22 1 o [slV r0,slV r1]->Pu w wz->(∀w3,Fr B wz w3->ByV w3 r0 G.1/\ByV w3 r1 G.2)->zZb B wz o r0 r1 G:=λ{wz r0 r1 G} hr hpz hG w3 h3=>
  files_row (hr.fr h3 λb hb e=>by have:=hon b hb;have:=hB b e;omega) (hG w3 h3).1 (hG w3 h3).2
 have old:∀{wz:World},Pu w wz->∀w3,Fr B wz w3->ByV w3 q0 F.1/\ByV w3 q1 F.2:=λhpz w3 h3=>by
  have:=hs.pu hpz w3 h3
  exact⟨this.b0,this.b1⟩
 refine⟨o,rfl,Br.of (λc=>?_) (λc=>?_)⟩
 ·rw[zZ2 F x (zQk c)]
  exact⟨o,q0,q1,rfl,kept ho aG (old aG),aG⟩
 have c:=zQd c
 refine zQc λw4 aK _=>?_
 have bQ:=aG.trans aK
 have iB:=aK.blk (aq.blk aB)
 have yz:=ho.pu aK
 have nb:∀{wz w3:World} {b:SV} {l:List UInt8},zQh w wz b l->Fr B wz w3->l.length<=2000000000->ByV w3 b l:=λhn h3 hl=>(hn.fr h3 λk hk e=>by have:=hn.2 k hk;have:=hB k e;omega).by (by omega)
 obtain⟨i,hi,yD,qi,di,hrow,hbi,hdi,hdl,hput⟩:∃i:Nat,x.file=(i:Int)/\i<2/\∃(qi:SV) (di:List UInt8),[slV q0,slV q1][i]?=some (slV qi)/\(∀{wz:World},Pu w wz->ByV wz qi di)/\F.get x.file=di/\di.length<=900000000/\
   ∀{wz:World} {b:SV} {l:List UInt8},zQl wz 22 1 o ([slV q0,slV q1].set i (slV b))->Pu w wz->zQh w wz b l->l.length<=2000000000->∃r0 r1,zZb B wz o r0 r1 (F.put x.file l):=by
  rcases hf with hf|hf
  ·refine⟨0,hf,by omega,q0,F.1,rfl,λhpz=>(hs.pu hpz).at_.b0,by rw[hf];rfl,hF.1,λ{wz b l} hr hpz hn hl=>⟨b,q1,?_⟩⟩
   rw[hf]
   exact kept hr hpz λw3 h3=>⟨nb hn h3 hl,(old hpz w3 h3).2⟩
  ·refine⟨1,hf,by omega,q1,F.2,rfl,λhpz=>(hs.pu hpz).at_.b1,by rw[hf];rfl,hF.2,λ{wz b l} hr hpz hn hl=>⟨q0,b,?_⟩⟩
   rw[hf]
   exact kept hr hpz λw3 h3=>⟨(old hpz w3 h3).1,nb hn h3 hl⟩
 have hol:o.len=2:=by have:=yz.1;simp at this;omega
 obtain⟨a5,ha5,c5,_⟩:=yz.cell hrow
 obtain⟨n,hn⟩:∃n:Nat,(n:Int)=min x.at_ di.length:=⟨(min x.at_ di.length).toNat,by omega⟩
 have xS:=hbi bQ
 have hql:=xS.len
 have hqc:=xS.cap
 have yM:n<=di.length:=by omega
 refine⟨λu=>Pu w4 u,Pu.refl _,x.file,λu hu=>cl0 (hu.blk iB),a5,ha5,by omega,by omega,qi,λu hu=>hu.cell (by rw[hi,zXj,Nat.mul_one];exact c5),x.at_,λu hu=>cl (hu.blk iB) 1,x.file,λu hu=>cl0 (hu.blk iB),a5,ha5,by omega,by omega,qi,
  λu hu=>hu.cell (by rw[hi,zXj,Nat.mul_one];exact c5),(n:Int),w4,by rw[hql,hn];exact yKR _ _ _,Pu.refl _,by omega,by omega,by omega,?_⟩
 rw[zXj]
 refine(xJC (xS.front yM) (by rw[List.length_take];omega)).mono ?_
 rintro e w8 ⟨q8,rfl,n8,bP⟩
 have dP:=bQ.trans bP
 have pj:=bP.blk iB
 have ho8:=yz.pu bP
 have n80:=n8.low bQ.size
 have kn:∀{wz:World} {b:SV} {l:List UInt8},Pu w wz->zQl wz 22 1 o [slV q0,slV q1]->zQh w wz b l->l=(F.get x.file).take (min x.at_ (F.get x.file).length).toNat ++ x.b.take k.toNat->wz.heap[w.heap.size]?=some (.cells #[.int .i64 x.file,.int .i64 x.at_,slV q] 90)->
   ∃kO:Int,wz.cell? (⟨w.heap.size,0,none⟩:Addr)=some (.int .i64 kO)/\∃dY:Addr,o.a=some dY/\0<=kO/\kO<((o.len:Nat):Int)/\Sh.st1 (dY.add (kO.toNat * 1)) (slV b) wz λaO=>∃o' r0 r1:SV,(Ending.returned (slV o)=.returned (slV o'))/\zZb B aO o' r0 r1 (zZs F x k)/\Pu w aO:=λ{wz b l} hpz hrz hnz hl hbz=>by
  obtain⟨a,ha,hst⟩:=hrz.st1 (j:=i) (by simpa using yD) (slV b) (K:=λaO=>∃o' r0 r1:SV,(Ending.returned (slV o)=.returned (slV o'))/\zZb B aO o' r0 r1 (zZs F x k)/\Pu w aO) λaO nD eJ hs12=>by
   have dO:Pu w aO:=hpz.andNew eJ λb hb=>by have:=hon b hb;omega
   have hll:l.length<=2000000000:=by
    have h1:=List.length_take_le (min x.at_ (F.get x.file).length).toNat (F.get x.file)
    have h2:(x.b.take k.toNat).length<=x.b.length:=by rw[List.length_take];exact Nat.min_le_right _ _
    have h3:((F.get x.file).take (min x.at_ (F.get x.file).length).toNat).length<=(F.get x.file).length:=by rw[List.length_take];exact Nat.min_le_right _ _
    rw[hl,List.length_append]
    rw[hdi]at h3 ⊢
    omega
   obtain⟨r0,r1,hK⟩:=hput nD dO (hnz.fr eJ (zQq hnz.1 hrz (by decide))) hll
   refine⟨o,r0,r1,rfl,?_,dO⟩
   rw[zJ4 F x (by omega),←hl]
   exact hK
  exact⟨x.file,cl0 hbz,a,ha,by omega,by omega,by rw[hi,zXj,Nat.mul_one];exact hst⟩
 have htk:di.take n=(F.get x.file).take (min x.at_ (F.get x.file).length).toNat:=by rw[hdi];congr 1;omega
 refine⟨q8,rfl,q,cl pj 2,Br.of (λc1=>?_) (λc1=>?_)⟩
 ·have c1:=zQk c1
  have hqw:=hq.pu dP
  have hqwl:=hqw.len
  have hqwc:=hqw.cap
  obtain⟨m,hm⟩:∃m:Nat,(m:Int)=min k x.b.length:=⟨(min k x.b.length).toNat,by omega⟩
  have yu:m<=x.b.length:=by omega
  have hmf:=hqw.front yu
  obtain⟨q9,w9,hr9,n9,pn⟩:=n80.app (by have:=dP.size;omega) (m:=⟨if q.cap=0 then q.a else q.a.map (λx=>x.add (0 * 1)),m - 0,q.cap - 0⟩) (news:=x.b.take m) hmf.len (λj b hj=>by
   obtain⟨a,ha,hc⟩:=hmf.get j b hj
   exact⟨a,ha,by rw[Nat.mul_one]at hc;exact hc⟩) (by rw[List.length_take,List.length_take];omega)
  have nE:Pu w w9:=dP.andNew pn n80.2
  refine⟨q,cl pj 2,q,cl pj 2,(m:Int),w8,by rw[hqwl,hm];exact yKR _ _ _,by omega,by omega,by omega,?_⟩
  rw[zXj]
  refine⟨q9,w9,hr9,kn nE (ho8.fr pn (zQq ho8 n80.1 (by decide))) n9 ?_ (pn.blk pj λhk=>n80.1.other pj (by decide) hk)⟩
  rw[←htk]
  congr 1
  by_cases hk:k<=x.b.length
  ·congr 1;omega
  ·rw[List.take_of_length_le (by omega),List.take_of_length_le (by omega)]
 ·have c1:=zQd c1
  have tO:x.b=[]:=List.eq_nil_of_length_eq_zero (by have:=hq.len;omega)
  refine kn dP ho8 n80 ?_ pj
  rw[tO,List.take_nil,List.append_nil,←htk]
theorem xQ9{B:Nat->Prop}{x:Wr}{q s q0 q1:SV}{F:Fls}(hB:∀b,B b->b<w.heap.size)(hs:zZb B w s q0 q1 F)(hq:ByV w q x.b)(hf:x.file=0∨x.file=1)(hat:0<=x.at_)(hF:F.1.length<=900000000/\F.2.length<=900000000)(hb:x.b.length<=1000000) :
  Calls prog 49 #[slV s,.agg #[.int .i64 x.file,.int .i64 x.at_,slV q]] w λe w'=>∃o r0 r1:SV,e=.returned (slV o)/\zZb B w' o r0 r1 (zQ1 F x)/\Pu w w':=by
 refine xXX _ _ _ _ w _ (alB λw1 ar aB=>zQc λw2 aq _=>?_)
 have aG:=ar.trans aq
 have cP:=aq.blk aB
 refine⟨λu=>Pu w2 u,Pu.refl _,x.file,λu hu=>cl (hu.blk cP) 0,x.at_,λu hu=>cl (hu.blk cP) 1,q,λu hu=>cl (hu.blk cP) 2,x.file,λu hu=>cl (hu.blk cP) 0,x.at_,λu hu=>cl (hu.blk cP) 1,q,λu hu=>cl (hu.blk cP) 2,?_⟩
 refine xXn _ _ _ w2 _ (alB λw3 au bn=>⟨q,cl bn 2,?_⟩)
 have hql:=hq.len
 rw[show((q.len:Nat):Int)=((x.b.length:Nat):Int)by omega,zQa (by omega) (by omega)]
 refine⟨_,rfl,au,?_⟩
 have aU:=aG.trans au
 refine(xJQ (B:=B) (x:=x) (λb hbb=>Nat.lt_of_lt_of_le (hB b hbb) aU.size) (hs.pu aU) (hq.pu aU) hf hat hF hb _).mono ?_
 rintro e w4 ⟨o,r0,r1,rfl,h1,h2⟩
 exact⟨o,rfl,o,r0,r1,rfl,h1,aU.trans h2⟩
structure yZ0(w0 w:World)(s q0 q1:SV)(F:Fls):Prop where
 row:zQl w 22 1 s [slV q0,slV q1]
 rn:∀b ∈ zQe s,w0.heap.size<=b
 n0:zQh w0 w q0 F.1
 n1:zQh w0 w q1 F.2
theorem yZ0.pu{w0:World}{s q0 q1:SV}{F:Fls}(h:yZ0 w0 w s q0 q1 F)(hp:Pu w w'):yZ0 w0 w' s q0 q1 F:=⟨h.row.pu hp,h.rn,h.n0.pu hp,h.n1.pu hp⟩
theorem yZ0.keep{w0:World}{s q0 q1:SV}{F:Fls}(h:yZ0 w0 w s q0 q1 F)(hF:F.1.length<=2000000000/\F.2.length<=2000000000){B:Nat->Prop}(hB:∀b,B b->b<w0.heap.size):zZb B w s q0 q1 F:=λw3 h3=>
 files_row (h.row.fr h3 λb hb e=>by have:=h.rn b hb;have:=hB b e;omega) ((h.n0.fr h3 λb hb e=>by have:=h.n0.2 b hb;have:=hB b e;omega).by (by omega)) ((h.n1.fr h3 λb hb e=>by have:=h.n1.2 b hb;have:=hB b e;omega).by (by omega))
theorem xXH{e:TypeId}{sz g n c:Nat}{vs:List Value}(h:zQl w e sz ⟨some ⟨g,0,none⟩,n,c⟩ vs):∃cur,w.heap[g]?=some (.cells cur e):=by
 obtain⟨_,h|⟨g',cur,h3,h4,_⟩⟩:=h
 ·cases h
 ·cases h3;exact⟨cur,h4⟩
theorem xQE{g lo c:Nat}{m:SV}(hm:m.len=0)(w:World):(Builtin.copy_ #[22,22] 3 #[.slice (some ⟨g,lo,none⟩) 0 c,.slice m.a m.len m.cap]).run prog w=.ok (.int .i64 ((0:Nat):Int)) w:=by
 obtain⟨i,h2,h3,h4,h5⟩:=info_parts vi5
 rw[hm]
 cases m.a <;> simp[Builtin.copy_,run_underlying vu22,Builtin.lenOf,Builtin.firstCells,sizeOf,typeInfo,h2,storeCells,loadCells,loadCellsFrom,goInt]
theorem yQC{s q0 q1:SV}{F:Fls}(h:zXG w s q0 q1 F)(hF:F.1.length<=900000000/\F.2.length<=900000000):Calls prog 46 #[slV s] w λe w'=>∃o r0 r1:SV,e=.returned (slV o)/\yZ0 w w' o r0 r1 F/\Pu w w':=by
 have hl:=h.len
 obtain⟨i,h2,h3,h4,h5⟩:=info_parts vi22
 have vu83:prog.underlying 83=some (.slice 22):=by kernel_rfl
 obtain⟨w1,hr,hrow,ar,hz1⟩:=zYg (P:=prog) (w:=w) vu83 h2 h3 h4 .i64 .i64 2 (by rw[h5];omega) (by omega)
 rw[show(Value.slice none 0 0).cells=#[.slice none 0 0]from rfl,toList_madeCells_one,Nat.mul_one]at hrow
 refine yYW _ w _ ⟨⟨some ⟨w.heap.size,0,none⟩,2,2⟩,w1,hr,?_⟩
 have one:∀{wz:World} {J:Int->World->Prop} {n:Nat} {qi:SV} {di:List UInt8} {v:List Value},n<2->[slV q0,slV q1][n]?=some (slV qi)->(∀{wy:World},Pu w wy->ByV wy qi di)->di.length<=900000000->Pu w wz->zQl wz 22 1 ⟨some ⟨w.heap.size,0,none⟩,2,2⟩ v->v.length=2->
   (∀wy b,zQl wy 22 1 ⟨some ⟨w.heap.size,0,none⟩,2,2⟩ (v.set n (slV b))->zQh wz wy b di->Pu w wy->Fr (·=w.heap.size) wz wy->J (IntKind.i64.wrap ((n:Int)+1)) wy)->
   xYT (λe w'=>∃o r0 r1:SV,e=.returned (slV o)/\yZ0 w w' o r0 r1 F/\Pu w w') J ⟨some ⟨w.heap.size,0,none⟩,2,2⟩ s ((s.len:Nat):Int) (n:Int) [] wz:=λ{wz J n qi di v} hn hqi hbi hdi hpz hrz hv hJ=>by
  refine Br.of (λc=>?_) (λc=>absurd (zQd c) (by omega))
  obtain⟨a,ha,c0,c1⟩:=(h.pu hpz).ex
  have hq:=hbi hpz
  have hql:=hq.len
  refine⟨a,ha,by omega,by omega,qi,?_,?_⟩
  ·rw[zXj,Nat.mul_one]
   rcases(by omega:n=0∨n=1)with rfl|rfl
   ·exact c0.trans hqi
   ·exact c1.trans hqi
  obtain⟨wy,hry,ny,hpy⟩:=yQ3 di.length (by omega) wz
  refine⟨⟨some ⟨wz.heap.size,0,none⟩,di.length,di.length⟩,wy,by rw[show((qi.len:Nat):Int)=((di.length:Nat):Int)by omega];exact hry,?_⟩
  obtain⟨a1,yx,hst⟩:∃a1,(some (⟨w.heap.size,0,none⟩:Addr))=some a1/\Sh.st1 (a1.add n) (slV ⟨some ⟨wz.heap.size,0,none⟩,di.length,di.length⟩) wy λw5=>
    ∃a6:Addr,(some (⟨w.heap.size,0,none⟩:Addr))=some a6/\0<=(n:Int)/\(n:Int)<((2:Nat):Int)/\
    ∃gl:SV,w5.cell? (a6.add ((n:Int).toNat * 1))=some (.slice gl.a gl.len gl.cap)/\
    ∃cp:Int,∃w7:World,(Builtin.copy_ #[22,22] 3 #[.slice gl.a gl.len gl.cap,.slice qi.a qi.len qi.cap]).run prog w5=.ok (.int .i64 cp) w7/\J (IntKind.i64.wrap ((n:Int)+1)) w7:=by
   refine(hrz.pu hpy).st1 (by rw[hv];exact hn) _ λw5 h5 cN oL=>?_
   obtain⟨a6,ha6,c6,_⟩:=h5.cell (j:=n) (v:=slV ⟨some ⟨wz.heap.size,0,none⟩,di.length,di.length⟩) (by rw[List.getElem?_set_self (by rw[hv];exact hn)])
   refine⟨a6,ha6,by omega,by omega,⟨some ⟨wz.heap.size,0,none⟩,di.length,di.length⟩,by rw[zXj,Nat.mul_one];exact c6,?_⟩
   have hne:w.heap.size ≠ wz.heap.size:=by obtain⟨cur,hcur⟩:=xXH hrz;have:=zQx hcur;omega
   have n5:=ny.fr cN λb hb e=>by simp[zQe]at hb e;omega
   have xT:Fr (·=w.heap.size) wy w5:=cN.mono λb hb _=>by simp[zQe]at hb;exact hb.symm ▸ rfl
   have aR:Pu w w5:=(hpz.trans hpy).andNew xT λb hb=>by rw[show b=_ from hb];exact Nat.le_refl _
   by_cases xb:di=[]
   ·subst xb
    refine⟨_,w5,xQE hql w5,hJ w5 _ h5 n5 aR ((Fr.pu hpy:Fr (·=w.heap.size) wz wy).trans xT λb hb _=>hb)⟩
   ·obtain⟨w7,qh,n7,ki⟩:=zYH (lo:=0) (n:=di.length) (c:=di.length) n5 rfl (hbi aR) xb rfl (by simp)
    refine⟨_,w7,qh,hJ w7 _ (h5.fr ki λb hb e=>?_) ?_ (aR.andNew ki λb hb=>?_) ?_⟩
    ·simp[zQe]at hb e;omega
    ·simpa using n7
    ·simp[zQe]at hb;have:=hpz.size;omega
    ·exact((Fr.pu hpy:Fr (·=w.heap.size) wz wy).trans xT λb hb _=>hb).trans ki λb hb hlt=>by simp[zQe]at hb;omega
  exact⟨a1,yx,by omega,by show(n:Int)<((2:Nat):Int);omega,by rw[show a1.add ((n:Int).toNat * 1)=a1.add n by rw[zXj,Nat.mul_one]];exact hst⟩
 have hz:∀{b:Nat},b ∈ zQe (⟨some ⟨w.heap.size,0,none⟩,2,2⟩:SV)->b=w.heap.size:=λhb=>by simp[zQe]at hb;exact hb
 refine zQw 2 (λn t w'=>t=(n:Int)/\Pu w w'/\(n=0->zQl w' 22 1 ⟨some ⟨w.heap.size,0,none⟩,2,2⟩ [.slice none 0 0,.slice none 0 0])/\(n=1->∃r0,zQl w' 22 1 ⟨some ⟨w.heap.size,0,none⟩,2,2⟩ [slV r0,.slice none 0 0]/\zQh w w' r0 F.1)/\
   (n=2->∃r0 r1,yZ0 w w' ⟨some ⟨w.heap.size,0,none⟩,2,2⟩ r0 r1 F)) ⟨rfl,ar,λ_=>hrow,λe=>absurd e (by decide),λe=>absurd e (by decide)⟩ ?_
 rintro n J t wz hn ⟨ht,hpz,i0,i1,i2⟩ hJ
 obtain rfl:t=(n:Int):=ht
 rcases(by omega:n=0∨n=1∨n=2)with rfl|rfl|rfl
 ·refine one (by omega) rfl (λhp=>(h.pu hp).b0) hF.1 hpz (i0 rfl) rfl λwy b hry hb hpy hfy=>?_
  rw[zQa (by omega) (by omega)]
  exact hJ _ _ (by omega) ⟨rfl,hpy,λe=>absurd e (by decide),λ_=>⟨b,hry,hb.low hpz.size⟩,λe=>absurd e (by decide)⟩
 ·obtain⟨r0,sV,qm⟩:=i1 rfl
  refine one (by omega) rfl (λhp=>(h.pu hp).b1) hF.2 hpz sV rfl λwy b hry hb hpy hfy=>?_
  rw[zQa (by omega) (by omega)]
  refine hJ _ _ (by omega) ⟨rfl,hpy,λe=>absurd e (by decide),λe=>absurd e (by decide),λ_=>⟨r0,b,hry,λk hk=>by rw[hz hk];exact Nat.le_refl _,qm.fr hfy λk hk e=>by obtain⟨cur,hcur⟩:=xXH sV;exact qm.1.other hcur (by decide) (by rw[←show k=_ from e];exact hk),hb.low hpz.size⟩⟩
 ·refine Br.of (λc=>absurd (zQk c) (by omega)) λc=>?_
  obtain⟨r0,r1,hN⟩:=i2 rfl
  exact⟨_,r0,r1,rfl,hN,hpz⟩
end Go.Proofs.YtaeecpjhfmcliaaGreatDoor
/- The log: files told; a whole table as a record; a row read by itself; some records told. No condition but those stated. -/
namespace Go.Proofs.YtaeecpjhfmcliaaGreatDoor
open Go.Sh Go.RowKit Tryz
variable {w w' : World}
theorem vk63:zX9 prog 63=2:=by kernel_rfl
theorem xWo{s q0 q1:SV}{F:Fls}(h:zXG w s q0 q1 F)(hF:F.1.length<=900000000/\F.2.length<=900000000):Calls prog 51 #[slV s] w λe w'=>∃r0 r1:SV,e=.returned (.agg #[slV r0,slV r1])/\zQh w w' r0 F.1/\zQh w w' r1 F.2/\Pu w w':=by
 refine xXP _ w _ (alB λw1 ar aB=>(yQC (h.pu ar) hF).mono ?_)
 rintro e w2 ⟨o,r0,r1,rfl,hN,aq⟩
 have nJ:w.heap.size<w1.heap.size:=zQx aB
 refine⟨o,rfl,zQc λw3 au _=>?_⟩
 have hN:=hN.pu au
 obtain⟨a,ha,c0,_⟩:=hN.row.cell (j:=0) (v:=slV r0) rfl
 obtain⟨a',ha',c1,_⟩:=hN.row.cell (j:=1) (v:=slV r1) rfl
 have tQ:=ha
 rw[ha']at tQ;cases tQ
 have hol:o.len=2:=by have:=hN.row.1;simp at this;omega
 refine⟨a,ha,by omega,by omega,r0,c0,a,ha,by omega,by omega,r1,c1,zQi ((aq.trans au).blk aB) vk63.symm rfl rfl λw6 fU iJ _=>?_⟩
 have ne:∀{s:SV} {l:List UInt8},zQh w1 w3 s l->zQh w w6 s l:=λhn=>(hn.fr iJ λb hb e=>by have:=hn.2 b hb;have e:b=w.heap.size:=e;omega).low ar.size
 exact⟨r0,cl fU 0,r1,cl fU 1,r0,r1,rfl,ne hN.n0,ne hN.n1,((ar.trans aq).trans au).andNew iJ λi hi=>by rw[show i=_ from hi];exact Nat.le_refl _⟩
theorem yYp(t:Tbl):zQj t ≠ []:=λh=>by unfold zQj at h;simp at h
theorem xX3{t:Tbl}{f r:SV}(h:zX2 w t f r)(hv:zQf t=0):Calls prog 85 #[zVb t f r] w λe w'=>∃q:SV,e=.returned (slV q)/\zQh w w' q (zZY 119 (zQC t))/\Pu w w':=by
 have hbo:zQC t=zQj t:=by unfold zQC;rw[if_pos hv]
 have hle:=zWt t
 refine yYE _ _ _ w _ (alB λw1 ar aB=>⟨_,cl aB 0,f,cl aB 1,r,cl aB 2,(yXt (h.pu ar) (zZJ hv)).mono ?_⟩)
 rintro e w2 ⟨q,rfl,hq,aq⟩
 refine⟨q,_,rfl,(yKa 119 (hq.by (by omega)) (by rw[hbo];exact yYp t) (by omega)).mono ?_⟩
 rintro e w3 ⟨q3,rfl,h3,au⟩
 have aG:=ar.trans aq
 exact⟨q3,rfl,q3,rfl,h3.low aG.size,aG.trans au⟩
theorem yWm{f:Fld}(h:zQo f=true)(p:Int):zQR f p (zXr f)=true:=by
 unfold zQo at h
 simp only[Bool.and_eq_true]at h
 have hk:=h.2
 unfold zWI at hk
 have vz:∀k:Int,okN k 0=true->zXk ⟨k,0,⟨#[]⟩⟩=0:=λk h=>by
  rw[zZE,if_neg (by show ¬2048<0;omega),if_pos]
  show(okN k 0 && (decide (k=4) || decide ((0:Nat)=0)))=true
  rw[h];simp
 by_cases h5:f.kind=5
 ·unfold zXr zQR
  rw[if_pos h5,if_neg (by rw[vz 2 (by decide)];simp),if_neg (by decide),if_pos h5];decide
 have e:zXr f=⟨f.kind,0,⟨#[]⟩⟩:=by unfold zXr;rw[if_neg h5]
 have hkk:f.kind=1∨f.kind=2∨f.kind=3∨f.kind=4:=by
  by_cases h1:f.kind=1
  ·exact .inl h1
  ·by_cases h2:f.kind=2
   ·exact .inr (.inl h2)
   ·by_cases h3:f.kind=3
    ·exact .inr (.inr (.inl h3))
    ·by_cases h4:f.kind=4
     ·exact .inr (.inr (.inr h4))
     ·rw[if_neg h1,if_neg h2,if_neg h3,if_neg h4,if_neg h5]at hk
      cases hk
 have hv:zXk (zXr f)=0:=by
  rw[e]
  refine vz _ ?_
  rcases hkk with h|h|h|h <;> rw[h] <;> decide
 have base:∀b:Bool,(if f.kind=2 then decide (((zJq 0).length:Int)<=f.width)else if f.kind=4 then decide (((0:Nat):Int)<=f.width) && decide (zZ4 ([]:List UInt8)=[]) && zXN [] p else true)=b->zQR f p (zXr f)=b:=λb hb=>by
  unfold zQR
  rw[if_neg (by rw[hv];simp),if_neg (by rw[e];show ¬f.kind=0;omega),if_neg h5,if_neg (by rw[e];simp)]
  rw[e];exact hb
 refine base true ?_
 have hd:(zJq 0).length=1:=by decide +kernel
 rcases hkk with h|h|h|h
 ·rw[if_neg (by omega),if_neg (by omega)]
 ·rw[if_pos h,hd]
  rw[if_neg (by omega),if_pos h]at hk
  simp at hk ⊢;omega
 ·rw[if_neg (by omega),if_neg (by omega)]
 ·rw[if_neg (by omega),if_pos h]
  rw[if_neg (by omega),if_neg (by omega),if_neg (by omega),if_pos h]at hk
  simp at hk
  have:decide (((0:Nat):Int)<=f.width)=true:=by simp;omega
  rw[this];rfl
theorem yWK{x t:Tbl}(hx:zQf x=0)(ht:t.recs.length<=300){rest:List UInt8}(h:zQj x=zJA t ++ rest):x.recs.length=t.recs.length:=by
 obtain⟨d,hd⟩:∃d,d=zQj x:=⟨_,rfl⟩
 obtain⟨_,_,p2,_⟩:=zWK (u:=x) hd.symm
 have hn:=(zQP.of hx).n300
 have h1:=zXp t.recs.length 4
 have q2:(d.drop 2).take 4=zVS t.recs.length 4:=by
  rw[hd,h]
  unfold zJA
  simp only[List.append_assoc,List.cons_append,List.nil_append,List.drop_succ_cons,List.drop_zero]
  rw[List.take_append_of_le_length (by omega),List.take_of_length_le (by omega)]
 have:=congrArg zQY (p2.symm.trans q2)
 rw[←zWO,←zWO,zJ5,zJ5,Nat.mod_eq_of_lt (by omega),Nat.mod_eq_of_lt (by omega)]at this
 exact this
def RowR(w:World)(t:Tbl)(b:List UInt8):Rt:=λe w'=>Pu w w'/\∃(g:Bool) (q:SV) (ok:Bool),e=.returned (.tuple #[.agg #[.bool g,slV q],.bool ok])/\((ok=false/\yXN t b=none)∨ok=true/\∃x,yXN t b=some x/\g=x.gone/\zJY w w' q x.v)
theorem xYr{t:Tbl}{f r s:SV}{b:List UInt8}(hpg:zZR t.page)(hpB:zQX t.page=true)(hf:zX3 w f t.fields)(hvf:zQV t.fields=0)(hb:ByV w s b)(hbl:b.length<=10000):Calls prog 129 #[.agg #[.int .i64 t.page,slV f,slV r],slV s] w (RowR w t b):=by
 obtain⟨hne,hall,_,iY,hwide⟩:=zXn hvf
 have hlim:Lim.ok t.fields:=λg hg=>by
  have:=(zXb (List.all_eq_true.1 hall g hg)).2.1
  show g.name.size<=140737488355328
  omega
 refine yW3 _ _ _ _ w _ (alB λw1 ar aB=>alB λw2 aq aM=>⟨f,cl (aq.blk aB) 1,?_⟩)
 have aG:=ar.trans aq
 refine(xYB (hf.pu aG) hlim).mono ?_
 rintro e w3 ⟨q3,rfl,hV3,au⟩
 have aU:=aG.trans au
 refine⟨false,q3,_,rfl,alB λw4 aK dm=>zQi dm yWN.symm rfl rfl λw5 bo cN _=>?_⟩
 have co:Pu w3 w5:=aK.andNew cN λi hi=>by rw[show i=_ from hi];exact Nat.le_refl _
 have cI:=aU.trans co
 have j5:=co.blk (au.blk (aq.blk aB))
 have hV5:=hV3.pu co
 refine⟨_,cl0 j5,f,cl j5 1,false,cl bo 0,q3,cl bo 1,alB λw6 bB fU=>?_⟩
 have eL:=cI.trans bB
 have hbv:zJp t.fields=t.fields.map zXr:=by unfold zJp;rw[if_pos hvf]
 have hV6:=hV5.pu bB
 -- the table of an empty record alone
 have hright:zQf { t with recs:=[⟨false,zJp t.fields⟩] }=0:=zK3 hpB hvf (by simp) λx hx=>by
  rw[List.mem_singleton.1 hx]
  refine zKO.2 ⟨by rw[hbv];simp,λi g v hg hv=>?_⟩
  rw[hbv,List.getElem?_map,hg]at hv
  cases hv
  exact yWm (List.all_eq_true.1 hall g (List.mem_of_getElem? hg)) t.page
 have pr:=zZl hright
 have hrow6:zX3 w6 ⟨some ⟨w5.heap.size,0,none⟩,1,1⟩ [(⟨false,zJp t.fields⟩:Rec)]:=by
  refine⟨rfl,Nat.le_refl _,by show 1<=140737488355328;omega,λi x hx=>?_⟩
  have yc:i=0:=by have:=(List.getElem?_eq_some_iff.1 hx).1;simp at this;exact this
  subst yc
  simp at hx;subst hx
  obtain⟨v64,vl⟩:=pr ⟨false,zJp t.fields⟩ (by simp)
  refine⟨⟨w5.heap.size,0,none⟩,rfl,[.bool false,slV q3],⟨q3,rfl,hV6.rdS vl v64⟩,λj v hv=>?_⟩
  rcases j with _|_|j <;> simp at hv
  ·subst hv;exact cl fU 0
  ·subst hv;exact cl fU 1
 refine(xXJ (t:={ t with recs:=[⟨false,zJp t.fields⟩] }) ⟨hpg,hf.pu eL,hrow6⟩ hlim).mono ?_
 rintro e w7 ⟨q7,rfl,h7,cv⟩
 rw[if_pos hright]at h7
 have gm:=eL.trans cv
 have hhl:(zJA { t with recs:=[⟨false,zJp t.fields⟩] }).length=13+16 * t.fields.length:=zWP (zJg.of hright)
 have j8:=hb.pu gm
 obtain⟨q8,w8,hr8,n8,oR⟩:=h7.app cv.size (m:=s) (news:=b) j8.len (λj c hj=>by
  obtain⟨a,ha,hc⟩:=j8.get j c hj
  exact⟨a,ha,by rw[Nat.mul_one]at hc;exact hc⟩) (by omega)
 have pm:Pu w6 w8:=cv.andNew oR h7.2
 refine⟨q7,_,rfl,q8,w8,hr8,alB λw9 cx oM=>?_⟩
 obtain⟨q10,aN,xR,i6,nx⟩:=(n8.pu cx).one (pm.trans cx).size (r:=w8.heap.size) (b:=26) oM rfl (by rw[List.length_append,hhl];omega)
 have hp6a:Pu w6 aN:=(pm.trans cx).andNew nx n8.2
 have hp0a:=eL.trans hp6a
 refine⟨q10,aN,xR,?_⟩
 refine(yK7 (i6.by (by simp only[List.length_append,hhl,List.length_singleton];omega)) (by simp only[List.length_append,hhl,List.length_singleton];omega)).mono ?_
 rintro e aV ⟨u,fu,ru,cd,rfl,hO,hNi,eI,hRO⟩
 have hp0b:=hp0a.trans eI
 have nJ:w.heap.size<w1.heap.size:=zQx aB
 have lt2:w1.heap.size<w2.heap.size:=zQx aM
 have z10:=hp0a.size
 have z2a:=(((au.trans co).trans bB).trans hp6a).size
 refine⟨_,fu,ru,_,rfl,alB λaO dO ln=>zQi ln zKW.symm rfl rfl λaH oP hf13 _=>?_⟩
 have pv:Pu aV aH:=dO.andNew hf13 λi hi=>by rw[show i=_ from hi];exact Nat.le_refl _
 have hp0d:=hp0b.trans pv
 have b213:=pv.blk (eI.blk (hp6a.blk (bB.blk (co.blk (au.blk aM)))))
 have hO13:=hO.pu pv
 refine Br.of (λc=>?_) (λc=>?_)
 ·have c:cd ≠ 0:=zQ2 c
  refine zQi b213 yWN.symm rfl rfl λbq iE oS _=>⟨_,cl iE 0,⟨none,0,0⟩,cl iE 1,hp0d.andNew oS λi hi=>by rw[show i=_ from hi];omega,false,⟨none,0,0⟩,false,rfl,.inl ⟨rfl,?_⟩⟩
  rcases zK9 hRO with⟨h0,_⟩|⟨_,hno,_⟩
  ·exact absurd h0 c
  ·unfold yXN;rw[hno];rfl
 ·have c:cd=0:=zQs c
  subst c
  have hro:=yKJ hRO
  obtain⟨hvu,hbu⟩:=zXl hro
  have hcount:=yWK (t:={ t with recs:=[⟨false,zJp t.fields⟩] }) hvu (by simp) (by rw[hbu,List.append_assoc])
  obtain⟨x,hx⟩:=zQM (l:=u.recs) (k:=0) (by rw[hcount];simp)
  obtain⟨qs,k1,k2,k3,k4⟩:=hO13.rs
  obtain⟨y,hy⟩:=zQM (l:=qs) (k:=0) (by rw[k3,hcount];simp)
  obtain⟨e1,e2⟩:=k4 0 x y hx hy
  have hrul:=k1.len zQT (by decide)
  obtain⟨a,ha,_,c0⟩:=k1.elem zQT hy (o:=0) rfl
  obtain⟨a',ha',_,c1⟩:=k1.elem zQT hy (o:=1) rfl
  rw[ha]at ha';cases ha'
  refine⟨ru,cl oP 2,a,ha,by omega,by rw[hrul,k3,hcount];show(0:Int)<((1:Nat):Int);omega,y.1,c0,y.2,c1,zQi b213 yWN.symm rfl rfl λbH tI hf17 _=>⟨_,cl tI 0,y.2,cl tI 1,hp0d.andNew hf17 λi hi=>by rw[show i=_ from hi];omega,y.1,y.2,true,rfl,.inr ⟨rfl,x,?_,e1,?_⟩⟩⟩
  ·unfold yXN
   rw[hro]
   show u.recs.head?=some x
   rw[List.head?_eq_getElem?];exact hx
  ·exact(e2.fr hf17 λk hk e=>by have:=e2.2 k hk;have e:k=w1.heap.size:=e;omega).low z10
end Go.Proofs.YtaeecpjhfmcliaaGreatDoor
/- The log: what tells some records of a table. No condition but those stated. -/
namespace Go.Proofs.YtaeecpjhfmcliaaGreatDoor
open Go.Sh Go.RowKit Tryz
variable {w w' : World}
def yWv(t:Tbl)(k:Int):List UInt8:=if (t.recs.length:Int)<k then []else zJh k.toNat 2 ++ xZ0 t k
theorem yQB(t:Tbl)(l:List Int):zXs t l=zJh t.recs.length 2 ++ l.flatMap (yWv t):=rfl
theorem xXd{t:Tbl}(hv:zQf t=0)(k:Int):(yWv t k).length<=2002:=by
 have ho:=zJg.of hv
 unfold yWv
 split
 ·simp
 ·rw[List.length_append,zQ7]
  unfold xZ0
  split
  ·rename_i r hr
   have h1:=zKN ho.all (ho.recs r (List.mem_of_getElem? hr))
   have h2:=ho.w2
   omega
  ·simp
theorem yYS {α:Type} {g:α->List UInt8} {n:Nat} (hg:∀x,(g x).length<=n):∀l:List α,(l.flatMap g).length<=l.length * n
 | []=>by simp
 | x :: l=>by
  have:=yYS hg l
  have:=hg x
  rw[List.flatMap_cons,List.length_append,List.length_cons,Nat.succ_mul];omega
theorem xJF{t:Tbl}{f r:SV}(h:zX2 w t f r)(hv:zQf t=0){w0:World}{s:SV}{l:List Int}(hl:zW1 w0 w s l)(hk:∀k ∈ l,1<=k/\k<=1000000)(hn:l.length<=1000) :
  Calls prog 112 #[zVb t f r,slV s] w λe w'=>∃q:SV,e=.returned (slV q)/\zQh w w' q (zXs t l)/\Pu w w':=by
 have ho:=zJg.of hv
 have hsl:=hl.len
 have hrl:=h.recs.len
 have cM:=ho.m300
 refine yWE _ _ _ _ w _ (alB λw1 ar aB=>⟨r,cl aB 2,?_⟩)
 rw[show((r.len:Nat):Int)=((t.recs.length:Nat):Int)by omega]
 refine(yK4 t.recs.length 2 (by omega) (by omega) w1).mono ?_
 rintro e w2 ⟨q2,rfl,sD,aq⟩
 refine⟨q2,rfl,?_⟩
 rw[show((s.len:Nat):Int)=((l.length:Nat):Int)by omega]
 refine zQw l.length (λk u w'=>u.2=(k:Int)/\zQh w1 w' u.1 (zJh t.recs.length 2 ++ (l.take k).flatMap (yWv t))/\Pu w1 w') ⟨rfl,by simpa using sD,aq⟩ ?_
 rintro k J ⟨u1,u2⟩ wa hka ⟨tx,hr,hp⟩ hJ
 obtain rfl:u2=(k:Int):=tx
 have hr:zQh w1 wa u1 (zJh t.recs.length 2 ++ (l.take k).flatMap (yWv t)):=hr
 dsimp only
 have hpa:=ar.trans hp
 have b1a:=hp.blk aB
 refine Br.of (λc=>?_) (λc=>?_)
 ·have aJ:k<l.length:=by have:=zQk c;omega
  obtain⟨x,hx⟩:=zQM aJ
  obtain⟨x1,x2⟩:=hk x (List.mem_of_getElem? hx)
  obtain⟨a,ha,hc,_⟩:=(hl.pu hpa).1.cell (j:=k) (v:=yV8 x) (by rw[List.getElem?_map,hx];rfl)
  refine⟨a,ha,by omega,by omega,x,by rw[zXj,Nat.mul_one];exact hc,r,cl b1a 2,?_⟩
  have htk:(l.take (k+1)).flatMap (yWv t)=(l.take k).flatMap (yWv t) ++ yWv t x:=by rw[zQD hx,List.flatMap_append];simp
  have hfl:((l.take k).flatMap (yWv t)).length<=2002000:=by
   have h1:=yYS (xXd hv) (l.take k)
   have h2:(l.take k).length<=1000:=by rw[List.length_take];omega
   have h3:=Nat.mul_le_mul_right 2002 h2
   omega
  have hcx:=xXd hv x
  refine Br.of (λc2=>?_) (λc2=>?_)
  ·have c2:=zQk c2
   have e:yWv t x=[]:=by unfold yWv;rw[if_pos (by omega)]
   rw[zQa (by omega) (by omega)]
   exact hJ _ _ aJ ⟨rfl,by dsimp only;rw[htk,e,List.append_nil];exact hr,hp⟩
  ·have c2:=zQd c2
   refine⟨_,cl b1a 0,f,cl b1a 1,r,cl b1a 2,(rowE_c (sh:=zQu) (h.pu hpa) (zZJ hv) x ⟨by omega,by omega⟩ (λ_ y hy=>⟨zXC.writes ho.all (ho.recs y hy),zXC.ne ho.all (ho.recs y hy) ho.ne⟩)).mono ?_⟩
   rintro e w5 ⟨q5,rfl,h5,aR⟩
   have hro:yQM zQu t x=xZ0 t x:=by
    unfold yQM xZ0
    rw[if_pos (by unfold zJt;rw[if_neg (by rw[hv];simp),if_neg (by omega)])]
    all_goals (cases t.recs[(x - 1).toNat]? <;> rfl)
   rw[hro]at h5
   refine⟨q5,_,rfl,?_⟩
   rw[show x=((x.toNat:Nat):Int)by omega]
   refine(yK4 x.toNat 2 (by omega) (by omega) w5).mono ?_
   rintro e w6 ⟨q6,rfl,h6,bB⟩
   have dQ:=(hp.trans aR).trans bB
   obtain⟨q7,w7,qh,n7,ki⟩:=((hr.pu aR).pu bB).app dQ.size (m:=q6) (news:=zJh x.toNat 2) h6.len (λj b hj=>h6.cell hj) (by rw[List.length_append,zQ7,zQ7];omega)
   have ec:yWv t x=zJh x.toNat 2 ++ xZ0 t x:=by unfold yWv;rw[if_neg (by omega)]
   have hrb:(xZ0 t x).length<=2002:=by rw[ec,List.length_append]at hcx;omega
   have h57:zQh wa w7 q5 (xZ0 t x):=(h5.pu bB).fr ki λb hb e=>by
    have h1:=h5.2 b hb
    have h2:=hr.1.lt b e
    omega
   obtain⟨q8,w8,hr8,n8,oR⟩:=n7.app (by have:=dQ.size;have:=ki.size;omega) (m:=q5) (news:=xZ0 t x) h57.len (λj b hj=>h57.cell hj) (by simp only[List.length_append,zQ7];omega)
   have kM:Pu w1 w7:=dQ.andNew ki hr.2
   refine⟨q6,rfl,q7,w7,qh,q8,w8,hr8,?_⟩
   rw[zQa (by omega) (by omega)]
   refine hJ _ _ aJ ⟨rfl,?_,kM.andNew oR n7.2⟩
   dsimp only
   rw[htk,ec,←List.append_assoc,←List.append_assoc,List.append_assoc (zJh t.recs.length 2)]at *
   exact n8
 ·have aJ:k=l.length:=by have:=zQd c;omega
  subst aJ
  rw[List.take_length]at hr
  exact⟨u1,rfl,by rw[yQB];exact hr.low ar.size,hpa⟩
end Go.Proofs.YtaeecpjhfmcliaaGreatDoor
/- The log: what is told of records changes a table: one of them. No condition but those stated. -/
namespace Go.Proofs.YtaeecpjhfmcliaaGreatDoor
open Go.Sh Go.RowKit Tryz
variable {w w' : World}
def chgT(R:Rt)(J1:SV->World->Prop)(p2 p4:Option Addr)(n6 n8 dr:Int)(l9:SV)(cq:Nat)(kI:Bool)(ds:Ds)(aH:World):Prop:=
 Br (!kI) (
 zQg p2 λf7=>
 ∃bl:Int,aH.cell? (f7.add 0)=some (.int .i64 bl)/\
 ∃aw:SV,aH.cell? (f7.add 1)=some (.slice aw.a aw.len aw.cap)/\
 ∃aC:SV,aH.cell? (f7.add 2)=some (.slice aC.a aC.len aC.cap)/\
 zQg p4 λjz=>
 stA prog 35 jz #[.int .i64 bl,.slice aw.a aw.len aw.cap,.slice aC.a aC.len aC.cap] aH λbG=>
 zQb prog ds bG λbH=>
 zQg p4 λjy=>
 ∃ag:Int,bH.cell? (jy.add 0)=some (.int .i64 ag)/\
 ∃ab:SV,bH.cell? (jy.add 1)=some (.slice ab.a ab.len ab.cap)/\
 ∃ae:SV,bH.cell? (jy.add 2)=some (.slice ae.a ae.len ae.cap)/\
 R (.returned (.tuple #[.agg #[.int .i64 ag,.slice ab.a ab.len ab.cap,.slice ae.a ae.len ae.cap],.bool false])) bH) (
 Br (decide (dr<1)) (
 zQg p2 λkW=>
 ∃bl:Int,aH.cell? (kW.add 0)=some (.int .i64 bl)/\
 ∃aw:SV,aH.cell? (kW.add 1)=some (.slice aw.a aw.len aw.cap)/\
 ∃aC:SV,aH.cell? (kW.add 2)=some (.slice aC.a aC.len aC.cap)/\
 zQg p4 λa20=>
 stA prog 35 a20 #[.int .i64 bl,.slice aw.a aw.len aw.cap,.slice aC.a aC.len aC.cap] aH λct=>
 zQb prog ds ct λdX=>
 zQg p4 λpi=>
 ∃ag:Int,dX.cell? (pi.add 0)=some (.int .i64 ag)/\
 ∃ab:SV,dX.cell? (pi.add 1)=some (.slice ab.a ab.len ab.cap)/\
 ∃ae:SV,dX.cell? (pi.add 2)=some (.slice ae.a ae.len ae.cap)/\
 R (.returned (.tuple #[.agg #[.int .i64 ag,.slice ab.a ab.len ab.cap,.slice ae.a ae.len ae.cap],.bool false])) dX) (
 zQg p2 λxt=>
 ∃pV:SV,aH.cell? (xt.add 2)=some (.slice pV.a pV.len pV.cap)/\
 Br (decide (dr > (IntKind.i64.wrap (((pV.len:Nat):Int)+1)))) (
 zQg p2 λnl=>
 ∃bl:Int,aH.cell? (nl.add 0)=some (.int .i64 bl)/\
 ∃aw:SV,aH.cell? (nl.add 1)=some (.slice aw.a aw.len aw.cap)/\
 ∃aC:SV,aH.cell? (nl.add 2)=some (.slice aC.a aC.len aC.cap)/\
 zQg p4 λxF=>
 stA prog 35 xF #[.int .i64 bl,.slice aw.a aw.len aw.cap,.slice aC.a aC.len aC.cap] aH λgQ=>
 zQb prog ds gQ λdW=>
 zQg p4 λrF=>
 ∃ag:Int,dW.cell? (rF.add 0)=some (.int .i64 ag)/\
 ∃ab:SV,dW.cell? (rF.add 1)=some (.slice ab.a ab.len ab.cap)/\
 ∃ae:SV,dW.cell? (rF.add 2)=some (.slice ae.a ae.len ae.cap)/\
 R (.returned (.tuple #[.agg #[.int .i64 ag,.slice ab.a ab.len ab.cap,.slice ae.a ae.len ae.cap],.bool false])) dW) (
 Br (decide (dr > 300)) (
 zQg p2 λo5=>
 ∃bl:Int,aH.cell? (o5.add 0)=some (.int .i64 bl)/\
 ∃aw:SV,aH.cell? (o5.add 1)=some (.slice aw.a aw.len aw.cap)/\
 ∃aC:SV,aH.cell? (o5.add 2)=some (.slice aC.a aC.len aC.cap)/\
 zQg p4 λsY=>
 stA prog 35 sY #[.int .i64 bl,.slice aw.a aw.len aw.cap,.slice aC.a aC.len aC.cap] aH λgk=>
 zQb prog ds gk λfW=>
 zQg p4 λtj=>
 ∃ag:Int,fW.cell? (tj.add 0)=some (.int .i64 ag)/\
 ∃ab:SV,fW.cell? (tj.add 1)=some (.slice ab.a ab.len ab.cap)/\
 ∃ae:SV,fW.cell? (tj.add 2)=some (.slice ae.a ae.len ae.cap)/\
 R (.returned (.tuple #[.agg #[.int .i64 ag,.slice ab.a ab.len ab.cap,.slice ae.a ae.len ae.cap],.bool false])) fW) (
 zQg p2 λsZ=>
 ∃iX:SV,aH.cell? (sZ.add 2)=some (.slice iX.a iX.len iX.cap)/\
 Br (decide (dr > ((iX.len:Nat):Int))) (
 zQg p2 λqL=>
 ∃aD:SV,aH.cell? (qL.add 2)=some (.slice aD.a aD.len aD.cap)/\
 ∃jY:Bool,aH.cell? ((⟨cq,0,none⟩:Addr).add 0)=some (.bool jY)/\
 ∃cX:SV,aH.cell? ((⟨cq,0,none⟩:Addr).add 1)=some (.slice cX.a cX.len cX.cap)/\
 alE (.cells #[.bool jY,.slice cX.a cX.len cX.cap] 67) aH λcz j4=>
 ∃aE:SV,∃nG:World,(Builtin.append_ #[33,33] 33 #[.slice aD.a aD.len aD.cap,.slice (some ⟨cz,0,none⟩) 1 1]).run prog j4=.ok (.slice aE.a aE.len aE.cap) nG/\
 zQg p2 λa39=>
 st1 (a39.add 2) (.slice aE.a aE.len aE.cap) nG λrq=>
 zYF R J1 p2 p4 n6 n8 l9 ds rq) (
 zQg p2 λyU=>
 ∃oy:SV,aH.cell? (yU.add 2)=some (.slice oy.a oy.len oy.cap)/\
 ∃jZ:Bool,aH.cell? ((⟨cq,0,none⟩:Addr).add 0)=some (.bool jZ)/\
 ∃cY:SV,aH.cell? ((⟨cq,0,none⟩:Addr).add 1)=some (.slice cY.a cY.len cY.cap)/\
 ∃td:Addr,oy.a=some td/\0<=(IntKind.i64.wrap (dr - 1))/\(IntKind.i64.wrap (dr - 1))<((oy.len:Nat):Int)/\
 stA prog 67 (td.add ((IntKind.i64.wrap (dr - 1)).toNat * 2)) #[.bool jZ,.slice cY.a cY.len cY.cap] aH λqo=>
 zYF R J1 p2 p4 n6 n8 l9 ds qo)))))
def badT(R:Rt)(p2 p4:Option Addr)(ds:Ds)(aH:World):Prop:=
 zQg p2 λf7=>
 ∃bl:Int,aH.cell? (f7.add 0)=some (.int .i64 bl)/\
 ∃aw:SV,aH.cell? (f7.add 1)=some (.slice aw.a aw.len aw.cap)/\
 ∃aC:SV,aH.cell? (f7.add 2)=some (.slice aC.a aC.len aC.cap)/\
 zQg p4 λjz=>
 stA prog 35 jz #[.int .i64 bl,.slice aw.a aw.len aw.cap,.slice aC.a aC.len aC.cap] aH λbG=>
 zQb prog ds bG λbH=>
 zQg p4 λjy=>
 ∃ag:Int,bH.cell? (jy.add 0)=some (.int .i64 ag)/\
 ∃ab:SV,bH.cell? (jy.add 1)=some (.slice ab.a ab.len ab.cap)/\
 ∃ae:SV,bH.cell? (jy.add 2)=some (.slice ae.a ae.len ae.cap)/\
 R (.returned (.tuple #[.agg #[.int .i64 ag,.slice ab.a ab.len ab.cap,.slice ae.a ae.len ae.cap],.bool false])) bH
def kQn(w:World)(t:Tbl)(body:List UInt8):Rt:=λe w'=>Pu w w'/\∃(p:Int) (q1 q2:SV) (b:Bool),e=.returned (.tuple #[.agg #[.int .i64 p,slV q1,slV q2],.bool b])/\
 ((b=false/\zQZ t body=none)∨b=true/\∃u,zQZ t body=some u/\p=u.page/\zJd w w' u q1 q2)
theorem zKj.other {w0:World} {s:SV} {rs:List Rec} {b:Nat} {c:Array Value} {e:TypeId} (h:zKj w0 w s rs) (hf:Fr (·=b) w w') (hb:w.heap[b]?=some (.cells c e)) (h1:e ≠ 67) (h2:e ≠ 73):zKj w0 w' s rs:=by
 obtain⟨qs,k1,k2,k3,k4⟩:=h
 exact⟨qs,k1.fr hf λk hk ek=>k1.other hb (Ne.symm h1) (by rw[←show k=b from ek];exact hk),k2,k3,λi r x hr hx=>⟨(k4 i r x hr hx).1,(k4 i r x hr hx).2.fr hf λk hk ek=>(k4 i r x hr hx).2.1.other hb (Ne.symm h2) (by rw[←show k=b from ek];exact hk)⟩⟩
theorem zKj.set {w0:World} {s q:SV} {rs:List Rec} (h:zKj w0 w s rs) {k:Nat} (hk:k<rs.length) {x:Rec} (hq:zJY w0 w q x.v) {K:World->Prop} (hK:∀w',zKj w0 w' s (rs.set k x)->Fr (· ∈ zQe s) w w'->K w') :
  ∃a,s.a=some a/\stA prog 67 (a.add (k * 2)) #[.bool x.gone,slV q] w K:=by
 obtain⟨qs,k1,k2,k3,k4⟩:=h
 refine k1.stElem zQT (by decide) (i:=k) (by omega) (x.gone,q) yWN.symm rfl λw1 h1 hf hs=>hK w1 ⟨qs.set k (x.gone,q),h1,k2,by rw[List.length_set,List.length_set,k3],λi r y hr hy=>?_⟩ hf
 rw[List.getElem?_set]at hr hy
 by_cases e:k=i
 ·subst e
  rw[if_pos rfl,if_pos (by omega)]at hy hr
  cases hr;cases hy
  exact⟨rfl,hq.fr hf (zQq hq.1 k1 (by decide))⟩
 ·rw[if_neg e]at hr hy
  obtain⟨e1,e2⟩:=k4 i r y hr hy
  exact⟨e1,e2.fr hf (zQq e2.1 k1 (by decide))⟩
theorem zX0{t:Tbl}(hv:zQf t=0):yXM t:=by
 have ho:=zJg.of hv
 have hp:=ho.page
 unfold zQX at hp
 simp only[Bool.and_eq_true,decide_eq_true_eq]at hp
 have iY:=ho.n16
 refine⟨⟨by omega,by omega⟩,λg hg=>?_,zZl hv,by omega,ho.m300,λg hg=>(zXb (List.all_eq_true.1 ho.all g hg)).2.1⟩
 have hg:=List.all_eq_true.1 ho.all g hg
 have h1:=yX9 hg
 have h2:=zXt hg
 exact⟨⟨by omega,by omega⟩,⟨by omega,by omega⟩⟩
structure ChS(w0:World)(r2 r4:Nat)(t:Tbl)(qf:SV)(recs:List Rec)(w:World):Prop where
 ex:∃s,w.heap[r2]?=some (.cells #[.int .i64 t.page,slV qf,slV s] 35)/\zKj w0 w s recs
 b4:w.heap[r4]?=some (.cells #[.int .i64 0,.slice none 0 0,.slice none 0 0] 35)
 qf:zKS w0 w qf t.fields
 pu:Pu w0 w
 z2:w0.heap.size<=r2
 z4:w0.heap.size<=r4
 ne:r2 ≠ r4
theorem ChS.on{w0:World}{r2 r4:Nat}{t:Tbl}{qf:SV}{recs:List Rec}(h:ChS w0 r2 r4 t qf recs w)(hp:Pu w w'):ChS w0 r2 r4 t qf recs w':=by
 obtain⟨s,h1,h2⟩:=h.ex
 exact⟨⟨s,hp.blk h1,h2.pu hp⟩,hp.blk h.b4,h.qf.pu hp,h.pu.trans hp,h.z2,h.z4,h.ne⟩
theorem ChS.bad{w0:World}{r2 r4:Nat}{t:Tbl}{qf:SV}{recs:List Rec}{body:List UInt8}(h:ChS w0 r2 r4 t qf recs w)(hno:zQZ t body=none):badT (kQn w0 t body) (some ⟨r2,0,none⟩) (some ⟨r4,0,none⟩) [] w:=by
 obtain⟨s,h1,h2⟩:=h.ex
 refine⟨_,cl h1 0,qf,cl h1 1,s,cl h1 2,zQi h.b4 zKW.symm rfl rfl λw2 aM fY _=>⟨_,cl aM 0,qf,cl aM 1,s,cl aM 2,h.pu.andNew fY λi hi=>by rw[show i=_ from hi];exact h.z4,_,qf,s,false,rfl,.inl ⟨rfl,hno⟩⟩⟩
theorem xWI{w0:World}{r2 r4:Nat}{t:Tbl}{qf:SV}{recs:List Rec}{body:List UInt8}{J1:SV->World->Prop}{n6 n8:Int}{dr:Nat}{l9:SV}{cq:Nat}{ok g:Bool}{q:SV}{row:List UInt8}
  (h:ChS w0 r2 r4 t qf recs w) (hb:w.heap[cq]?=some (.cells #[.bool g,slV q] 67)) (hrow:(ok=false/\yXN t row=none)∨ok=true/\∃x,yXN t row=some x/\g=x.gone/\zJY w0 w q x.v) (cM:recs.length<=300)
  (hno:yXN t row=none∨dr<1∨recs.length+1<dr∨300<dr->zQZ t body=none)
  (hJ:∀x w',yXN t row=some x->¬(dr<1∨recs.length+1<dr∨300<dr)->ChS w0 r2 r4 t qf (if recs.length<dr then recs ++ [x]else recs.set (dr - 1) x) w'->Fr (λb=>w0.heap.size<=b) w w'->zYF (kQn w0 t body) J1 (some ⟨r2,0,none⟩) (some ⟨r4,0,none⟩) n6 n8 l9 [] w') :
  chgT (kQn w0 t body) J1 (some ⟨r2,0,none⟩) (some ⟨r4,0,none⟩) n6 n8 (dr:Int) l9 cq ok [] w:=by
 obtain⟨s,h1,h2⟩:=h.ex
 have hsl:=h2.len
 refine Br.of (λc=>?_) (λc=>?_)
 ·have c:ok=false:=by simpa using c
  rcases hrow with⟨_,h0⟩|⟨h0,_⟩
  ·exact h.bad (hno (.inl h0))
  ·rw[c]at h0;cases h0
 have c:ok=true:=by simpa using c
 rcases hrow with⟨h0,_⟩|⟨_,x,hx,rfl,hV⟩
 ·rw[c]at h0;cases h0
 refine Br.of (λc1=>h.bad (hno (.inr (.inl (by have:=zQk c1;omega))))) (λc1=>⟨s,cl h1 2,?_⟩)
 have c1:=zQd c1
 rw[zQa (by omega) (by omega)]
 refine Br.of (λc2=>h.bad (hno (.inr (.inr (.inl (by have:=zQk c2;omega)))))) (λc2=>Br.of (λc3=>h.bad (hno (.inr (.inr (.inr (by have:=zQk c3;omega)))))) (λc3=>⟨s,cl h1 2,?_⟩))
 have c2:=zQd c2
 have c3:=zQd c3
 have hgood:¬(dr<1∨recs.length+1<dr∨300<dr):=by omega
 refine Br.of (λc4=>⟨s,cl h1 2,x.gone,cl hb 0,q,cl hb 1,alB λwa hpa ha=>?_⟩) (λc4=>⟨s,cl h1 2,x.gone,cl hb 0,q,cl hb 1,?_⟩)
 ·have c4:=zQk c4
  obtain⟨s',wb,hrb,nb,hfb⟩:=(h2.pu hpa).push (g:=x.gone) (vs:=x.v) (h.pu.trans hpa).size (hV.pu hpa) ha rfl (by omega)
  have h2b:=hfb.blk (hpa.blk h1) (λhk=>by obtain⟨qs,k1,_⟩:=h2.pu hpa;exact k1.other (hpa.blk h1) (by decide) hk)
  have h4b:=hfb.blk (hpa.blk h.b4) (λhk=>by obtain⟨qs,k1,_⟩:=h2.pu hpa;exact k1.other (hpa.blk h.b4) (by decide) hk)
  refine⟨s',wb,hrb,zQt h2b (by show 2<3;omega) λwc hwc hbc=>?_⟩
  have hfc:Fr (·=r2) wb wc:=by rw[hwc];exact Fr.cell wb _ _ _
  have hpb:Pu w0 wb:=(h.pu.trans hpa).andNew hfb (h2.pu hpa).own
  have hqf:zKS w0 wb qf t.fields:=(h.qf.pu hpa).fr hfb λk hk e=>by obtain⟨qs,k1,_⟩:=h2.pu hpa;exact zQq (h.qf.pu hpa).1 k1 (by decide) k hk e
  refine hJ x wc hx hgood ⟨⟨s',hbc,?_⟩,hfc.blk h4b (Ne.symm h.ne),hqf.fr hfc λk hk e=>hqf.1.other h2b (by decide) (by rw[←show k=r2 from e];exact hk),hpb.andNew hfc λi hi=>by rw[show i=_ from hi];exact h.z2,h.z2,h.z4,h.ne⟩ ?_
  ·rw[if_pos (by omega)];exact nb.other hfc h2b (by decide) (by decide)
  ·exact((Fr.pu hpa:Fr (λb=>w0.heap.size<=b) w wa).trans hfb λb hb _=>h2.own b hb).trans hfc λb hb _=>by rw[show b=_ from hb];exact h.z2
 ·have c4:=zQd c4
  rw[zQa (by omega) (by omega),show(dr:Int) - 1=((dr - 1:Nat):Int)by omega]
  obtain⟨a,ha,hst⟩:∃a,s.a=some a/\stA prog 67 (a.add ((dr - 1) * 2)) #[.bool x.gone,slV q] w λqo=>zYF (kQn w0 t body) J1 (some ⟨r2,0,none⟩) (some ⟨r4,0,none⟩) n6 n8 l9 [] qo:=by
   refine h2.set (by omega) hV λwb nb hfb=>?_
   have ne35:∀{b:Nat} {c:Array Value},w.heap[b]?=some (.cells c 35)->¬b ∈ zQe s:=λhb hk=>by obtain⟨qs,k1,_⟩:=h2;exact k1.other hb (by decide) hk
   refine hJ x wb hx hgood ⟨⟨s,hfb.blk h1 (ne35 h1),by rw[if_neg (by omega)];exact nb⟩,hfb.blk h.b4 (ne35 h.b4),h.qf.fr hfb λk hk e=>by obtain⟨qs,k1,_⟩:=h2;exact zQq h.qf.1 k1 (by decide) k hk e,h.pu.andNew hfb h2.own,h.z2,h.z4,h.ne⟩ (hfb.mono λb hb _=>h2.own b hb)
  exact⟨a,ha,by omega,by omega,by rw[zXj];exact hst⟩
end Go.Proofs.YtaeecpjhfmcliaaGreatDoor
