import Derived.Test.YtaeecpjhfmcliaaGreatDoorLgOwF
import Derived.Test.YtaeecpjhfmcliaaGreatDoorLgPrB
import Derived.Test.YtaeecpjhfmcliaaGreatDoorLgOwB
import Derived.Test.YtaeecpjhfmcliaaGreatDoorShThirteen
/- The log: stores are made of tables and of files. No condition but those stated. -/
set_option maxRecDepth 100000
set_option linter.unusedVariables false
set_option linter.unusedSimpArgs false
namespace Go.Proofs.YtaeecpjhfmcliaaGreatDoor
open Go.Sh Go.RowKit Tryz
variable {w w' : World} {X : Nat -> Prop}
def NewS(X:Nat->Prop)(w w':World)(p:Option Addr)(d:Dat):Prop:=∃L:SL,p=some ⟨L.S,0,none⟩/\zQH X w' L d 0/\∀b,L.own b->w.heap.size<=b
theorem made_c{t:Tbl}{f r s q0 q1:SV}{F:Fls}(h:zXB w t f r)(hv:zQh t=0)(hX:∀b,X b->b<w.heap.size)(hF:zXU X w s q0 q1 F) :
  Calls prog 50 #[zYq t f r,slV s] w λe w'=>∃p,e=.returned (.pointer p)/\NewS X w w' p (Dat.new t F)/\Pu w w':=by
 refine yV6 _ _ _ _ w _ (alB λw1 aA aD=>zQe λw2 ay _=>?_)
 have aJ:=aA.trans ay
 have cz:=ay.blk aD
 refine⟨λu=>Pu w2 u,Pu.refl _,t.page,λu hu=>cl (hu.blk cz) 0,f,λu hu=>cl (hu.blk cz) 1,r,λu hu=>cl (hu.blk cz) 2,t.page,λu hu=>cl (hu.blk cz) 0,f,λu hu=>cl (hu.blk cz) 1,r,λu hu=>cl (hu.blk cz) 2,(zJ5 (h.pu aJ) hv).mono ?_⟩
 rintro e w3 ⟨x,rfl,hx,aC⟩
 refine⟨x.page,x.f,x.r,rfl,aC,(zJ5 ((h.pu aJ).pu aC) hv).mono ?_⟩
 rintro e w4 ⟨y,rfl,hy,aK⟩
 refine⟨y.page,y.f,y.r,rfl,alB λw5 ba bq=>alB λw6 cW iB=>?_⟩
 have kz:=((aJ.trans aC).trans aK).trans ba
 have fp:=kz.trans cW
 have z2:=aJ.size
 have z3:=aC.size
 have z4:=aK.size
 have lt4:w4.heap.size<w5.heap.size:=zQ5 bq
 have lt5:w5.heap.size<w6.heap.size:=zQ5 iB
 have b9:=cW.blk bq
 have pO:zWg w2 w6 t x:=(((hx.pu aK).pu ba).pu cW)
 have qx:zWg w3 w6 t y:=((hy.pu ba).pu cW)
 have xlt:∀b,x.own b->b<w3.heap.size:=hx.tab.lt
 have xlo:∀b,x.own b->w2.heap.size<=b:=λb hb=>hb.elim (hx.rn b) (hx.vn b)
 obtain⟨L,hL⟩:∃L:SL,L=⟨w5.heap.size,x,⟨none,0,0⟩,[],⟨some ⟨w4.heap.size,0,none⟩,1,1⟩,[y],s,q0,q1,s,q0,q1,⟨none,0,0⟩,[],⟨none,0,0⟩⟩:=⟨_,rfl⟩
 have own:∀b,L.own b->b=w5.heap.size∨b=w4.heap.size∨x.own b:=λb hb=>by
  rw[hL]at hb
  rcases hb with hb|hb|hb|hb|hb|⟨z,hz,hb⟩
  ·exact .inl hb
  ·simp[zQb]at hb
  ·simp[zQb]at hb;exact .inr (.inl hb)
  ·simp[zQb]at hb
  ·simp[zQb]at hb
  ·have hz:z=x:=by simpa using hz
   rw[hz]at hb;exact .inr (.inr hb)
 have ml:∀b,L.own b->w.heap.size<=b:=λb hb=>by
  rcases own b hb with rfl|rfl|hb
  ·omega
  ·omega
  ·have:=xlo b hb;omega
 refine⟨_,rfl,⟨L,by rw[hL],⟨?_,?_,?_,?_,?_,?_,?_,?_,?_,?_,?_,?_,?_,λb hb=>Nat.lt_of_lt_of_le (hX b hb) fp.size,?_⟩,ml⟩,fp⟩
 ·rw[hL];exact iB
 ·rw[hL];exact zQi.nil _ _ _
 ·rw[hL]
  refine⟨rfl,.inr ⟨_,_,rfl,b9,Nat.le_refl _,by show 1<=maxLen;unfold maxLen;omega,rfl,rfl⟩⟩
 ·rw[hL];exact zQi.nil _ _ _
 ·rw[hL];exact zQi.nil _ _ _
 ·rw[hL];exact pO.tab
 ·rw[hL];rfl
 ·rw[hL];rfl
 ·rw[hL];rfl
 ·intro i a u ha;rw[hL]at ha;simp at ha
 ·intro b hb;rw[hL]at hb;simp[zQb]at hb
 ·intro a ha;rw[hL]at ha;simp at ha
 ·intro i j a c _ ha;rw[hL]at ha;simp at ha
 ·intro w7 h7
  have hFX:zXK w7 s q0 q1 F:=hF w7 ((Fr.pu fp:Fr X w w6).trans h7 λb hb hlt=>by
   rcases hb with hb|hb
   ·have:=ml b hb;omega
   ·exact hb)
  have hnb:∀b,w3.heap.size<=b->b<w4.heap.size->¬(L.own b∨X b):=λb h1 h2 e=>by
   rcases e with e|e
   ·rcases own b e with rfl|rfl|e
    ·omega
    ·omega
    ·have:=xlt b e;omega
   ·have:=hX b e;omega
  have hyl:∀b,y.own b->b<w4.heap.size:=hy.tab.lt
  have hy7:zXB w7 t y.f y.r:=by
   have hyt:zZX w7 t y:=qx.tab.fr h7 λb hb=>hnb b (hb.elim (qx.rn b) (qx.vn b)) (hyl b hb)
   have hyf:zQi w7 129 4 y.f (t.fields.flatMap zVr):=qx.f.fr h7 λb hb=>hnb b (qx.fn b hb) (hy.f.lt b hb)
   exact hyt.rd (zKq hv hyf) hv
  have hxf:zXV w7 x.f t.fields:=by
   refine zKq hv (pO.f.fr h7 λb hb e=>?_)
   rcases e with e|e
   ·rcases own b e with e|e|e
    ·exact pO.f.other iB (by decide) (by rw[←e];exact hb)
    ·exact pO.f.other b9 (by decide) (by rw[←e];exact hb)
    ·obtain⟨_,hd|⟨g,cur,g3,g4,_⟩⟩:=pO.f
     ·rw[hd]at hb;simp[zQb]at hb
     ·simp[zQb,g3]at hb;subst hb
      exact pO.tab.other g4 (by decide) (by decide) e
   ·have:=pO.fn b hb;have:=hX b e;omega
  rw[hL]
  refine⟨hxf,λi a u ha=>by simp at ha,λi a u ha hu=>?_,hFX,hFX,λi a u ha=>by simp at ha⟩
  rcases i with _|i
  ·simp at ha;subst ha
   have hu:[t][0]?=some u:=hu
   simp at hu;subst hu
   exact⟨qx.tab.page,hy7⟩
  ·simp at ha
theorem new_c{t:Tbl}{f r:SV}(h:zXB w t f r)(hl:Lim.ok t.fields)(hX:∀b,X b->b<w.heap.size) :
  Calls prog 43 #[zYq t f r] w λe w'=>Pu w w'/\((zQh t ≠ 0/\e=.returned (.tuple #[.pointer none,.int .i64 (zQh t)]))∨zQh t=0/\∃p,e=.returned (.tuple #[.pointer p,.int .i64 0])/\NewS X w w' p (Dat.new t (zQz t,[]))):=by
 refine yVi _ _ _ w _ (alB λw1 aA aD=>⟨_,cl aD 0,f,cl aD 1,r,cl aD 2,(yYG (h.pu aA) hl).mono ?_⟩)
 rintro e w2 ⟨q,rfl,hq,ay⟩
 have aJ:=aA.trans ay
 have cz:=ay.blk aD
 refine⟨q,_,rfl,Br.of (λc=>⟨aJ,.inl ⟨zQG c,rfl⟩⟩) (λc=>⟨_,cl cz 0,f,cl cz 1,r,cl cz 2,alB λw3 aC be=>?_⟩)⟩
 have hv:zQh t=0:=zQ4 c
 have hbo:zJB t=zQz t:=by unfold zJB;rw[if_pos hv]
 rw[hbo]at hq
 have cd:=aJ.trans aC
 have hle:=zVe (zJE.of hv)
 have hrow:zQi w3 22 1 ⟨some ⟨w2.heap.size,0,none⟩,2,2⟩ [slV q,slV ⟨none,0,0⟩]:=⟨rfl,.inr ⟨_,_,rfl,be,Nat.le_refl _,by show 2<=maxLen;unfold maxLen;omega,rfl,rfl⟩⟩
 have yK:=(hq.pu aC).low aA.size
 have hz:=aJ.size
 have hF:zXU X w3 ⟨some ⟨w2.heap.size,0,none⟩,2,2⟩ q ⟨none,0,0⟩ (zQz t,[]):=λw4 h4=>files_row (hrow.fr h4 λb hb e=>by
   simp[zQb]at hb;have:=hX b e;omega) ((yK.fr h4 λb hb e=>by have:=yK.2 b hb;have:=hX b e;omega).by (by omega)) ⟨rfl,Nat.le_refl _,Nat.zero_le _,λj b hj=>by simp at hj⟩
 refine(made_c (h.pu cd) hv (λb hb=>Nat.lt_of_lt_of_le (hX b hb) cd.size) hF).mono ?_
 rintro e w4 ⟨p,rfl,⟨L,rfl,hS,ho⟩,aK⟩
 refine⟨_,rfl,cd.trans aK,.inr ⟨hv,_,rfl,L,rfl,hS,λb hb=>Nat.le_trans cd.size (ho b hb)⟩⟩
end Go.Proofs.YtaeecpjhfmcliaaGreatDoor
/- The log: files are opened; the steps of a recovery. No condition but those stated. -/
namespace Go.Proofs.YtaeecpjhfmcliaaGreatDoor
open Go.Sh Go.RowKit Tryz
variable {w w' : World} {X : Nat -> Prop}
theorem vu28:prog.underlying 28=some (.slice 63):=by kernel_rfl
theorem vi63:(prog.info? 63).map (λi=>(i.zero,i.size,i.bytes))=some (some (.agg #[.slice none 0 0,.slice none 0 0]),2,48):=by kernel_rfl
theorem zK5.at_ {w0:World} {q:SV} {wh:List (Int × Int × SV)} {l:List Wr} (h:zK5 w0 w q wh l) {k:Nat} {y:Wr} (hy:l[k]?=some y):∃a x,q.a=some a/\k<q.len/\w.cell? ((a.add (k * 3)).add 0)=some (.int .i64 y.file)/\w.cell? ((a.add (k * 3)).add 1)=some (.int .i64 y.at_)/\w.cell? ((a.add (k * 3)).add 2)=some (slV x)/\yVH w0 w x y.b:=by
 obtain⟨x,hx⟩:=zXf (l:=wh) (k:=k) (by rw[h.len];exact(List.getElem?_eq_some_iff.1 hy).1)
 obtain⟨e1,e2,e3⟩:=h.each k x y hx hy
 obtain⟨a,ha,hk,c0⟩:=h.row.elem zJZ hx (o:=0) rfl
 obtain⟨a',ha',_,c1⟩:=h.row.elem zJZ hx (o:=1) rfl
 obtain⟨a'',ha'',_,c2⟩:=h.row.elem zJZ hx (o:=2) rfl
 rw[ha]at ha' ha'';cases ha';cases ha''
 exact⟨a,x.2.2,ha,hk,by rw[c0,e1],by rw[c1,e2],c2,e3⟩
abbrev yWk(x:SV × SV):List Value:=[slV x.1,slV x.2]
theorem yV5(x:SV × SV):(yWk x).length=2:=rfl
structure zK8 (w0 w:World) (q:SV) (ps:List (SV × SV)) (l:List Fls):Prop where
 row:zQi w 63 2 q (ps.flatMap yWk)
 rn:∀b ∈ zQb q,w0.heap.size<=b
 len:ps.length=l.length
 each:∀(i:Nat) x F,ps[i]?=some x->l[i]?=some F->zQc w0 w x.1 F.1/\zQc w0 w x.2 F.2
theorem zK8.pu {w0:World} {q:SV} {ps:List (SV × SV)} {l:List Fls} (h:zK8 w0 w q ps l) (hp:Pu w w'):zK8 w0 w' q ps l:=
 ⟨h.row.pu hp,h.rn,h.len,λi x F hx hF=>⟨(h.each i x F hx hF).1.pu hp,(h.each i x F hx hF).2.pu hp⟩⟩
theorem zK8.push {w0:World} {q:SV} {ps:List (SV × SV)} {l:List Fls} (h:zK8 w0 w q ps l) (hz:w0.heap.size<=w.heap.size) {r:Nat} {x:SV × SV} {F:Fls} (hr:w.heap[r]?=some (.cells (yWk x).toArray 63)) (hb:l.length<=100000) (h0:zQc w0 w x.1 F.1) (h1:zQc w0 w x.2 F.2) :
  ∃(s:SV) (w1:World),(Builtin.append_ #[28,28] 28 #[slV q,.slice (some ⟨r,0,none⟩) 1 1]).run prog w=.ok (slV s) w1/\zK8 w0 w1 s (ps ++ [x]) (l ++ [F])/\Fr (· ∈ zQb q) w w1/\∀k ∈ zQb s,k ∈ zQb q∨w.heap.size<=k:=by
 have hl:=h.row.len yV5 (by decide)
 have hll:=h.len
 obtain⟨s,w1,hra,hrow,cY,hblk,hsl⟩:=zQ1 (P:=prog) (ty:=28) vu28 vi63 rfl (by decide) h.row (A:=some ⟨r,0,none⟩) (m:=1) (c:=1) (news:=yWk x) rfl (λj u hu=>⟨_,rfl,by rw[cl hr];simpa using hu⟩) (λu hu=>by simp[yWk]at hu;rcases hu with rfl|rfl <;> rfl) (by show(q.len+1) * (48+1)<=_;omega)
 refine⟨s,w1,hra,⟨by rw[List.flatMap_append,List.flatMap_singleton];exact hrow,λb hb=>?_,by simp[hll],?_⟩,cY,hblk⟩
 ·rcases hblk b hb with h1|h1
  ·exact h.rn b h1
  ·omega
 ·exact zYx (P:=λx F=>zQc w0 w1 x.1 F.1/\zQc w0 w1 x.2 F.2) h.len (λi y G hy hG=>⟨(h.each i y G hy hG).1.fr cY λk hk e=>zQp (h.each i y G hy hG).1.1 h.row (by decide) k hk e,(h.each i y G hy hG).2.fr cY λk hk e=>zQp (h.each i y G hy hG).2.1 h.row (by decide) k hk e⟩) ⟨h0.fr cY λk hk e=>zQp h0.1 h.row (by decide) k hk e,h1.fr cY λk hk e=>zQp h1.1 h.row (by decide) k hk e⟩
end Go.Proofs.YtaeecpjhfmcliaaGreatDoor
/- The log: what the reading methods of a store tell. No condition but those stated. -/
namespace Go.Proofs.YtaeecpjhfmcliaaGreatDoor
open Go.Sh Go.RowKit Tryz
variable {w0 w w' : World} {X : Nat -> Prop} {L L' : SL} {d d' : Dat} {mu : Int}
structure Ins(w0 w:World)(L:SL):Prop where
 fr:Fr (·=L.S) w0 w
 st:w.heap[L.S]?=some (.cells (zZR 1 L) 108)
theorem Ins.at_(hi:Ins w0 w L)(h0:zQH X w0 L d mu):zQH X w L d 1:=h0.reS hi.fr hi.st
theorem Ins.pu(hi:Ins w0 w L)(hp:Pu w w'):Ins w0 w' L:=⟨hi.fr.trans (Fr.pu hp:Fr (·=L.S) w w') λ_ h _=>h,hp.blk hi.st⟩
theorem Ins.box (hi:Ins w0 w L) {r:Nat} (hf:Fr (·=r) w w') (hS:L.S<w0.heap.size) (hr:w0.heap.size<=r):Ins w0 w' L:=
 ⟨hi.fr.trans hf λb hb hlt=>by have hb:b=r:=hb;omega,hf.blk hi.st (show ¬L.S=r by omega)⟩
theorem Ins.left(hi:Ins w0 w L):zZe w0 w L L:=⟨hi.fr.mono λb hb _=>.inl hb,λ_ h=>.inl h,rfl⟩
theorem zQH.S_lt(h:zQH X w L d mu):L.S<w.heap.size:=h.own_lt (.inl rfl)
theorem zZg(h:zQH X w0 L d 0)(hp:Pu w0 w):Calls prog 55 #[L.ptr] w λe w'=>e=.returned (.tuple #[yV4 L,.int .i64 0])/\Ins w0 w' L/\Fr (·=L.S) w w'/\w'.heap.size=w.heap.size:=by
 refine(xJf (h.pu hp)).mono ?_
 rintro e w1 ⟨he,h1,hf,hs⟩
 exact⟨he,⟨(Fr.pu hp:Fr (·=L.S) w0 w).trans hf λ_ h _=>h,h1.st⟩,hf,hs⟩
theorem zKo (h0:zQH X w0 L d 0) (hi:Ins w0 w L) {K:World->Prop} (hK:∀w',Pu w0 w'->Fr (·=L.S) w w'->K w'):zQd prog [zZt L] w K:=yYK h0 (hi.at_ h0) hi.fr hK
theorem zWg.out {wa:World} {t:Tbl} {q:HT} (h:zWg wa w t q) (hf:Fr (·=L.S) w w') (hS:L.S<w0.heap.size) (hz:w0.heap.size<=wa.heap.size):zWg w0 w' t q:=
 (h.fr hf λb hb _ e=>by have e:b=L.S:=e;omega).low hz
theorem zQc.out {wa:World} {q:SV} {l:List UInt8} (h:zQc wa w q l) (hf:Fr (·=L.S) w w') (hS:L.S<w0.heap.size) (hz:w0.heap.size<=wa.heap.size):zQc w0 w' q l:=
 (h.fr hf λb hb e=>by have:=h.2 b hb;have e:b=L.S:=e;omega).low hz
theorem zWT {K:FuncId->Array Value->Array Value->Prop} (h:K 96 #[L.ptr] #[]):fnE (yV4 L) K:=h
theorem yWQ(h:zQH X w L d 0)(hn:d.σ.done.length<=1000000):Calls prog 22 #[L.ptr] w λe w'=>e=.returned (.int .i64 ((d.σ.done.length:Nat) - 1))/\Pu w w':=by
 have hl:=h.dn.len zQL (by decide)
 have hll:=h.dl
 refine yQZ _ w _ ((zZg h (Pu.refl w)).mono ?_)
 rintro e w1 ⟨rfl,hi,hf,hs⟩
 refine⟨_,_,rfl,zWT (Br.of (λc=>by cases c) λ_=>⟨L.dn,(hi.at_ h).cellA 6,zKo h hi λw2 ay _=>⟨?_,ay⟩⟩)⟩
 rw[zQa (by omega) (by omega),hl,hll]
theorem yQJ(h:zQH X w L d 0)(hv:zQh d.σ.t=0):Calls prog 14 #[L.ptr] w λe w'=>∃q:HT,e=.returned (.agg #[.int .i64 q.page,slV q.f,slV q.r])/\zWg w w' d.σ.t q/\Pu w w':=by
 have hS:=h.S_lt
 refine yQ0 _ w _ (alB λw1 aA aD=>(zZg h aA).mono ?_)
 rintro e w2 ⟨rfl,hi,hf,hs⟩
 have h2:=hi.at_ h
 have xb:=aA.size
 refine⟨_,_,rfl,zWT (Br.of (λc=>by cases c) λ_=>⟨_,h2.cellB 2 0,L.now.f,h2.cellB 2 1,L.now.r,h2.cellB 2 2,?_⟩)⟩
 rw[h2.now.page]
 refine(zJ5 (h2.rdNow hv) hv).mono ?_
 rintro e w3 ⟨q,rfl,hq,aC⟩
 have lV:=aC.blk (hf.blk aD (show ¬w.heap.size=L.S by omega))
 refine⟨q.page,q.f,q.r,rfl,zQl lV zVm.symm rfl rfl λw4 cc fX _=>?_⟩
 refine zKo h ((hi.pu aC).box fX hS (Nat.le_refl _)) λw5 ba ci=>?_
 have bq:=ci.blk cc (show ¬w.heap.size=L.S by omega)
 refine⟨_,cl bq 0,q.f,cl bq 1,q.r,cl bq 2,q,rfl,?_,ba⟩
 have mt:w.heap.size<w1.heap.size:=zQ5 aD
 exact(hq.fr fX λb hb _ e=>by have e:b=w.heap.size:=e;omega).out ci hS (by omega)
theorem yXz(h:zQH X w L d 0)(hv:∀t ∈ d.σ.done,zQh t=0)(n:Int):Calls prog 27 #[L.ptr,.int .i64 n] w λe w'=>∃q:HT,e=.returned (.tuple #[.agg #[.int .i64 q.page,slV q.f,slV q.r],.int .i64 (yX4 d.σ n)])/\zWg w w' (yQb d.σ n) q/\Pu w w':=by
 have hS:=h.S_lt
 have hl:=h.dn.len zQL (by decide)
 have hll:=h.dl
 refine zYR _ _ w _ (alB λw1 aA aD=>(zZg h aA).mono ?_)
 rintro e w2 ⟨rfl,hi,hf,hs⟩
 have h2:=hi.at_ h
 have xb:=aA.size
 have mt:w.heap.size<w1.heap.size:=zQ5 aD
 have cz:=hf.blk aD (show ¬w.heap.size=L.S by omega)
 refine⟨_,_,rfl,zWT (Br.of (λc=>by cases c) λ_=>?_)⟩
 have bad:¬(0<=n/\n<d.σ.done.length)->stA prog 35 (⟨w.heap.size,0,none⟩:Addr) #[.int .i64 0,.slice none 0 0,.slice none 0 0] w2 λw5=>zQd prog [zZt L] w5 λw6=>
   ∃ag:Int,w6.cell? ((⟨w.heap.size,0,none⟩:Addr).add 0)=some (.int .i64 ag)/\∃ab:SV,w6.cell? ((⟨w.heap.size,0,none⟩:Addr).add 1)=some (.slice ab.a ab.len ab.cap)/\∃ae:SV,w6.cell? ((⟨w.heap.size,0,none⟩:Addr).add 2)=some (.slice ae.a ae.len ae.cap)/\
   ∃q:HT,Ending.returned (.tuple #[.agg #[.int .i64 ag,.slice ab.a ab.len ab.cap,.slice ae.a ae.len ae.cap],.int .i64 1])=.returned (.tuple #[.agg #[.int .i64 q.page,slV q.f,slV q.r],.int .i64 (yX4 d.σ n)])/\zWg w w6 (yQb d.σ n) q/\Pu w w6:=λhn=>by
  refine zQl cz zVm.symm rfl rfl λw4 cc fX _=>zKo h (hi.box fX hS (Nat.le_refl _)) λw5 ba ci=>?_
  have bq:=ci.blk cc (show ¬w.heap.size=L.S by omega)
  refine⟨_,cl bq 0,⟨none,0,0⟩,cl bq 1,⟨none,0,0⟩,cl bq 2,⟨0,⟨none,0,0⟩,⟨none,0,0⟩,[]⟩,?_,?_,ba⟩
  ·unfold yX4;rw[if_neg hn]
  ·have e:yQb d.σ n=xZU:=by unfold yQb;rw[if_neg hn]
   rw[e]
   exact⟨⟨rfl,zQi.nil _ _ _,rfl,λi x r hx=>by simp at hx,by simp[vBl]⟩,zQi.nil _ _ _,by simp[zQb],by simp[zQb],by simp[vBl]⟩
 refine Br.of (λc=>bad (by have:=zQs c;omega)) (λc=>⟨L.dn,h2.cellA 6,Br.of (λc1=>bad (by have:=zQs c1;omega)) (λc1=>?_)⟩)
 have c:=zQj c
 have c1:=zQj c1
 have hn:0<=n/\n<d.σ.done.length:=by omega
 obtain⟨k,rfl⟩:∃k:Nat,n=(k:Int):=⟨n.toNat,by omega⟩
 obtain⟨t,ht⟩:=zXf (l:=d.σ.done) (k:=k) (by omega)
 obtain⟨x,hx⟩:=zXf (l:=L.dh) (k:=k) (by omega)
 obtain⟨ep,hR⟩:=(h2.kp0).dt k x t hx ht
 obtain⟨a,ha,hk,c0⟩:=h2.dn.elem zQL hx (o:=0) rfl
 obtain⟨a',ha',_,lL⟩:=h2.dn.elem zQL hx (o:=1) rfl
 obtain⟨a'',ha'',_,c2⟩:=h2.dn.elem zQL hx (o:=2) rfl
 rw[ha]at ha' ha'';cases ha';cases ha''
 refine⟨L.dn,h2.cellA 6,a,ha,by omega,by omega,x.page,by rw[zZW];exact c0,x.f,by rw[zZW];exact lL,x.r,by rw[zZW];exact c2,?_⟩
 have hvt:=hv t (List.mem_of_getElem? ht)
 have e:yQb d.σ (k:Int)=t:=by unfold yQb;rw[if_pos hn,zZW,List.getD_eq_getElem?_getD,ht];rfl
 have e2:yX4 d.σ (k:Int)=0:=by unfold yX4;rw[if_pos hn]
 rw[ep]
 refine(zJ5 hR hvt).mono ?_
 rintro e3 w3 ⟨q,rfl,hq,aC⟩
 refine⟨q.page,q.f,q.r,rfl,zQl (aC.blk cz) zVm.symm rfl rfl λw4 cc fX _=>?_⟩
 refine zKo h ((hi.pu aC).box fX hS (Nat.le_refl _)) λw5 ba ci=>?_
 have bq:=ci.blk cc (show ¬w.heap.size=L.S by omega)
 refine⟨_,cl bq 0,q.f,cl bq 1,q.r,cl bq 2,q,by rw[e2],?_,ba⟩
 rw[e]
 exact(hq.fr fX λb hb _ e=>by have e:b=w.heap.size:=e;omega).out ci hS (by omega)
end Go.Proofs.YtaeecpjhfmcliaaGreatDoor
/- The log: what differs from the last committed table; the files behind some writes. No condition but those stated. -/
namespace Go.Proofs.YtaeecpjhfmcliaaGreatDoor
open Go.Sh Go.RowKit Tryz
variable {w0 w w' : World} {X : Nat -> Prop} {L L' : SL} {d d' : Dat} {mu : Int} {p : Int} {f : List Fld}
theorem zQH.lastD (h:zQH X w L d mu) (hne:d.σ.done ≠ []) (hn:d.σ.done.length<=1000000):∃(x:HT) (a:Addr),L.dn.a=some a/\(IntKind.i64.wrap (((L.dn.len:Nat):Int) - 1))=((d.σ.done.length - 1:Nat):Int)/\d.σ.done.length - 1<L.dn.len/\w.cell? ((a.add ((d.σ.done.length - 1) * 3)).add 0)=some (.int .i64 d.σ.last.page)/\
  w.cell? ((a.add ((d.σ.done.length - 1) * 3)).add 1)=some (slV x.f)/\w.cell? ((a.add ((d.σ.done.length - 1) * 3)).add 2)=some (slV x.r)/\zXB w d.σ.last x.f x.r:=by
 have hl:=h.dn.len zQL (by decide)
 have hdl:=h.dl
 have hpos:=List.length_pos_iff.2 hne
 have hlast:=zZ7 hne
 rw[List.getLast?_eq_getElem?]at hlast
 obtain⟨x,hx⟩:=zXf (l:=L.dh) (k:=d.σ.done.length - 1) (by omega)
 obtain⟨ep,hR⟩:=h.kp0.dt _ x _ hx hlast
 obtain⟨a,ha,hk,c0⟩:=h.dn.elem zQL hx (o:=0) rfl
 obtain⟨a',ha',_,c1⟩:=h.dn.elem zQL hx (o:=1) rfl
 obtain⟨a'',ha'',_,c2⟩:=h.dn.elem zQL hx (o:=2) rfl
 rw[ha]at ha' ha'';cases ha';cases ha''
 exact⟨x,a,ha,by rw[zQa (by omega) (by omega)];omega,hk,by rw[c0,ep],c1,c2,hR⟩
theorem yQo(h:InvW p f d):xZp d.σ.last d.σ.t=(zZ1 d.σ,0):=by
 have hL:=h.lastL
 unfold xZp
 rw[if_neg (by rw[hL.ok];simp),if_neg (by rw[h.t.ok];simp),if_neg (by rw[hL.page,hL.fields,h.t.page,h.t.fields];simp)]
 rfl
structure Small(d:Dat):Prop where
 f1:d.first.1.length<=400000000
 f2:d.first.2.length<=400000000
 wn:d.wr.length<=500
 wb:∀x ∈ d.wr,okW x
theorem Small.files(h:Small d)(n:Nat):(zXD d.first d.wr n).1.length<=750000000/\(zXD d.first d.wr n).2.length<=750000000:=by
 have h1:=yKZ (F:=d.first) (W:=d.wr.take n) (c:=400000000) ⟨h.f1,h.f2⟩ λy hy=>(h.wb y (List.mem_of_mem_take hy)).2.2
 have h2:(d.wr.take n).length<=500:=by rw[List.length_take];have:=h.wn;omega
 unfold zXD
 omega
end Go.Proofs.YtaeecpjhfmcliaaGreatDoor
/- The log: writes to the files of a store; a commit. No condition but those stated. -/
namespace Go.Proofs.YtaeecpjhfmcliaaGreatDoor
open Go.Sh Go.RowKit Tryz
variable {w0 w w' : World} {X : Nat -> Prop} {L L' : SL} {d d' : Dat} {mu : Int} {p : Int} {f : List Fld}
theorem xZb{B:Nat->Prop}{Q:World->Prop}(h:∀w2,Fr B w w2->Q w2)(hp:Pu w w'):∀w2,Fr B w' w2->Q w2:=λw2 h2=>h w2 ((Fr.pu hp:Fr B w w').trans h2 λb hb _=>hb)
theorem zQH.xw(h:zQH X w L d mu):∀b,(L.own b∨X b)->b<w.heap.size:=λb hb=>hb.elim (λhb=>h.own_lt hb) (h.xl b)
theorem zQc.keepBy{w0:World}{q:SV}{l:List UInt8}(h:zQc w0 w q l)(hl:l.length<=1000000000){B:Nat->Prop}(hB:∀b,B b->b<w0.heap.size):∀w2,Fr B w w2->ByV w2 q l:=λw2 h2=>
 (h.fr h2 λb hb e=>by have:=h.2 b hb;have:=hB b e;omega).by (by omega)
theorem yYJ (h:zQH X w L d 1) {y:Wr} (hy:okW y) {q:SV} (hq:∀w2,Fr (λb=>L.own b∨X b) w w2->ByV w2 q y.b) (hl:d.last.1.length<=900000000/\d.last.2.length<=900000000) (hn:d.wr.length<=1000000) :
  Calls prog 84 #[L.ptr,.agg #[.int .i64 y.file,.int .i64 y.at_,slV q]] w λe w'=>e=.returned (.tuple #[])/\∃L',zQH X w' L' (d.write y) 1/\zZe w w' L L':=by
 refine yKO _ _ _ _ w _ (alB λw1 aA aD=>zQe λw2 ay _=>?_)
 have aJ:=aA.trans ay
 have cz:=ay.blk aD
 have h2:=h.pu aJ
 have mt:w.heap.size<w1.heap.size:=zQ5 aD
 refine⟨λu=>Pu w2 u,Pu.refl _,L.wr,λu hu=>(h2.pu hu).cellA 9,y.file,λu hu=>cl (hu.blk cz) 0,y.at_,λu hu=>cl (hu.blk cz) 1,q,λu hu=>cl (hu.blk cz) 2,alB λw4 aK cc=>⟨aK,?_⟩⟩
 have ei:=aJ.trans aK
 have h4:=h.pu ei
 have qu:=xZb hq ei
 obtain⟨s,w5,hr,hst⟩:=h4.pushWr (y:=y) qu cc hn (K:=λw7=>dwE w7 λw8=>∃cX:SV,w8.cell? ((⟨L.S,0,none⟩:Addr).add 8)=some (.slice cX.a cX.len cX.cap)/\
   ∃cm:Int,w8.cell? ((⟨w.heap.size,0,none⟩:Addr).add 0)=some (.int .i64 cm)/\∃bR:Int,w8.cell? ((⟨w.heap.size,0,none⟩:Addr).add 1)=some (.int .i64 bR)/\∃bD:SV,w8.cell? ((⟨w.heap.size,0,none⟩:Addr).add 2)=some (.slice bD.a bD.len bD.cap)/\
   Calls prog 49 #[.slice cX.a cX.len cX.cap,.agg #[.int .i64 cm,.int .i64 bR,.slice bD.a bD.len bD.cap]] w8 λe aM=>∃d8:SV,e=.returned (.slice d8.a d8.len d8.cap)/\
   st1 ((⟨L.S,0,none⟩:Addr).add 8) (.slice d8.a d8.len d8.cap) aM λaR=>(Ending.returned (.tuple #[])=.returned (.tuple #[]))/\∃L',zQH X aR L' (d.write y) 1/\zZe w aR L L') λw7 L1 h7 lu hlast=>by
  have pa:=lu.fr.blk (aK.blk cz) (λho=>by have:=h.own_lt ho;omega)
  refine zQe λw8 bM _=>?_
  have h8:=h7.pu bM
  have lK:=bM.blk pa
  have hk8:=xZb (lu.keep (X:=X) qu h4.xl) bM
  refine⟨L1.last,by rw[←lu.ptr];exact h8.cellA 8,y.file,cl lK 0,y.at_,cl lK 1,q,cl lK 2,?_⟩
  refine(with_c (B:=λb=>L1.own b∨X b) (x:=y) h8.xw (λw9 h9=>(h8.kp w9 h9).la) (hk8 _ (Fr.refl _ _)) hy.1 hy.2.1 hl (by have:=hy.2.2;omega)).mono ?_
  rintro e aM ⟨o,r0,r1,rfl,hK,fT⟩
  refine⟨o,rfl,?_⟩
  rw[←lu.ptr]
  refine(h8.pu fT).setLast hK λaR L2 kN qy=>⟨rfl,L2,kN,?_⟩
  exact((zZe.pu ei L).trans lu).trans ((zZe.pu (bM.trans fT) L1).trans qy)
 exact⟨s,w5,hr,hst⟩
theorem zWI (h:d.σ.lev ≠ []∨d.σ.t=d.σ.last):d.commit=d:=by
 unfold Dat.commit
 rw[if_neg]
 rintro⟨h1,h2⟩
 rcases h with h|h
 ·exact h h1
 ·exact h2 h
structure Fit(d:Dat):Prop where
 l1:d.last.1.length<=800000000
 l2:d.last.2.length<=800000000
 wn:d.wr.length<=100000
 dn:d.σ.done.length<=100000
theorem yZs(h:zQH X w L d 1)(hi:InvW p f d)(hs:Fit d):Calls prog 79 #[L.ptr] w λe w'=>e=.returned (.tuple #[])/\∃L',zQH X w' L' d.commit 1/\zZe w w' L L':=by
 have hS:=h.S_lt
 have hlv:=h.lv.len zQL (by decide)
 have hll:=h.ll
 have hdn:=hs.dn
 refine yWD _ w _ (zQe λw1 aA _=>?_)
 have h1:=h.pu aA
 obtain⟨x,a,ha,e1,hk,c0,c1,c2,hR⟩:=h1.lastD hi.ne (by omega)
 refine⟨λu=>Pu w1 u,Pu.refl _,L.dn,λu hu=>(h1.pu hu).cellA 6,L.dn,λu hu=>(h1.pu hu).cellA 6,a,ha,by rw[e1];omega,by rw[e1];omega,d.σ.last.page,λu hu=>hu.cell (by rw[e1,zZW];exact c0),x.f,λu hu=>hu.cell (by rw[e1,zZW];exact c1),x.r,λu hu=>hu.cell (by rw[e1,zZW];exact c2),?_⟩
 refine alB λw5 ba bq=>⟨ba,zQl bq zVm.symm rfl rfl λw6 iB jB _=>zQe λw7 dK _=>?_⟩
 have jR:Pu w1 w7:=(ba.andNew jB λi hi=>by rw[show i=_ from hi];exact Nat.le_refl _).trans dK
 have kA:=aA.trans jR
 have h7:=h.pu kA
 have b7:=dK.blk iB
 refine⟨_,cl b7 0,x.f,cl b7 1,x.r,cl b7 2,_,h7.cellB 2 0,L.now.f,h7.cellB 2 1,L.now.r,h7.cellB 2 2,?_⟩
 rw[h7.now.page]
 refine(yYy (hR.pu jR) (h7.rdNow hi.t.ok) (zKs hi.lastL.ok) (zKs hi.t.ok)).mono ?_
 rintro e w9 ⟨q,rfl,hq,dY⟩
 rw[yQo hi]at hq
 replace hq:zWm w7 w9 q (zZ1 d.σ):=hq
 have he2:=congrArg Prod.snd (yQo hi)
 have iE:=kA.trans dY
 have h9:=h.pu iE
 have hql:q.len=(zZ1 d.σ).length:=hq.len
 refine⟨q,_,rfl,L.lv,h9.cellA 5,Br.of (λc=>?_) (λc=>Br.of (λlL=>?_) (λlL=>?_))⟩
 ·have c:=zQs c
  have hlne:d.σ.lev ≠ []:=λe=>by
   have:d.σ.lev.length=0:=by rw[e];rfl
   omega
  rw[zWI (.inl hlne)]
  exact⟨rfl,L,h9,zZe.pu iE L⟩
 ·have lL:q.len=0:=by simpa using lL
  have hnil:zZ1 d.σ=[]:=List.eq_nil_of_length_eq_zero (by show(zZ1 d.σ).length=0;rw[hql]at lL;exact lL)
  have hrec:=xJr (a:=d.σ.last.recs) (b:=d.σ.t.recs) hnil
  have hL:=hi.lastL
  have:d.σ.t=d.σ.last:=by
   have p1:=hi.t.page
   have p2:=hi.t.fields
   have p3:=hL.page
   have p4:=hL.fields
   cases ht:d.σ.t with
   | mk a b c=>cases hlt:d.σ.last with
    | mk a' b' c'=>
     rw[ht]at p1 p2 hrec
     rw[hlt]at p3 p4 hrec
     dsimp only at p1 p2 p3 p4 hrec
     rw[p1,p2,p3,p4,hrec]
  rw[zWI (.inr this)]
  exact⟨rfl,L,h9,zZe.pu iE L⟩
 ·have c:=zQj c
  have hlev:d.σ.lev=[]:=List.eq_nil_of_length_eq_zero (by omega)
  have lL:¬q.len=0:=by simpa using lL
  have hne:d.σ.t ≠ d.σ.last:=λe=>lL (by
   have:zZ1 d.σ=[]:=by unfold zZ1;rw[e];exact yY0 _
   rw[hql];show(zZ1 d.σ).length=0;rw[this];rfl)
  have hcm:d.commit={ d.write d.rec_ with σ:={ d.σ with done:=d.σ.done ++ [d.σ.t] },pts:=d.pts ++ [(d.wr.length:Int)+1] }:=by unfold Dat.commit;rw[if_pos ⟨hlev,hne⟩]
  refine zQe λaZ bn _=>?_
  have lw:=iE.trans bn
  have mx:=h.pu lw
  obtain⟨al,hal,cl0',xf⟩:=mx.kp0.la.ex
  have hll2:=mx.kp0.la.len
  have hb1l:=mx.kp0.la.b1.len
  refine⟨λu=>Pu aZ u,Pu.refl _,L.last,λu hu=>(mx.pu hu).cellA 8,al,hal,by omega,by omega,L.l1,λu hu=>hu.cell xf,_,λu hu=>(mx.pu hu).cellB 2 0,L.now.f,λu hu=>(mx.pu hu).cellB 2 1,L.now.r,λu hu=>(mx.pu hu).cellB 2 2,?_⟩
  rw[mx.now.page]
  have gn:=(zX3.of hi.t.ok).n300
  have yL:=(zX3.of hi.lastL.ok).n300
  refine(yVX (mx.rdNow hi.t.ok) hi.t.ok (hq.pu bn) (λk hk=>?_) ?_).mono ?_
  ·obtain⟨i,xd,rfl⟩:=List.mem_map.1 hk
   have:=List.mem_range.1 (List.mem_filter.1 xd).1
   omega
  ·show(zZ1 d.σ).length<=1000
   unfold zZ1 zWc
   rw[List.length_map]
   refine Nat.le_trans (List.length_filter_le _ _) ?_
   rw[List.length_range];omega
  rintro e bA ⟨q17,rfl,kg,ly⟩
  have hcl:(zQU d.σ.t (zZ1 d.σ)).length<=650000:=zVL (t:=d.σ.last) hi.t.ok hi.ge
  have hcne:zQU d.σ.t (zZ1 d.σ) ≠ []:=λe=>by
   have:=congrArg List.length e
   rw[zVT,List.length_append,zQu]at this
   simp at this
  refine⟨q17,rfl,ly,(yYo 99 (kg.by (by omega)) hcne (by omega)).mono ?_⟩
  rintro e bY ⟨yM,rfl,iI,iC⟩
  have lz:=ly.trans iC
  have o7:=lw.trans lz
  have h18:=h.pu o7
  refine⟨yM,rfl,lz,?_⟩
  have hy:okW d.rec_:=⟨.inr rfl,by show 0<=(d.last.2.length:Int);omega,by show(zJa 99 (zQU d.σ.t (zZ1 d.σ))).length<=_;rw[zJ4];omega⟩
  have xg:∀b,(L.own b∨X b)->b<bA.heap.size:=(h.pu (lw.trans ly)).xw
  have hrl:(zJa 99 (zQU d.σ.t (zZ1 d.σ))).length<=1000000000:=by rw[zJ4];omega
  have hw:=yYJ (y:=d.rec_) (q:=yM) h18 hy (iI.keepBy hrl xg) ⟨by have:=hs.l1;omega,by have:=hs.l2;omega⟩ (by have:=hs.wn;omega)
  rw[show((L.l1.len:Nat):Int)=((d.last.2.length:Nat):Int)by omega]
  refine Calls.mono hw ?_
  rintro e ce ⟨rfl,L1,h19,lu⟩
  refine⟨rfl,zQe λcf fU _=>?_⟩
  have lM:=h19.pu fU
  rw[←lu.ptr]
  refine⟨λu=>Pu cf u,Pu.refl _,L1.dn,λu hu=>(lM.pu hu).cellA 6,_,λu hu=>(lM.pu hu).cellB 2 0,L1.now.f,λu hu=>(lM.pu hu).cellB 2 1,L1.now.r,λu hu=>(lM.pu hu).cellB 2 2,?_⟩
  rw[lM.now.page]
  refine(zJ5 (lM.rdNow hi.t.ok) hi.t.ok).mono ?_
  rintro e cy ⟨tV,rfl,iF,jp⟩
  refine⟨tV.page,tV.f,tV.r,rfl,jp,alB λcS eP xh=>⟨jp.trans eP,?_⟩⟩
  have h24:=(lM.pu jp).pu eP
  have hkd:=(iF.pu eP).keep (L:=L1) (X:=X) hi.t.ok (λb hb=>lM.own_lt hb) lM.xl
  obtain⟨s,eG,hr,hst⟩:=h24.pushDone (q:=tV) (t:=d.σ.t) iF.tab.page hkd xh (λb hb e=>by have:=(lM.pu jp).own_lt hb;omega) (by show d.σ.done.length<=_;omega)
   (K:=λfW=>dwE fW λdN=>∃S5:World->Prop,S5 dN/\∃iw:SV,(∀w',S5 w'->w'.cell? ((⟨L1.S,0,none⟩:Addr).add 10)=some (.slice iw.a iw.len iw.cap))/\∃jy:SV,(∀w',S5 w'->w'.cell? ((⟨L1.S,0,none⟩:Addr).add 9)=some (.slice jy.a jy.len jy.cap))/\
    alE (.cells #[.int .i64 ((jy.len:Nat):Int)] 3) dN λwy eD=>S5 eD/\∃kx:SV,∃ft:World,(Builtin.append_ #[52,52] 52 #[.slice iw.a iw.len iw.cap,.slice (some ⟨wy,0,none⟩) 1 1]).run prog eD=.ok (.slice kx.a kx.len kx.cap) ft/\
    st1 ((⟨L1.S,0,none⟩:Addr).add 10) (.slice kx.a kx.len kx.cap) ft λdO=>(Ending.returned (.tuple #[])=.returned (.tuple #[]))/\∃L',zQH X dO L' d.commit 1/\zZe w dO L L') λfW L2 h27 qy _ _=>by
   refine zQe λdN kC _=>?_
   have xi:=h27.pu kC
   rw[←qy.ptr]
   refine⟨λu=>Pu dN u,Pu.refl _,L2.pt,λu hu=>(xi.pu hu).cellA 10,L2.wr,λu hu=>(xi.pu hu).cellA 9,alB λeD jq xj=>⟨jq,?_⟩⟩
   have xk:=xi.pu jq
   have hwrl:=xk.wr.len zJZ (by decide)
   have xm:=xk.wl
   have hpl:d.pts.length+1=d.σ.done.length:=hi.hist.len
   have xn:L2.wr.len=d.wr.length+1:=by
    rw[hwrl,xm];show(d.wr ++ [d.rec_]).length=_;simp
   obtain⟨s2,ft,gl,xo⟩:=xk.pushPt xj (by show d.pts.length<=_;omega) (K:=λdO=>(Ending.returned (.tuple #[])=.returned (.tuple #[]))/\∃L',zQH X dO L' d.commit 1/\zZe w dO L L') λdO L3 yN xp=>⟨rfl,L3,by rw[hcm];rw[xn]at yN;exact yN,((zZe.pu o7 L).trans lu).trans (((zZe.pu ((fU.trans jp).trans eP) L1).trans qy).trans ((zZe.pu (kC.trans jq) L2).trans xp))⟩
   exact⟨s2,ft,gl,xo⟩
  exact⟨s,eG,hr,hst⟩
end Go.Proofs.YtaeecpjhfmcliaaGreatDoor
/- The log: a table's own rows are written. No condition but those stated. -/
namespace Go.Proofs.YtaeecpjhfmcliaaGreatDoor
open Go.Sh Go.RowKit Tryz
variable {w w' : World} {t : Tbl} {h : HT}
theorem zZX.rlen(ht:zZX w t h):h.r.len=t.recs.length:=by rw[ht.rw_.len zQR (by decide),ht.len]
theorem zZX.push (ht:zZX w t h) {q:SV} {x:Rec} (hq:zQi w 73 3 q (x.v.flatMap zWQ)) (hn:∀b ∈ zQb q,b ∉ vBl h.hs) {r:Nat} (hr:w.heap[r]?=some (.cells #[.bool x.gone,slV q] 67)) (hb:t.recs.length<=100000) :
  ∃(s:SV) (w1:World),(Builtin.append_ #[33,33] 33 #[slV h.r,.slice (some ⟨r,0,none⟩) 1 1]).run prog w=.ok (slV s) w1/\zZX w1 { t with recs:=t.recs ++ [x] } { h with r:=s,hs:=h.hs ++ [(x.gone,q)] }/\Fr (· ∈ zQb h.r) w w1/\∀k ∈ zQb s,k ∈ zQb h.r∨w.heap.size<=k:=by
 have hl:=ht.rlen
 obtain⟨s,w1,hra,hrow,cY,hblk,hsl⟩:=zQ1 (P:=prog) (ty:=33) vu33 vi67 rfl (by decide) ht.rw_ (A:=some ⟨r,0,none⟩) (m:=1) (c:=1) (news:=yZt (x.gone,q)) rfl (λj u hu=>⟨_,rfl,by rw[cl hr];simpa[yZt] using hu⟩) (λu hu=>by simp[yZt]at hu;rcases hu with rfl|rfl <;> rfl) (by show(h.r.len+1) * (32+1)<=_;omega)
 refine⟨s,w1,hra,⟨ht.page,?_,by simp[ht.len],?_,?_⟩,cY,hblk⟩
 ·show zQi w1 67 2 s ((h.hs ++ [(x.gone,q)]).flatMap yZt)
  rw[List.flatMap_append,List.flatMap_singleton];exact hrow
 ·intro i y z hy hz
  have hy:(h.hs ++ [(x.gone,q)])[i]?=some y:=hy
  have hz:(t.recs ++ [x])[i]?=some z:=hz
  rw[List.getElem?_append]at hy hz
  split at hy
  ·rename_i hi
   rw[if_pos (by rw[←ht.len];exact hi)]at hz
   obtain⟨e1,e2⟩:=ht.rec_ i y z hy hz
   exact⟨e1,e2.fr cY (zQp e2 ht.rw_ (by decide))⟩
  ·rename_i hi
   rw[if_neg (by rw[←ht.len];exact hi)]at hz
   have e1:y=(x.gone,q):=List.mem_singleton.1 (List.mem_of_getElem? hy)
   have e2:z=x:=List.mem_singleton.1 (List.mem_of_getElem? hz)
   rw[e1,e2]
   exact⟨rfl,hq.fr cY (zQp hq ht.rw_ (by decide))⟩
 ·show(vBl (h.hs ++ [(x.gone,q)])).Nodup
  rw[zXL]
  refine List.nodup_append.2 ⟨ht.nd,by simp[vBl,zW0],λa ha b hb e=>?_⟩
  subst e
  exact hn a (by simpa[vBl] using hb) ha
theorem zYm {hs:List (Bool × SV)} {k:Nat} {x:Bool × SV} (hk:k<hs.length) (hn:(vBl hs).Nodup) (hx:∀b ∈ zQb x.2,b ∉ vBl hs):(vBl (hs.set k x)).Nodup:=by
 obtain⟨y,hy⟩:=zXf hk
 have e:hs=hs.take k ++ y :: hs.drop (k+1):=by rw[←zXG hy,List.take_append_drop]
 have e2:vBl hs=vBl (hs.take k) ++ (zQb y.2 ++ vBl (hs.drop (k+1))):=by conv=>lhs;rw[e,zXL,yZy]
 rw[e2]at hn hx
 rw[xZQ hk,zXL,yZy]
 obtain⟨n1,n2,n3⟩:=List.nodup_append.1 hn
 obtain⟨m1,m2,m3⟩:=List.nodup_append.1 n2
 refine List.nodup_append.2 ⟨n1,List.nodup_append.2 ⟨zW0 _,m2,λa ha b hb e=>?_⟩,λa ha b hb e=>?_⟩
 ·subst e
  exact hx a ha (List.mem_append_right _ (List.mem_append_right _ hb))
 ·subst e
  rcases List.mem_append.1 hb with hb|hb
  ·exact hx a hb (List.mem_append_left _ ha)
  ·exact n3 a ha a (List.mem_append_right _ hb) rfl
theorem zZX.set (ht:zZX w t h) {k:Nat} (hk:k<t.recs.length) {q:SV} {x:Rec} (hq:zQi w 73 3 q (x.v.flatMap zWQ)) (hn:∀b ∈ zQb q,b ∉ vBl h.hs) {K:World->Prop}
  (hK:∀w1,zZX w1 { t with recs:=t.recs.set k x } { h with hs:=h.hs.set k (x.gone,q) }->Fr (· ∈ zQb h.r) w w1->K w1):∃a,h.r.a=some a/\stA prog 67 (a.add (k * 2)) #[.bool x.gone,slV q] w K:=by
 have hl:=ht.len
 refine ht.rw_.stElem zQR (by decide) (i:=k) (by omega) (x.gone,q) vk67.symm rfl λw1 h1 cY pV=>hK w1 ⟨ht.page,h1,by simp[hl],λi y z hy hz=>?_,zYm (by omega) ht.nd hn⟩ cY
 have hy:(h.hs.set k (x.gone,q))[i]?=some y:=hy
 have hz:(t.recs.set k x)[i]?=some z:=hz
 rw[List.getElem?_set]at hy hz
 by_cases e:k=i
 ·subst e
  rw[if_pos rfl,if_pos (by omega)]at hy hz
  cases hy;cases hz
  exact⟨rfl,hq.fr cY (zQp hq ht.rw_ (by decide))⟩
 ·rw[if_neg e]at hy hz
  obtain⟨e1,e2⟩:=ht.rec_ i y z hy hz
  exact⟨e1,e2.fr cY (zQp e2 ht.rw_ (by decide))⟩
theorem vBl_at {hs:List (Bool × SV)} (hn:(vBl hs).Nodup) {i j:Nat} {x y:Bool × SV} (hx:hs[i]?=some x) (hy:hs[j]?=some y) (hij:i ≠ j):∀b ∈ zQb x.2,b ∉ zQb y.2:=by
 have key:∀{i j:Nat} {x y:Bool × SV},i<j->hs[i]?=some x->hs[j]?=some y->∀b ∈ zQb x.2,b ∉ zQb y.2:=λ{i j x y} h hx hy b hb hc=>by
  have e:vBl hs=vBl (hs.take (i+1)) ++ vBl (hs.drop (i+1)):=by rw[←zXL,List.take_append_drop]
  rw[e]at hn
  refine(List.nodup_append.1 hn).2.2 b ?_ b ?_ rfl
  ·rw[zQK hx,zXL]
   exact List.mem_append_right _ (by simpa[vBl] using hb)
  ·refine zY1 (x:=y) (List.mem_of_getElem? (i:=j - (i+1)) ?_) hc
   rw[List.getElem?_drop,show i+1+(j - (i+1))=j by omega];exact hy
 rcases Nat.lt_or_gt_of_ne hij with h|h
 ·exact key h hx hy
 ·exact λb hb hc=>key h hy hx b hc hb
theorem zZX.setV (ht:zZX w t h) {k i:Nat} {r:Rec} (hr:t.recs[k]?=some r) (hi:i<r.v.length) (v:Val) {K:World->Prop} {y:Bool × SV} (hy:h.hs[k]?=some y)
  (hK:∀w1,zZX w1 { t with recs:=t.recs.modify k λr=>{ r with v:=r.v.set i v } } h->Fr (· ∈ zQb y.2) w w1->K w1):∃a,y.2.a=some a/\stA prog 73 (a.add (i * 3)) #[.int .i64 v.kind,.int .i64 v.n,.string v.s] w K:=by
 obtain⟨e1,e2⟩:=ht.rec_ k y r hy hr
 refine e2.stElem zX6 (by decide) (i:=i) hi v vk73.symm rfl λw1 h1 cY pV=>hK w1 ⟨ht.page,ht.rw_.fr cY λb hb hc=>zQp e2 ht.rw_ (by decide) b hc hb,by simp[ht.len],λj z u hz hu=>?_,ht.nd⟩ cY
 have hu:(t.recs.modify k λr=>{ r with v:=r.v.set i v })[j]?=some u:=hu
 rw[List.getElem?_modify]at hu
 by_cases e:k=j
 ·subst e
  simp only[if_pos,hr]at hu
  have hu:u={ r with v:=r.v.set i v }:=by simpa using hu.symm
  subst hu
  rw[hy]at hz;cases hz
  exact⟨e1,h1⟩
 ·simp only[if_neg e]at hu
  obtain⟨d1,d2⟩:=ht.rec_ j z u hz (by simpa using hu)
  exact⟨d1,d2.fr cY λb hb hc=>vBl_at ht.nd hy hz e b hc hb⟩
end Go.Proofs.YtaeecpjhfmcliaaGreatDoor
/- The log: transactions are begun, ended and taken back. No condition but those stated. -/
namespace Go.Proofs.YtaeecpjhfmcliaaGreatDoor
open Go.Sh Go.RowKit Tryz
variable {w0 w w' : World} {X : Nat -> Prop} {L L' : SL} {d d' : Dat} {mu : Int} {p : Int} {f : List Fld}
theorem zQH.st1S (h:zQH X w L d mu) {o:Nat} {v:Value} {K:World->Prop} (ho:o<11) (hK:∀w2,w2.heap[L.S]?=some (.cells ((zZR mu L).setIfInBounds o v) 108)->Fr (·=L.S) w w2->K w2):st1 ((⟨L.S,0,none⟩:Addr).add o) v w K:=by
 rw[zQn,Nat.zero_add]
 exact zQw h.st ho λw2 kL aL=>hK w2 aL (by rw[kL];exact Fr.cell w _ _ _)
def yVD(X:Nat->Prop)(w:World)(L:SL)(v:Value)(d':Dat):Rt:=λe w'=>e=.returned v/\∃L',zQH X w' L' d' 0/\zZe w w' L L'
theorem zJs{v:Value}(h:zQH X w L d 1)(hl:zZe w0 w L' L):zQd prog [zZt L] w λw2=>yVD X w0 L' v d (.returned v) w2:=yJH h hl λw3 h3 h4 _=>⟨rfl,L,h3,h4⟩
theorem zJ1{v:Value}{L0:SL}(h:zQH X w L d 1)(hl:zZe w0 w L0 L)(hp:L0.S=L.S):zQd prog [zZt L0] w λw2=>yVD X w0 L0 v d (.returned v) w2:=by
 have:zZt L0=zZt L:=by unfold zZt SL.ptr;rw[hp]
 rw[this];exact zJs h hl
theorem yWO(h:zQH X w L d 0)(hi:InvW p f d):Calls prog 35 #[L.ptr] w (yVD X w L (.int .i64 (zWC d.σ)) d.begin):=by
 have hlv:=h.lv.len zQL (by decide)
 have hll:=h.ll
 have h8:=hi.l8
 refine zYQ _ w _ ((zZg h (Pu.refl w)).mono ?_)
 rintro e w1 ⟨rfl,hI,hf,hs⟩
 have h1:=hI.at_ h
 refine⟨_,_,rfl,zWT (Br.of (λc=>by cases c) λ_=>⟨L.lv,h1.cellA 5,Br.of (λc=>?_) (λc=>?_)⟩)⟩
 ·have c:8<=d.σ.lev.length:=by have:=zQs c;omega
  have e1:zWC d.σ=3:=by unfold zWC;rw[if_pos c]
  have e2:d.begin=d:=by unfold Dat.begin Dat.to zJI;rw[if_pos c]
  rw[e1,e2]
  exact zJs h1 hI.left
 ·have c:¬8<=d.σ.lev.length:=by have:=zQj c;omega
  have e1:zWC d.σ=0:=by unfold zWC;rw[if_neg c]
  have e2:d.begin={ d with σ:={ d.σ with lev:=d.σ.lev ++ [d.σ.t] } }:=by unfold Dat.begin Dat.to zJI;rw[if_neg c]
  rw[e1,e2]
  refine zQe λw5 ba _=>?_
  have h5:=h1.pu ba
  refine⟨λu=>Pu w5 u,Pu.refl _,L.lv,λu hu=>(h5.pu hu).cellA 5,_,λu hu=>(h5.pu hu).cellB 2 0,L.now.f,λu hu=>(h5.pu hu).cellB 2 1,L.now.r,λu hu=>(h5.pu hu).cellB 2 2,?_⟩
  rw[h5.now.page]
  refine(zJ5 (h5.rdNow hi.t.ok) hi.t.ok).mono ?_
  rintro e w8 ⟨q,rfl,hq,bM⟩
  refine⟨q.page,q.f,q.r,rfl,bM,alB λw9 dY kB=>⟨bM.trans dY,?_⟩⟩
  obtain⟨s,aM,hr,hst⟩:=h5.pushLev (bM.trans dY) (hq.pu dY) hi.t.ok kB (by omega) (K:=λaR=>zQd prog [zZt L] aR λaZ=>yVD X w L (.int .i64 0) { d with σ:={ d.σ with lev:=d.σ.lev ++ [d.σ.t] } } (.returned (.int .i64 0)) aZ) λaR L1 kN lu=>
   zJ1 kN ((hI.left.trans (zZe.pu ba L)).trans lu) lu.ptr.symm
  exact⟨s,aM,hr,hst⟩
theorem yVv{e:TypeId}{sz:Nat}{s:SV}{vs:List Value}{n:Nat}(h:zQi w e sz s vs)(hn:n<=s.len)(ha:s.a ≠ none):zQi w e sz ⟨s.a,n,s.cap⟩ (vs.take (n * sz)):=by
 obtain⟨h1,hd|⟨g,cur,h3,h4,h5,h6,h7,h8⟩⟩:=h
 ·rw[hd]at ha;exact absurd rfl ha
 ·have hm:n * sz<=s.len * sz:=Nat.mul_le_mul_right _ hn
  refine⟨by rw[List.length_take,h1];exact Nat.min_eq_left hm,.inr ⟨g,cur,h3,h4,Nat.le_trans hn h5,h6,h7,?_⟩⟩
  rw[←h8,List.take_take,Nat.min_eq_left hm]
theorem yWx {α:Type} {l:List α} (h:l ≠ []):∃l0 x,l=l0 ++ [x]:=⟨l.dropLast,l.getLast h,(List.dropLast_concat_getLast h).symm⟩
structure yZr(L:SL)(d:Dat)(l0:List HT)(x:HT)(v0:List Tbl)(t:Tbl):Prop where
 lh:L.lh=l0 ++ [x]
 lev:d.σ.lev=v0 ++ [t]
def SL.pop(L:SL)(l0:List HT):SL:={ L with lv:=⟨L.lv.a,L.lv.len - 1,L.lv.cap⟩,lh:=l0 }
theorem yWY {l0:List HT} {x:HT} (h:L.lh=l0 ++ [x]) {b:Nat} (hb:(L.pop l0).own b):L.own b:=by
 rcases hb with hb|hb|hb|hb|hb|⟨z,hz,hb⟩
 ·exact .inl hb
 ·exact .inr (.inl hb)
 ·exact .inr (.inr (.inl hb))
 ·exact .inr (.inr (.inr (.inl hb)))
 ·exact .inr (.inr (.inr (.inr (.inl hb))))
 ·refine .inr (.inr (.inr (.inr (.inr ⟨z,?_,hb⟩))))
  have hz:z ∈ L.now :: l0:=hz
  rcases List.mem_cons.1 hz with rfl|hz
  ·exact List.mem_cons_self
  ·rw[h];exact List.mem_cons_of_mem _ (List.mem_append_left _ hz)
theorem pop_row(h:zQH X w L d mu){l0:List HT}{x:HT}{v0:List Tbl}{t:Tbl}(hP:yZr L d l0 x v0 t):zQi w 35 3 ⟨L.lv.a,L.lv.len - 1,L.lv.cap⟩ (l0.flatMap yZm):=by
 have hl:=h.lv.len zQL (by decide)
 have hll:L.lh.length=l0.length+1:=by rw[hP.lh];simp
 have ha:L.lv.a ≠ none:=by
  obtain⟨_,hd|⟨g,cur,h3,_⟩⟩:=h.lv
  ·rw[hd]at hl
   have hl:0=L.lh.length:=hl
   omega
  ·rw[h3];simp
 have h1:=yVv h.lv (n:=L.lv.len - 1) (by omega) ha
 rw[hP.lh,List.flatMap_append,show L.lv.len - 1=l0.length by omega]at h1
 have e:(l0.flatMap yZm).length=l0.length * 3:=zQy zQL l0
 rw[←e,List.take_left]at h1
 rw[show L.lv.len - 1=l0.length by omega]
 exact h1
theorem zQH.pop (h:zQH X w L d mu) {l0:List HT} {x:HT} {v0:List Tbl} {t:Tbl} (hP:yZr L d l0 x v0 t) (hf:Fr (·=L.S) w w') {mu':Int} (hst:w'.heap[L.S]?=some (.cells (zZR mu' (L.pop l0)) 108)):zQH X w' (L.pop l0) { d with σ:={ d.σ with lev:=v0 } } mu':=by
 have hr:=pop_row h hP
 have hll:l0.length=v0.length:=by
  have:=h.ll
  rw[hP.lh,hP.lev]at this;simpa using this
 have at0:∀{i:Nat} {y:HT},l0[i]?=some y->L.lh[i]?=some y:=λ{i y} hy=>by rw[hP.lh,List.getElem?_append_left (List.getElem?_eq_some_iff.1 hy).1];exact hy
 have pP:∀{i:Nat} {y:Tbl},v0[i]?=some y->d.σ.lev[i]?=some y:=λ{i y} hy=>by rw[hP.lev,List.getElem?_append_left (List.getElem?_eq_some_iff.1 hy).1];exact hy
 refine⟨hst,hr.fr hf λb hb e=>hr.other h.st (by decide) (by rw[←show b=L.S from e];exact hb),h.dn.fr hf λb hb e=>h.dn.other h.st (by decide) (by rw[←show b=L.S from e];exact hb),h.wr.fr hf λb hb e=>h.wr.other h.st (by decide) (by rw[←show b=L.S from e];exact hb),h.pt.fr hf λb hb e=>h.pt.other h.st (by decide) (by rw[←show b=L.S from e];exact hb),
  h.now.fr hf λb hb e=>h.now.other h.st (by decide) (by decide) (by rw[←show b=L.S from e];exact hb),hll,h.dl,h.wl,λi y u hy hu=>(h.lvs i y u (at0 hy) (pP hu)).fr hf λb hb e=>(h.lvs i y u (at0 hy) (pP hu)).other h.st (by decide) (by decide) (by rw[←show b=L.S from e];exact hb),h.ld,λy hy=>h.dj y (by rw[hP.lh];exact List.mem_append_left _ hy),λi j y z hij hy hz=>h.djl i j y z hij (at0 hy) (at0 hz),λb hb=>Nat.lt_of_lt_of_le (h.xl b hb) hf.size,λw2 h2=>?_⟩
 have k:=h.kp w2 ((hf.mono λb hb _=>.inl (.inl hb)).trans h2 λb hb _=>hb.imp (yWY hP.lh) id)
 exact⟨k.nf,λi y u hy hu=>k.lf i y u (at0 hy) (pP hu),k.dt,k.fi,k.la,k.wb⟩
def SL.undo(L:SL)(l0:List HT)(x:HT):SL:={ L with lv:=⟨L.lv.a,L.lv.len - 1,L.lv.cap⟩,lh:=l0,now:=x }
theorem yZu {l0:List HT} {x:HT} (h:L.lh=l0 ++ [x]) {b:Nat} (hb:(L.undo l0 x).own b):L.own b:=by
 rcases hb with hb|hb|hb|hb|hb|⟨z,hz,hb⟩
 ·exact .inl hb
 ·exact .inr (.inl hb)
 ·exact .inr (.inr (.inl hb))
 ·exact .inr (.inr (.inr (.inl hb)))
 ·exact .inr (.inr (.inr (.inr (.inl hb))))
 ·refine .inr (.inr (.inr (.inr (.inr ⟨z,?_,hb⟩))))
  have hz:z ∈ x :: l0:=hz
  rw[h]
  rcases List.mem_cons.1 hz with rfl|hz
  ·exact List.mem_cons_of_mem _ (List.mem_append_right _ (List.mem_singleton.2 rfl))
  ·exact List.mem_cons_of_mem _ (List.mem_append_left _ hz)
theorem zQH.undo (h:zQH X w L d mu) {l0:List HT} {x:HT} {v0:List Tbl} {t:Tbl} (hP:yZr L d l0 x v0 t) (hf:Fr (·=L.S) w w') {mu':Int} (hst:w'.heap[L.S]?=some (.cells (zZR mu' (L.undo l0 x)) 108)):zQH X w' (L.undo l0 x) { d with σ:={ d.σ with t:=t,lev:=v0 } } mu':=by
 have hr:=pop_row h hP
 have hll:l0.length=v0.length:=by
  have:=h.ll
  rw[hP.lh,hP.lev]at this;simpa using this
 have at0:∀{i:Nat} {y:HT},l0[i]?=some y->L.lh[i]?=some y:=λ{i y} hy=>by rw[hP.lh,List.getElem?_append_left (List.getElem?_eq_some_iff.1 hy).1];exact hy
 have pP:∀{i:Nat} {y:Tbl},v0[i]?=some y->d.σ.lev[i]?=some y:=λ{i y} hy=>by rw[hP.lev,List.getElem?_append_left (List.getElem?_eq_some_iff.1 hy).1];exact hy
 have lx:L.lh[l0.length]?=some x:=by rw[hP.lh,List.getElem?_append_right (Nat.le_refl _),Nat.sub_self];rfl
 have lt:d.σ.lev[l0.length]?=some t:=by rw[hP.lev,hll,List.getElem?_append_right (Nat.le_refl _),Nat.sub_self];rfl
 have hx:=h.lvs _ x t lx lt
 refine⟨hst,hr.fr hf λb hb e=>hr.other h.st (by decide) (by rw[←show b=L.S from e];exact hb),h.dn.fr hf λb hb e=>h.dn.other h.st (by decide) (by rw[←show b=L.S from e];exact hb),h.wr.fr hf λb hb e=>h.wr.other h.st (by decide) (by rw[←show b=L.S from e];exact hb),h.pt.fr hf λb hb e=>h.pt.other h.st (by decide) (by rw[←show b=L.S from e];exact hb),
  hx.fr hf λb hb e=>hx.other h.st (by decide) (by decide) (by rw[←show b=L.S from e];exact hb),hll,h.dl,h.wl,λi y u hy hu=>(h.lvs i y u (at0 hy) (pP hu)).fr hf λb hb e=>(h.lvs i y u (at0 hy) (pP hu)).other h.st (by decide) (by decide) (by rw[←show b=L.S from e];exact hb),h.ld,λy hy b hb hyb=>?_,λi j y z hij hy hz=>h.djl i j y z hij (at0 hy) (at0 hz),λb hb=>Nat.lt_of_lt_of_le (h.xl b hb) hf.size,λw2 h2=>?_⟩
 ·obtain⟨i,hi⟩:=List.getElem?_of_mem (show y ∈ l0 from hy)
  have:=(List.getElem?_eq_some_iff.1 hi).1
  exact h.djl l0.length i x y (by omega) lx (at0 hi) b hb hyb
 ·have k:=h.kp w2 ((hf.mono λb hb _=>.inl (.inl hb)).trans h2 λb hb _=>hb.imp (yZu hP.lh) id)
  exact⟨k.lf _ x t lx lt,λi y u hy hu=>k.lf i y u (at0 hy) (pP hu),k.dt,k.fi,k.la,k.wb⟩
theorem yZp(h:zQH X w L d 1)(hn:d.σ.lev.length<=1000000):Calls prog 80 #[L.ptr] w λe w'=>(d.σ.lev=[]/\e=.returned (.tuple #[.agg #[.int .i64 0,.slice none 0 0,.slice none 0 0],.int .i64 9])/\Pu w w') ∨
  ∃l0 x v0 t,yZr L d l0 x v0 t/\e=.returned (.tuple #[.agg #[.int .i64 x.page,slV x.f,slV x.r],.int .i64 0])/\Fr (·=L.S) w w'/\w'.heap[L.S]?=some (.cells (zZR 1 (L.pop l0)) 108):=by
 have hlv:=h.lv.len zQL (by decide)
 have hll:=h.ll
 have hS:=h.S_lt
 refine yWa _ w _ (alB λw1 aA aD=>?_)
 have h1:=h.pu aA
 refine⟨L.lv,h1.cellA 5,Br.of (λc=>?_) (λc=>?_)⟩
 ·have c:L.lv.len=0:=by simpa using c
  refine zQl aD zVm.symm rfl rfl λw3 be ef _=>⟨_,cl be 0,⟨none,0,0⟩,cl be 1,⟨none,0,0⟩,cl be 2,.inl ⟨List.eq_nil_of_length_eq_zero (by omega),rfl,aA.andNew ef λi hi=>by rw[show i=_ from hi];exact Nat.le_refl _⟩⟩
 ·have c:¬L.lv.len=0:=by simpa using c
  obtain⟨l0,x,hlh⟩:=yWx (l:=L.lh) (λe=>by rw[e]at hlv;simp at hlv;omega)
  obtain⟨v0,t,ky⟩:=yWx (l:=d.σ.lev) (λe=>by rw[e]at hll;simp at hll;rw[hll]at hlv;simp at hlv;omega)
  have hlen:L.lh.length=l0.length+1:=by rw[hlh];simp
  have hx:L.lh[L.lv.len - 1]?=some x:=by rw[hlh,List.getElem?_append_right (by omega),show L.lv.len - 1 - l0.length=0 by omega];rfl
  obtain⟨a,ha,hk,c0⟩:=h1.lv.elem zQL hx (o:=0) rfl
  obtain⟨a',ha',_,c1⟩:=h1.lv.elem zQL hx (o:=1) rfl
  obtain⟨a'',ha'',_,c2⟩:=h1.lv.elem zQL hx (o:=2) rfl
  rw[ha]at ha' ha'';cases ha';cases ha''
  rw[zQa (n:=((L.lv.len:Nat):Int) - 1) (by omega) (by omega),show((L.lv.len:Nat):Int) - 1=((L.lv.len - 1:Nat):Int)by omega,zZW]
  have hcap:=h1.lv.le_cap.1
  refine⟨L.lv,h1.cellA 5,a,ha,by omega,by omega,_,c0,x.f,c1,x.r,c2,alB λw7 dK sD=>zQl sD zVm.symm rfl rfl λw8 lI tk _=>?_⟩
  have iC:Pu w1 w8:=dK.andNew tk λi hi=>by rw[show i=_ from hi];exact Nat.le_refl _
  have fS:=aA.trans iC
  have h8:=h.pu fS
  have mt:w.heap.size<w1.heap.size:=zQ5 aD
  refine⟨L.lv,h8.cellA 5,by omega,by omega,by omega,?_⟩
  have esl:(if L.lv.cap=0 then L.lv.a else L.lv.a.map (λx=>x.add (0 * 3)))=L.lv.a:=by rw[if_neg (by omega),ha];show some (a.add (0 * 3))=_;rw[Nat.zero_mul,xX5]
  rw[esl,Nat.sub_zero,Nat.sub_zero]
  rw[zWV]
  refine h8.st1S (by decide) λaQ eg iD=>?_
  have pQ:=iD.blk lI (show ¬w1.heap.size=L.S by omega)
  have xq:=iD.blk (iC.blk aD) (show ¬w.heap.size=L.S by omega)
  refine⟨_,cl pQ 0,x.f,cl pQ 1,x.r,cl pQ 2,zQl xq zVm.symm rfl rfl λaR kE gm _=>⟨_,cl kE 0,x.f,cl kE 1,x.r,cl kE 2,.inr ⟨l0,x,v0,t,⟨hlh,ky⟩,rfl,?_,?_⟩⟩⟩
  ·exact((Fr.pu fS:Fr (·=L.S) w w8).trans iD λ_ h _=>h).trans gm λb hb hlt=>by have hb:b=w.heap.size:=hb;omega
  ·exact gm.blk eg (show ¬L.S=w.heap.size by omega)
theorem end_c(h:zQH X w L d 0)(hi:Inv p f d)(hs:Fit d):Calls prog 36 #[L.ptr] w (yVD X w L (.int .i64 (zWi d.σ)) d.end_):=by
 have hS:=h.S_lt
 have hl8:=hi.l8
 refine yQN _ w _ ((zZg h (Pu.refl w)).mono ?_)
 rintro e w1 ⟨rfl,hI,hf,hsz⟩
 have h1:=hI.at_ h
 refine⟨_,_,rfl,zWT (Br.of (λc=>by cases c) λ_=>(yZp h1 (by omega)).mono ?_)⟩
 rintro e w3 (⟨hnil,rfl,aC⟩|⟨l0,x,v0,t,hP,rfl,ef,pR⟩)
 ·refine⟨0,⟨none,0,0⟩,⟨none,0,0⟩,9,rfl,alB λw4 aK cc=>zQl cc zVm.symm rfl rfl λw5 bq ci _=>Br.of (λ_=>?_) (λc=>by cases c)⟩
  have gk:Pu w1 w5:=(aC.trans aK).andNew ci λi hi=>by rw[show i=_ from hi];exact aC.size
  have e1:zWi d.σ=9:=by unfold zWi;rw[if_pos hnil]
  have e2:d.end_=d:=by unfold Dat.end_;rw[if_pos hnil]
  rw[e1,e2]
  exact zJs (h1.pu gk) (hI.left.trans (zZe.pu gk L))
 ·have h3:=h1.pop hP ef pR
  have hlne:d.σ.lev ≠ []:=by rw[hP.lev];simp
  have e1:zWi d.σ=0:=by unfold zWi;rw[if_neg hlne]
  have e2:d.end_=({ d with σ:={ d.σ with lev:=v0 } }:Dat).commit:=by unfold Dat.end_ Dat.to;rw[if_neg hlne,hP.lev,List.dropLast_concat]
  have hW:InvW p f { d with σ:={ d.σ with lev:=v0 } }:=by
   have:=zYc hi
   unfold Dat.to at this
   rw[hP.lev,List.dropLast_concat]at this;exact this
  have xp:zZe w1 w3 L (L.pop l0):=⟨ef.mono λb hb _=>.inl hb,λb hb=>.inl (yWY hP.lh hb),rfl⟩
  refine⟨x.page,x.f,x.r,0,rfl,alB λw4 aK cc=>zQl cc zVm.symm rfl rfl λw5 bq ci _=>Br.of (λc=>by cases c) (λ_=>?_)⟩
  have ck:Pu w3 w5:=aK.andNew ci λi hi=>by rw[show i=_ from hi];exact Nat.le_refl _
  refine Calls.mono (yZs (L:=L.pop l0) (h3.pu ck) hW ⟨hs.l1,hs.l2,hs.wn,hs.dn⟩) ?_
  rintro e w7 ⟨rfl,L2,h7,hL7⟩
  refine⟨rfl,?_⟩
  rw[e1,e2]
  have hL:=(hI.left.trans xp).trans ((zZe.pu ck (L.pop l0)).trans hL7)
  exact zJ1 h7 hL hL.ptr.symm
end Go.Proofs.YtaeecpjhfmcliaaGreatDoor
/- The log: records are put behind, replaced, marked; values are set. No condition but those stated. -/
namespace Go.Proofs.YtaeecpjhfmcliaaGreatDoor
open Go.Sh Go.RowKit Tryz
variable {w0 w w' : World} {X : Nat -> Prop} {L L' : SL} {d d' : Dat} {mu : Int} {p : Int} {f : List Fld}
theorem xJy{L1:SL}{w1:World}{d1:Dat}(h1:zQH X w1 L1 d1 1)(hl:zZe w w1 L L1)(hW:InvW p f d1)(hs:Fit d1):Calls prog 79 #[L.ptr] w1 λe w2=>e=.returned (.tuple #[])/\∃L2,zQH X w2 L2 d1.commit 1/\zZe w w2 L L2:=by
 have e:L.ptr=L1.ptr:=by unfold SL.ptr;rw[hl.ptr]
 rw[e]
 refine(yZs h1 hW hs).mono ?_
 rintro e w2 ⟨rfl,L2,h2,qy⟩
 exact⟨rfl,L2,h2,hl.trans qy⟩
theorem stA3 {c:Array Value} {S:Nat} {v0 v1 v2:Value} {K:World->Prop} (hb:w.heap[S]?=some (.cells c 108)) (hc:c.size=11) (h0:zYz v0=true) (h1:zYz v1=true) (h2:zYz v2=true)
  (hK:∀w2,w2.heap[S]?=some (.cells (((c.setIfInBounds 2 v0).setIfInBounds 3 v1).setIfInBounds 4 v2) 108)->Fr (·=S) w w2->K w2):stA prog 35 ((⟨S,0,none⟩:Addr).add 2) #[v0,v1,v2] w K:=by
 refine⟨zVm.symm,by simp[h0,h1,h2],?_⟩
 show Sh.st1 (((⟨S,0,none⟩:Addr).add 2).add 0) v0 w _
 rw[zQn,zQn]
 refine zQw hb (by omega) λwa hwa hba=>?_
 show Sh.st1 (((⟨S,0+2,none⟩:Addr)).add 1) v1 wa _
 rw[zQn]
 refine zQw hba (by simp;omega) λwb hwb hbb=>?_
 show Sh.st1 (((⟨S,0+2,none⟩:Addr)).add 2) v2 wb _
 rw[zQn]
 refine zQw hbb (by simp;omega) λwc hwc hbc=>hK wc hbc ?_
 rw[hwc,hwb,hwa]
 exact((Fr.cell w _ _ _).trans (Fr.cell _ _ _ _) λ_ h _=>h).trans (Fr.cell _ _ _ _) λ_ h _=>h
theorem back_c(h:zQH X w L d 0)(hl8:d.σ.lev.length<=8):Calls prog 37 #[L.ptr] w (yVD X w L (.int .i64 (zWi d.σ)) d.back):=by
 have hS:=h.S_lt
 refine yQR _ w _ ((zZg h (Pu.refl w)).mono ?_)
 rintro e w1 ⟨rfl,hI,hf,hsz⟩
 have h1:=hI.at_ h
 refine⟨_,_,rfl,zWT (Br.of (λc=>by cases c) λ_=>(yZp h1 (by omega)).mono ?_)⟩
 rintro e w3 (⟨hnil,rfl,aC⟩|⟨l0,x,v0,t,hP,rfl,ef,pR⟩)
 ·refine⟨0,⟨none,0,0⟩,⟨none,0,0⟩,9,rfl,alB λw4 aK cc=>zQl cc zVm.symm rfl rfl λw5 bq ci _=>Br.of (λ_=>?_) (λc=>by cases c)⟩
  have gk:Pu w1 w5:=(aC.trans aK).andNew ci λi hi=>by rw[show i=_ from hi];exact aC.size
  have e1:zWi d.σ=9:=by unfold zWi;rw[if_pos hnil]
  have e2:d.back=d:=by unfold Dat.back Dat.to yQO;rw[if_pos hnil]
  rw[e1,e2]
  exact zJs (h1.pu gk) (hI.left.trans (zZe.pu gk L))
 ·have hlne:d.σ.lev ≠ []:=by rw[hP.lev];simp
  have e1:zWi d.σ=0:=by unfold zWi;rw[if_neg hlne]
  have e2:d.back={ d with σ:={ d.σ with t:=t,lev:=v0 } }:=by
   unfold Dat.back Dat.to yQO;rw[if_neg hlne,hP.lev,List.dropLast_concat,List.getLast?_concat];rfl
  refine⟨x.page,x.f,x.r,0,rfl,alB λw4 aK cc=>zQl cc zVm.symm rfl rfl λw5 bq ci _=>Br.of (λc=>by cases c) (λ_=>⟨_,cl bq 0,x.f,cl bq 1,x.r,cl bq 2,?_⟩)⟩
  have ck:Pu w3 w5:=aK.andNew ci λi hi=>by rw[show i=_ from hi];exact Nat.le_refl _
  rw[zWV]
  refine stA3 (ck.blk pR) rfl rfl rfl rfl λw8 lI tk=>?_
  have tm:Fr (·=L.S) w1 w8:=(ef.trans (Fr.pu ck:Fr (·=L.S) w3 w5) λ_ h _=>h).trans tk λ_ h _=>h
  have h8:=h1.undo hP tm (mu':=1) lI
  have hL8:zZe w1 w8 L (L.undo l0 x):=⟨tm.mono λb hb _=>.inl hb,λb hb=>.inl (yZu hP.lh hb),rfl⟩
  rw[e1,e2]
  exact zJ1 h8 (hI.left.trans hL8) rfl
theorem yVm(h:zQH X w L d mu)(hn:d.σ.t.recs.length<=1000000)(k:Int):Calls prog 81 #[L.ptr,.int .i64 k] w λe w'=>e=.returned (.bool (zZA d.σ k))/\w'=w:=by
 have hrl:=h.now.rlen
 refine yWj _ _ w _ (Br.of (λc=>⟨L.now.r,h.cellB 2 2,?_,rfl⟩) (λc=>⟨?_,rfl⟩))
 ·have c:=zQs c
  unfold zZA
  rw[hrl,decide_eq_true (show 1<=k by omega),Bool.true_and]
 ·have c:=zQj c
  unfold zZA
  rw[decide_eq_false (show ¬1<=k by omega),Bool.false_and]
end Go.Proofs.YtaeecpjhfmcliaaGreatDoor
/- The log: records are replaced and marked; values are set; the log is made clean. No condition but those stated. -/
namespace Go.Proofs.YtaeecpjhfmcliaaGreatDoor
open Go.Sh Go.RowKit Tryz
variable {w0 w w' : World} {X : Nat -> Prop} {L L' : SL} {d d' : Dat} {mu : Int} {p : Int} {f : List Fld}
theorem yVB{σ:Sto}{k:Int}(h:zZA σ k=true)(hn:σ.t.recs.length<=300):∃j:Nat,k=(j:Int)+1/\j<σ.t.recs.length/\(k - 1).toNat=j/\IntKind.i64.wrap (k - 1)=(j:Int):=by
 unfold zZA at h
 simp only[Bool.and_eq_true,decide_eq_true_eq]at h
 refine⟨(k - 1).toNat,by omega,by omega,rfl,?_⟩
 rw[zQa (by omega) (by omega)];omega
theorem modW (hi:Inv p f d) {j:Nat} {g:Rec->Rec} (hg:∀y,d.σ.t.recs[j]?=some y->zQA f p (g y)=0):InvW p f (d.to { d.σ with t:={ d.σ.t with recs:=d.σ.t.recs.modify j g } }):=
 yQ6 hi (by rw[List.length_modify];exact(zX3.of hi.t.ok).n300) (by rw[List.length_modify];exact Nat.le_refl _) λx hx=>by
  rcases zVK hx with hx|⟨y,hy,rfl⟩
  ·exact hi.recR x hx
  ·exact hg y hy
theorem set_c(h:zQH X w L d 0)(hi:Inv p f d)(hs:Fit d)(k:Int)(nm:ByteArray)(v:Val):Calls prog 40 #[L.ptr,.int .i64 k,.string nm,.agg #[.int .i64 v.kind,.int .i64 v.n,.string v.s]] w (yVD X w L (.int .i64 (yVJ d.σ k nm v)) (d.set k nm v)):=by
 have hS:=h.S_lt
 have gn:=(zX3.of hi.t.ok).n300
 have hrl:=h.now.rlen
 refine yQn _ _ _ _ _ _ w _ (alB λw1 aA aD=>(zZg h aA).mono ?_)
 rintro e w2 ⟨rfl,hI,hf,hsz⟩
 have h2:=hI.at_ h
 have mt:w.heap.size<w1.heap.size:=zQ5 aD
 have b2:=hf.blk aD (show ¬w.heap.size=L.S by omega)
 refine⟨_,_,rfl,zWT (Br.of (λc=>by cases c) λ_=>⟨L.now.f,h2.cellB 2 1,(xJp h2.kp0.nf nm).mono ?_⟩)⟩
 rintro e w5 ⟨rfl,ba⟩
 have h5:=h2.pu ba
 have stay:∀{w3:World} (c:Int),Ins w w3 L->yVJ d.σ k nm v=c->d.set k nm v=d->zQd prog [zZt L] w3 λw4=>yVD X w L (.int .i64 (yVJ d.σ k nm v)) (d.set k nm v) (.returned (.int .i64 c)) w4:=λ{w3} c yO hc hd=>by
  rw[hd,hc]
  exact zJs (yO.at_ h) yO.left
 refine⟨_,_,rfl,Br.of (λc=>?_) (λc=>?_)⟩
 ·have c:yK7 d.σ.t.fields nm=none:=by simpa using c
  exact stay 4 (hI.pu ba) (by unfold yVJ;rw[c]) (by unfold Dat.set;rw[c])
 have c:(yK7 d.σ.t.fields nm).isSome=true:=by simpa using c
 obtain⟨i,hidx⟩:=Option.isSome_iff_exists.1 c
 have hil:=xZq hidx
 have eK:idxK d.σ.t.fields nm=(i:Int):=by unfold idxK;rw[hidx];rfl
 have eC:yVJ d.σ k nm v=if zZA d.σ k then(zJC (d.σ.t.fields.getD i default) d.σ.t.page v).2 else 4:=by unfold yVJ;rw[hidx]
 have eS:d.set k nm v=if zZA d.σ k/\(zJC (d.σ.t.fields.getD i default) d.σ.t.page v).2=0 then d.recs (d.σ.t.recs.modify (k - 1).toNat λr=>{ r with v:=r.v.set i (zJC (d.σ.t.fields.getD i default) d.σ.t.page v).1 })else d:=by unfold Dat.set;rw[hidx]
 refine(yVm h5 (by omega) k).mono ?_
 rintro e w7 ⟨rfl,rfl⟩
 refine⟨_,rfl,Br.of (λc1=>?_) (λc1=>zQe λw9 dY _=>?_)⟩
 ·have c1:zZA d.σ k=false:=by simpa using c1
  exact stay 4 (hI.pu ba) (by rw[eC,if_neg (by rw[c1];simp)]) (by rw[eS,if_neg (by rw[c1];simp)])
 have c1:zZA d.σ k=true:=by simpa using c1
 obtain⟨j,hk,hj,hjn,hwj⟩:=yVB c1 gn
 have kD:=ba.trans dY
 have h9:=h2.pu kD
 have b9:=kD.blk b2
 obtain⟨fl,hfl⟩:=zXf hil
 have efl:d.σ.t.fields.getD i default=fl:=by rw[List.getD_eq_getElem?_getD,hfl];rfl
 rw[efl]at eC eS
 obtain⟨a,ha,hia,_,_,_,f0,f1,f2,f3⟩:=zVj h9.kp0.nf hfl
 rw[eK]
 have fB:=List.all_eq_true.1 (zJE.of hi.t.ok).all fl (List.mem_of_getElem? hfl)
 refine⟨L.now.f,h9.cellB 2 1,a,ha,by omega,by omega,_,by rw[zZW];exact f0,_,by rw[zZW];exact f1,_,by rw[zZW];exact f2,_,by rw[zZW];exact f3,d.σ.t.page,by rw[h9.cellA 2,←h9.now.page];rfl,_,cl b9 0,_,cl b9 1,_,cl b9 2,(fit_c fl d.σ.t.page v (by have:=(zQT fB).2.1;omega) w9).mono ?_⟩
 rintro e aZ ⟨rfl,bn⟩
 refine⟨_,_,_,_,rfl,zQl (bn.blk b9) vk73.symm rfl rfl λbI go pT _=>?_⟩
 have tn:Ins w bI L:=((hI.pu kD).pu bn).box pT hS (Nat.le_refl _)
 refine Br.of (λc2=>?_) (λc2=>zQe λbK bU _=>?_)
 ·have c2:(zJC fl d.σ.t.page v).2 ≠ 0:=zQG c2
  exact stay _ tn (by rw[eC,if_pos c1]) (by rw[eS,if_neg (λe=>c2 e.2)])
 have c2:(zJC fl d.σ.t.page v).2=0:=zQ4 c2
 have tp:=tn.pu bU
 have fv:=tp.at_ h
 have fY:=bU.blk go
 obtain⟨y,hy⟩:=zXf (l:=L.now.hs) (k:=j) (by rw[h.now.len];exact hj)
 obtain⟨r,hrj⟩:=zXf hj
 have hvl:r.v.length=d.σ.t.fields.length:=zJi ((zX3.of hi.t.ok).recs r (List.mem_of_getElem? hrj))
 obtain⟨e1,hV⟩:=fv.now.rec_ j y r hy hrj
 have hyl:=hV.len zX6 (by decide)
 obtain⟨aa,haa,_,g1⟩:=fv.now.rw_.elem zQR hy (o:=1) rfl
 rw[hwj,zZW]
 refine⟨L.now.r,fv.cellB 2 2,aa,haa,by omega,by omega,y.2,g1,_,cl fY 0,_,cl fY 1,_,cl fY 2,?_⟩
 have eA:d.set k nm v=d.recs (d.σ.t.recs.modify j λr=>{ r with v:=r.v.set i (zJC fl d.σ.t.page v).1 }):=by rw[eS,if_pos ⟨c1,c2⟩,hjn]
 have eC2:yVJ d.σ k nm v=0:=by rw[eC,if_pos c1];exact c2
 obtain⟨av,hav,hst⟩:=fv.now.setV hrj (i:=i) (by omega) (zJC fl d.σ.t.page v).1 hy (K:=λaR=>Calls prog 79 #[L.ptr] aR λe aZ=>e=.returned (.tuple #[])/\zQd prog [zZt L] aZ λbI=>yVD X w L (.int .i64 (yVJ d.σ k nm v)) (d.set k nm v) (.returned (.int .i64 0)) bI) λaR xr gm=>by
  have tq:=gm.blk fv.st (hV.other fv.st (by decide))
  obtain⟨kN,xt⟩:=fv.reNow (Pu.refl _) gm (λb hb=>.inr (.inr (zY1 (List.mem_of_getElem? hy) hb))) (q:=L.now) (t:={ d.σ.t with recs:=d.σ.t.recs.modify j λr=>{ r with v:=r.v.set i (zJC fl d.σ.t.page v).1 } }) tq xr (λb hb=>.inl hb) rfl rfl
  have hW:=modW hi (j:=j) (g:=λr=>{ r with v:=r.v.set i (zJC fl d.σ.t.page v).1 }) λy hy=>yQk (hi.recR y (List.mem_of_getElem? hy)) λg hg=>by
   have:g=fl:=by rw[←hi.t.fields,hfl]at hg;exact(Option.some.inj hg).symm
   rw[this,←hi.t.page]
   exact yZB c2
  refine(xJy kN (tp.left.trans xt) hW ⟨hs.l1,hs.l2,hs.wn,hs.dn⟩).mono ?_
  rintro e bv ⟨rfl,L2,h15,tr⟩
  refine⟨rfl,?_⟩
  rw[eA,eC2]
  exact zJ1 h15 tr tr.ptr.symm
 exact⟨av,hav,by omega,by omega,by rw[zZW];exact hst⟩
end Go.Proofs.YtaeecpjhfmcliaaGreatDoor
/- The log: the table is written into the data file, and the log made empty. No condition but those stated. -/
namespace Go.Proofs.YtaeecpjhfmcliaaGreatDoor
open Go.Sh Go.RowKit Tryz
variable {w0 w w' : World} {X : Nat -> Prop} {L L' : SL} {d d' : Dat} {mu : Int} {p : Int} {f : List Fld}
theorem zK5.fr {w0:World} {q:SV} {wh:List (Int × Int × SV)} {l:List Wr} {B:Nat->Prop} (h:zK5 w0 w q wh l) (hf:Fr B w w') (hB:∀k,w0.heap.size<=k->k<w.heap.size->¬B k):zK5 w0 w' q wh l:=
 ⟨h.row.fr hf λk hk=>hB k (h.rn k hk) (h.row.lt k hk),h.rn,h.len,λi x y hx hy=>⟨(h.each i x y hx hy).1,(h.each i x y hx hy).2.1,(h.each i x y hx hy).2.2.fr hf hB⟩⟩
end Go.Proofs.YtaeecpjhfmcliaaGreatDoor
/- The log: the reference's copies of records and tables. No condition but those stated. -/
namespace Go.Proofs.YtaeecpjhfmcliaaGreatDoor
open Go.Sh Go.RowKit Tryz
variable {w w' : World}
end Go.Proofs.YtaeecpjhfmcliaaGreatDoor
/- The log: how many writes and commits there are behind some acts. In plain words. No condition but those stated. -/
namespace Go.Proofs.YtaeecpjhfmcliaaGreatDoor
open Go.Sh Go.RowKit Tryz
structure Sz(F:Fls)(n:Nat)(d:Dat):Prop where
 first:d.first=F
 wn:d.wr.length<=5 * n
 dn:d.σ.done.length<=n+1
variable {p : Int} {f : List Fld} {d : Dat} {F : Fls} {n : Nat}
theorem Sz.new(t:Tbl)(F:Fls):Sz F 0 (Dat.new t F):=⟨rfl,Nat.le_refl _,Nat.le_refl _⟩
theorem Sz.up(h:Sz F n d):Sz F (n+1) d:=⟨h.first,by have:=h.wn;omega,by have:=h.dn;omega⟩
theorem Sz.to(h:Sz F n d){σ:Sto}(e:σ.done=d.σ.done):Sz F n (d.to σ):=⟨h.first,h.wn,by show σ.done.length<=_;rw[e];exact h.dn⟩
theorem Sz.commit(h:Sz F n d):Sz F (n+1) d.commit:=by
 unfold Dat.commit
 split
 ·refine⟨h.first,?_,?_⟩
  ·show(d.wr ++ [d.rec_]).length<=_
   have:=h.wn
   rw[List.length_append,List.length_singleton];omega
  ·show(d.σ.done ++ [d.σ.t]).length<=_
   have:=h.dn
   rw[List.length_append,List.length_singleton];omega
 ·exact h.up
theorem Sz.begin(h:Sz F n d):Sz F (n+1) d.begin:=(h.to (by unfold zJI;split <;> rfl)).up
theorem Sz.back(h:Sz F n d):Sz F (n+1) d.back:=(h.to (by unfold yQO;split <;> rfl)).up
theorem Sz.end_(h:Sz F n d):Sz F (n+1) d.end_:=by
 unfold Dat.end_
 split
 ·exact h.up
 ·exact Sz.commit (h.to rfl)
theorem Sz.recs(h:Sz F n d)(l:List Rec):Sz F (n+1) (d.recs l):=Sz.commit (h.to rfl)
theorem Sz.app(h:Sz F n d)(r:Rec):Sz F (n+1) (d.app r):=by
 unfold Dat.app
 split
 ·exact h.recs _
 ·exact h.up
theorem Sz.put(h:Sz F n d)(k:Int)(r:Rec):Sz F (n+1) (d.put k r):=by
 unfold Dat.put
 split
 ·exact h.recs _
 ·exact h.up
theorem Sz.set(h:Sz F n d)(k:Int)(nm:ByteArray)(v:Val):Sz F (n+1) (d.set k nm v):=by
 unfold Dat.set
 cases yK7 d.σ.t.fields nm with
 | none=>exact h.up
 | some i=>
  dsimp only
  split
  ·exact h.recs _
  ·exact h.up
theorem Sz.small(h:Sz F n d)(hi:Inv p f d)(hF:F.1.length<=400000000/\F.2.length<=400000000)(hn:n<=100):Small d:=⟨by rw[h.first];exact hF.1,by rw[h.first];exact hF.2,by have:=h.wn;omega,hi.wb⟩
theorem Sz.fit(h:Sz F n d)(hi:Inv p f d)(hF:F.1.length<=400000000/\F.2.length<=400000000)(hn:n<=100):Fit d:=by
 have hs:=(h.small hi hF hn).files d.wr.length
 rw[←hi.eq]at hs
 exact⟨by omega,by omega,by have:=h.wn;omega,by have:=h.dn;omega⟩
end Go.Proofs.YtaeecpjhfmcliaaGreatDoor
/- The log: what is known of a store that is played in the way that the document shows. No condition. -/
namespace Go.Proofs.YtaeecpjhfmcliaaGreatDoor
open Go.Sh Go.RowKit Tryz
variable {w w' : World}
def yZE(n:Int):Val:=⟨2,n,⟨#[]⟩⟩
def oneR(n:Int):Rec:=⟨false,[yZE n]⟩
def oneF:List Fld:=[⟨⟨#[78]⟩,2,3,false⟩]
def zWx(l:List Int):Tbl:=⟨0,oneF,l.map oneR⟩
theorem one_c {r:Nat} {l:List Int} (hl:l.length<=1000) (hb:w.heap[r]?=some (.cells (l.map (Value.int .i64)).toArray 3)):Calls prog 44 #[.slice (some ⟨r,0,none⟩) l.length l.length] w λe w'=>∃f q:SV,e=.returned (zYq (zWx l) f q)/\zKH w w' (zWx l) f q/\Pu w w':=by
 refine yVC ⟨some ⟨r,0,none⟩,l.length,l.length⟩ w _ (alB λw1 aA aD=>alB λw2 ay aL=>alB λw3 aC be=>zQl be zVm.symm rfl rfl λw4 cc fX _=>?_)
 have tt:Pu w2 w4:=aC.andNew fX λi hi=>by rw[show i=_ from hi];exact Nat.le_refl _
 have jr:=ay.trans tt
 have ei:=aA.trans jr
 have lt0:w.heap.size<w1.heap.size:=zQ5 aD
 have mt:w1.heap.size<w2.heap.size:=zQ5 aL
 obtain⟨qf,hqf⟩:∃qf:SV,qf=⟨some ⟨w1.heap.size,0,none⟩,1,1⟩:=⟨_,rfl⟩
 have qu:zKC w w4 qf (zWx l).fields:=by
  rw[hqf]
  exact⟨⟨rfl,.inr ⟨_,_,rfl,tt.blk aL,Nat.le_refl _,by show 1<=maxLen;unfold maxLen;omega,rfl,rfl⟩⟩,λb hb=>by simp[zQb]at hb;omega⟩
 have S0:ChS w w2.heap.size w.heap.size (zWx l) qf [] w4:=⟨⟨⟨none,0,0⟩,by rw[cc,hqf];rfl,zJD.nil _ _⟩,jr.blk aD,qu,ei,by omega,by omega,by omega⟩
 clear hqf
 refine zQD l.length (λk u w'=>u=(k:Int)/\ChS w w2.heap.size w.heap.size (zWx l) qf ((l.take k).map oneR) w') ⟨rfl,by simpa using S0⟩ ?_
 rintro k J u wa hk ⟨hu,hS⟩ hJ
 obtain rfl:u=(k:Int):=hu
 refine Br.of (λc=>zQe λwb hpb _=>?_) (λc=>?_)
 ·have hkn:k<l.length:=by have:(k:Int)<((l.length:Nat):Int):=zQs c;omega
  obtain⟨x,hx⟩:=zXf hkn
  have hSb:=hS.on hpb
  obtain⟨s,g1,g2⟩:=hSb.ex
  refine⟨λu=>Pu wb u,Pu.refl _,s,λu hu=>cl (hu.blk g1) 2,_,rfl,by omega,by show(k:Int)<((l.length:Nat):Int);omega,x,λu hu=>?_,(yKW x wb).mono ?_⟩
  ·rw[zZW,Nat.mul_one,cl (hu.blk (hSb.pu.blk hb)) k]
   simp[hx]
  rintro e wc ⟨rfl,hpc⟩
  refine⟨_,_,_,rfl,hpc,alB λwd hpd hbd=>⟨hpc.trans hpd,alB λwe hpe hbe=>⟨(hpc.trans hpd).trans hpe,?_⟩⟩⟩
  have hpbe:=(hpc.trans hpd).trans hpe
  have hSe:=hSb.on hpbe
  have g1e:=hpbe.blk g1
  have g2e:=g2.pu hpbe
  have zb:=hSb.pu.size
  have zc:=hpc.size
  have hv:zJO w we ⟨some ⟨wc.heap.size,0,none⟩,1,1⟩ [yZE x]:=⟨⟨rfl,.inr ⟨_,_,rfl,hpe.blk hbd,Nat.le_refl _,by show 1<=maxLen;unfold maxLen;omega,rfl,rfl⟩⟩,λb hb=>by simp[zQb]at hb;omega⟩
  obtain⟨s',wf,hra,nf,hff⟩:=g2e.push (g:=false) (vs:=[yZE x]) hSe.pu.size hv hbe rfl (by rw[List.length_map,List.length_take];omega)
  refine⟨s',wf,hra,?_⟩
  have nk:∀{b:Nat} {c:Array Value},we.heap[b]?=some (.cells c 35)->¬b ∈ zQb s:=λhb hk=>by obtain⟨qs,k1,_⟩:=g2e;exact k1.other hb (by decide) hk
  have g1f:=hff.blk g1e (nk g1e)
  refine zQw g1f (by show 2<3;omega) λwg hwg hbg=>?_
  have hfg:Fr (·=w2.heap.size) wf wg:=by rw[hwg];exact Fr.cell wf _ _ _
  have hqe:zKC w wf qf (zWx l).fields:=hSe.qf.fr hff λk hk e=>by obtain⟨qs,k1,_⟩:=g2e;exact zQp hSe.qf.1 k1 (by decide) k hk e
  rw[zQa (by omega) (by omega)]
  refine hJ _ _ hkn ⟨rfl,⟨⟨s',hbg,?_⟩,hfg.blk (hff.blk hSe.b4 (nk hSe.b4)) (Ne.symm hSe.ne),hqe.fr hfg λk hk e=>hqe.1.other g1f (by decide) (by rw[←show k=_ from e];exact hk),(hSe.pu.andNew hff g2e.own).andNew hfg λi hi=>by rw[show i=_ from hi];exact hSe.z2,hSe.z2,hSe.z4,hSe.ne⟩⟩
  rw[zQK hx,List.map_append]
  exact nf.other hfg g1f (by decide) (by decide)
 ·have hkn:k=l.length:=by have:¬(k:Int)<((l.length:Nat):Int):=zQj c;omega
  subst hkn
  rw[List.take_length]at hS
  obtain⟨s,g1,g2⟩:=hS.ex
  exact⟨_,cl g1 0,qf,cl g1 1,s,cl g1 2,zQl hS.b4 zVm.symm rfl rfl λwz hbz hfz _=>⟨_,cl hbz 0,qf,cl hbz 1,s,cl hbz 2,qf,s,rfl,⟨hS.qf.fr hfz λk hk e=>hS.qf.1.other hS.b4 (by decide) (by rw[←show k=_ from e];exact hk),g2.other hfz hS.b4 (by decide) (by decide)⟩,hS.pu.andNew hfz λi hi=>by rw[show i=_ from hi];exact hS.z4⟩⟩
theorem yQd (l:List Int) (h:l=[1,2]∨l=[5,2]):zQh (zWx l)=0:=by
 rcases h with rfl|rfl <;> decide +kernel
def k0:Sto:=Sto.new (zWx [1,2])
def k1:Sto:=zJI k0
def k2:Sto:=setS k1 1 ⟨#[78]⟩ (yZE 5)
def k3:Sto:=zJI k2
def k4:Sto:=setS k3 2 ⟨#[78]⟩ (yZE 6)
def k5:Sto:=yQO k4
def k6:Sto:=endS k5
theorem k1_c:zWC k0=0:=by decide +kernel
theorem k2_c:yVJ k1 1 ⟨#[78]⟩ (yZE 5)=0:=by decide +kernel
theorem k3_c:zWC k2=0:=by decide +kernel
theorem k4_c:yVJ k3 2 ⟨#[78]⟩ (yZE 6)=0:=by decide +kernel
theorem k5_c:zWi k4=0:=by decide +kernel
theorem k6_c:zWi k5=0:=by decide +kernel
theorem k6_t:k6.t=zWx [5,2]:=by decide +kernel
theorem xZV:k6.done=[zWx [1,2],zWx [5,2]]:=by decide +kernel
end Go.Proofs.YtaeecpjhfmcliaaGreatDoor
/- The log: that the program commits what the document says: that call, walked. No condition. -/
namespace Go.Proofs.YtaeecpjhfmcliaaGreatDoor
open Go.Sh Go.RowKit Tryz
variable {w0 w w' : World} {X : Nat -> Prop}
structure KnS(X:Nat->Prop)(w0 w:World)(S:Nat)(p:Int)(f:List Fld)(F:Fls)(n:Nat)(d:Dat)(L:SL):Prop where
 S:L.S=S
 at_:zQH X w L d 0
 inv:Inv p f d
 sz:Sz F n d
 pu:Pu w0 w
 own:∀b,L.own b->w0.heap.size<=b
variable {S : Nat} {p : Int} {f : List Fld} {F : Fls} {n : Nat} {d d' : Dat} {L : SL}
theorem KnS.on(h:KnS X w0 w S p f F n d L)(hp:Pu w w'):KnS X w0 w' S p f F n d L:=⟨h.S,h.at_.pu hp,h.inv,h.sz,h.pu.trans hp,h.own⟩
theorem KnS.act (h:KnS X w0 w S p f F n d L) {i:Nat} {v:Value} {args:Array Value} (hc:Calls prog i args w (yVD X w L v d')) (hi:Inv p f d') (hz:Sz F (n+1) d'):Calls prog i args w λe w'=>e=.returned v/\∃L',KnS X w0 w' S p f F (n+1) d' L':=by
 refine hc.mono ?_
 rintro e w2 ⟨rfl,L2,h2,hl⟩
 exact⟨rfl,L2,hl.ptr.trans h.S,h2,hi,hz,h.pu.andNew hl.fr h.own,λb hb=>(hl.own b hb).elim (h.own b) λhb=>by have:=h.pu.size;omega⟩
theorem KnS.ptr(h:KnS X w0 w S p f F n d L):Value.pointer (some ⟨S,0,none⟩)=L.ptr:=by rw[←h.S]
theorem xJd(w:World):Calls prog 10 #[] w λe w'=>e=.returned (.bool true)/\Pu w w':=by
 have qz:=yQd [1,2] (.inl rfl)
 have tW:=yQd [5,2] (.inr rfl)
 refine yVk w _ (alB λw1 aA aD=>(one_c (l:=[1,2]) (by decide) aD).mono ?_)
 rintro e w2 ⟨f,q,rfl,hO,ay⟩
 have aJ:=aA.trans ay
 refine⟨_,f,q,rfl,(new_c (X:=λ_=>False) (hO.rd (zV4 qz)) (zKs qz) λb hb=>hb.elim).mono ?_⟩
 rintro e w3 ⟨aC,⟨ky,_⟩|⟨_,p,rfl,L,rfl,h3,own⟩⟩
 ·exact absurd qz ky
 have hF:(zQz (zWx [1,2])).length<=400000000/\([]:List UInt8).length<=400000000:=⟨by have:=zVe (zJE.of qz);show(zQz (zWx [1,2])).length<=_;omega,by simp⟩
 have K0:KnS (λ_=>False) w w3 L.S 0 oneF (zQz (zWx [1,2]),[]) 0 (Dat.new (zWx [1,2]) (zQz (zWx [1,2]),[])) L:=⟨rfl,h3,yWg qz (yYc qz),Sz.new _ _,aJ.trans aC,λb hb=>by have:=own b hb;have:=aJ.size;omega⟩
 obtain⟨S,hS⟩:∃S:Nat,S=L.S:=⟨_,rfl⟩
 rw[←hS]at K0 ⊢
 clear hS h3 own
 obtain⟨d0,sW⟩:∃d0,d0=Dat.new (zWx [1,2]) (zQz (zWx [1,2]),[]):=⟨_,rfl⟩
 have s0:d0.σ=k0:=by rw[sW];rfl
 rw[←sW]at K0
 clear sW
 refine⟨_,_,rfl,Br.of (λc=>by cases c) λ_=>?_⟩
 rw[K0.ptr]
 refine(K0.act (yWO K0.at_ K0.inv.toInvW) (yQK K0.inv) K0.sz.begin).mono ?_
 rintro e w4 ⟨rfl,L1,K1⟩
 rw[s0,k1_c]
 have s1:d0.begin.σ=k1:=by show zJI d0.σ=_;rw[s0];rfl
 refine⟨_,rfl,Br.of (λc=>by cases c) λ_=>(yKW 5 w4).mono ?_⟩
 rintro e w5 ⟨rfl,ba⟩
 replace K1:=K1.on ba
 refine⟨_,_,_,rfl,?_⟩
 rw[←K0.ptr,K1.ptr]
 refine(K1.act (set_c K1.at_ K1.inv (K1.sz.fit K1.inv hF (by omega)) 1 ⟨#[78]⟩ (yZE 5)) (yKQ K1.inv _ _ _) (K1.sz.set _ _ _)).mono ?_
 rintro e w6 ⟨rfl,L2,K2⟩
 rw[s1,k2_c]
 have s2:(d0.begin.set 1 ⟨#[78]⟩ (yZE 5)).σ=k2:=by rw[Dat.set_σ,s1];rfl
 refine⟨_,rfl,Br.of (λc=>by cases c) λ_=>?_⟩
 rw[←K1.ptr,K2.ptr]
 refine(K2.act (yWO K2.at_ K2.inv.toInvW) (yQK K2.inv) K2.sz.begin).mono ?_
 rintro e w7 ⟨rfl,L3,K3⟩
 rw[s2,k3_c]
 have s3:(d0.begin.set 1 ⟨#[78]⟩ (yZE 5)).begin.σ=k3:=by show zJI (d0.begin.set 1 ⟨#[78]⟩ (yZE 5)).σ=_;rw[s2];rfl
 refine⟨_,rfl,Br.of (λc=>by cases c) λ_=>(yKW 6 w7).mono ?_⟩
 rintro e w8 ⟨rfl,bM⟩
 replace K3:=K3.on bM
 refine⟨_,_,_,rfl,?_⟩
 rw[←K2.ptr,K3.ptr]
 refine(K3.act (set_c K3.at_ K3.inv (K3.sz.fit K3.inv hF (by omega)) 2 ⟨#[78]⟩ (yZE 6)) (yKQ K3.inv _ _ _) (K3.sz.set _ _ _)).mono ?_
 rintro e w9 ⟨rfl,L4,K4⟩
 rw[s3,k4_c]
 obtain⟨d4,ta⟩:∃d4,d4=(d0.begin.set 1 ⟨#[78]⟩ (yZE 5)).begin.set 2 ⟨#[78]⟩ (yZE 6):=⟨_,rfl⟩
 have s4:d4.σ=k4:=by rw[ta,Dat.set_σ,s3];rfl
 rw[←ta]at K4
 clear ta
 refine⟨_,rfl,Br.of (λc=>by cases c) λ_=>?_⟩
 rw[←K3.ptr,K4.ptr]
 refine(K4.act (back_c K4.at_ K4.inv.l8) (yVY K4.inv) K4.sz.back).mono ?_
 rintro e aM ⟨rfl,L5,K5⟩
 rw[s4,k5_c]
 have s5:d4.back.σ=k5:=by show yQO d4.σ=_;rw[s4];rfl
 refine⟨_,rfl,Br.of (λc=>by cases c) λ_=>?_⟩
 rw[←K4.ptr,K5.ptr]
 refine(K5.act (end_c K5.at_ K5.inv (K5.sz.fit K5.inv hF (by omega))) (xJi K5.inv) K5.sz.end_).mono ?_
 rintro e aQ ⟨rfl,L6,K6⟩
 rw[s5,k6_c]
 have s6:d4.back.end_.σ=k6:=by rw[Dat.end_σ,s5];rfl
 obtain⟨d6,yP⟩:∃d6,d6=d4.back.end_:=⟨_,rfl⟩
 rw[←yP]at K6 s6
 clear yP
 refine⟨_,rfl,Br.of (λc=>by cases c) λ_=>?_⟩
 rw[K6.ptr]
 have hdone:d6.σ.done=[zWx [1,2],zWx [5,2]]:=by rw[s6,xZV]
 refine(yXz K6.at_ (λt ht=>(K6.inv.done t ht).ok) 1).mono ?_
 rintro e aR ⟨x,rfl,hx,dW⟩
 have eC:yX4 d6.σ 1=0:=by unfold yX4;rw[hdone];rfl
 have eT:yQb d6.σ 1=zWx [5,2]:=by unfold yQb;rw[hdone];rfl
 rw[eC]
 rw[eT]at hx
 refine⟨_,x.f,x.r,_,rfl,alB λaZ bn kF=>zQl kF zVm.symm rfl rfl λbI go pT _=>zQe λbv gk _=>?_⟩
 have eP:Pu aR bI:=bn.andNew pT λi hi=>by rw[show i=_ from hi];exact Nat.le_refl _
 have iA:=eP.trans gk
 have kW:=gk.blk go
 have K7:=(K6.on dW).on iA
 have tu:=hx.pu iA
 refine⟨λu=>Pu bv u,Pu.refl _,Br.of (λ_=>(yWQ K7.at_ (by rw[hdone];decide)).mono ?_) (λc=>by cases c)⟩
 rintro e bK ⟨rfl,bU⟩
 rw[hdone]
 refine⟨_,rfl,bU,Br.of (λ_=>⟨x.page,λu hu=>cl (hu.blk kW) 0,x.f,λu hu=>cl (hu.blk kW) 1,x.r,λu hu=>cl (hu.blk kW) 2,alB λbA jR xu=>⟨bU.trans jR,(one_c (l:=[5,2]) (by decide) xu).mono ?_⟩⟩) (λc=>by cases c)⟩
 rintro e bY ⟨f2,q2,rfl,hO2,iC⟩
 have pU:=(bU.trans jR).trans iC
 have hp_x:x.page=(zWx [5,2]).page:=hx.tab.page
 refine⟨_,f2,q2,rfl,pU,?_⟩
 rw[hp_x]
 refine(yWC ((tu.pu pU).rd tW) (hO2.rd (zV4 tW))).mono ?_
 rintro e ce ⟨rfl,xv⟩
 rw[decide_eq_true rfl]
 have my:=pU.trans xv
 refine⟨_,rfl,my,Br.of (λ_=>⟨x.page,λu hu=>cl (hu.blk kW) 0,x.f,λu hu=>cl (hu.blk kW) 1,x.r,λu hu=>cl (hu.blk kW) 2,?_⟩) (λc=>by cases c)⟩
 have K8:=K7.on my
 have e8:d6.σ.t=zWx [5,2]:=by rw[s6,k6_t]
 refine(yQJ K8.at_ K8.inv.t.ok).mono ?_
 rintro e cf ⟨y,rfl,hy,fU⟩
 rw[e8]at hy
 have hp_y:y.page=(zWx [5,2]).page:=hy.tab.page
 refine⟨_,y.f,y.r,rfl,my.trans fU,?_⟩
 rw[hp_x,hp_y]
 refine(yWC (hy.rd tW) ((tu.pu (my.trans fU)).rd tW)).mono ?_
 rintro e bt ⟨rfl,lr⟩
 rw[decide_eq_true rfl]
 exact⟨_,rfl,rfl,(K8.on (fU.trans lr)).pu⟩
end Go.Proofs.YtaeecpjhfmcliaaGreatDoor
/- The law of what is opened, walked. No condition. -/
namespace Go.Proofs.YtaeecpjhfmcliaaGreatDoor
open Go.Sh Go.RowKit Tryz
variable {w w' : World}
end Go.Proofs.YtaeecpjhfmcliaaGreatDoor
/- The law of no store, walked. No condition. -/
namespace Go.Proofs.YtaeecpjhfmcliaaGreatDoor
open Go.Sh Go.RowKit Tryz
variable {w w' : World}
theorem zQI(w:World):Calls prog 55 #[.pointer none] w λe w'=>e=.returned (.tuple #[.func (.func 94) #[] #[],.int .i64 9])/\w'=w:=
 zYS none w _ ⟨true,w,zW8 vu24 _ _ none w,Br.of (λ_=>⟨rfl,rfl⟩) (λc=>by cases c)⟩
theorem zQ7{K:World->Prop}(h:K w):zQd prog [{ target:=.fn (.func 94) #[],args:=#[] }] w K:=by
 show yVd prog _ w _
 show CallsD prog 94 #[] .returning w _
 refine CallsD.mono (yJM w (λe w'=>e=.returned (.tuple #[])/\w'=w) .returning ⟨rfl,rfl⟩) ?_
 rintro e u w' ⟨rfl,rfl,rfl⟩
 exact⟨⟨_,rfl⟩,rfl,h⟩
theorem zXq {K:FuncId->Array Value->Array Value->Prop} (h:K 94 #[] #[]):fnE (.func (.func 94) #[] #[]) K:=h
def zXX(w:World)(v:Value):Rt:=λe w'=>e=.returned v/\Pu w w'
theorem n20(w:World):Calls prog 20 #[.pointer none] w (zXX w (.int .i64 0)):=yWi none w _ ((zQI w).mono λe w1 ⟨he,hw⟩=>by subst he hw;exact⟨_,_,rfl,zXq (Br.of (λ_=>zQ7 ⟨rfl,Pu.refl _⟩) (λc=>by cases c))⟩)
theorem n22(w:World):Calls prog 22 #[.pointer none] w (zXX w (.int .i64 0)):=yQZ none w _ ((zQI w).mono λe w1 ⟨he,hw⟩=>by subst he hw;exact⟨_,_,rfl,zXq (Br.of (λ_=>zQ7 ⟨rfl,Pu.refl _⟩) (λc=>by cases c))⟩)
theorem n30(w:World):Calls prog 30 #[.pointer none] w (zXX w (.int .i64 0)):=yWp none w _ ((zQI w).mono λe w1 ⟨he,hw⟩=>by subst he hw;exact⟨_,_,rfl,zXq (Br.of (λ_=>zQ7 ⟨rfl,Pu.refl _⟩) (λc=>by cases c))⟩)
theorem n29(w:World):Calls prog 29 #[.pointer none] w (zXX w (.slice none 0 0)):=yWR none w _ ((zQI w).mono λe w1 ⟨he,hw⟩=>by subst he hw;exact⟨_,_,rfl,zXq (Br.of (λ_=>zQ7 ⟨rfl,Pu.refl _⟩) (λc=>by cases c))⟩)
theorem n25(w:World):Calls prog 25 #[.pointer none] w (zXX w (.slice none 0 0)):=yKI none w _ ((zQI w).mono λe w1 ⟨he,hw⟩=>by subst he hw;exact⟨_,_,rfl,zXq (Br.of (λ_=>zQ7 ⟨rfl,Pu.refl _⟩) (λc=>by cases c))⟩)
theorem n33(w:World)(a b:Int):Calls prog 33 #[.pointer none,.int .i64 a,.int .i64 b] w (zXX w (.tuple #[.slice none 0 0,.slice none 0 0,.int .i64 9])):=yVj none a b w _ ((zQI w).mono λe w1 ⟨he,hw⟩=>by subst he hw;exact⟨_,_,rfl,zXq (Br.of (λ_=>zQ7 ⟨rfl,Pu.refl _⟩) (λc=>by cases c))⟩)
theorem n35(w:World):Calls prog 35 #[.pointer none] w (zXX w (.int .i64 9)):=zYQ none w _ ((zQI w).mono λe w1 ⟨he,hw⟩=>by subst he hw;exact⟨_,_,rfl,zXq (Br.of (λ_=>zQ7 ⟨rfl,Pu.refl _⟩) (λc=>by cases c))⟩)
theorem n36(w:World):Calls prog 36 #[.pointer none] w (zXX w (.int .i64 9)):=yQN none w _ ((zQI w).mono λe w1 ⟨he,hw⟩=>by subst he hw;exact⟨_,_,rfl,zXq (Br.of (λ_=>zQ7 ⟨rfl,Pu.refl _⟩) (λc=>by cases c))⟩)
theorem n37(w:World):Calls prog 37 #[.pointer none] w (zXX w (.int .i64 9)):=yQR none w _ ((zQI w).mono λe w1 ⟨he,hw⟩=>by subst he hw;exact⟨_,_,rfl,zXq (Br.of (λ_=>zQ7 ⟨rfl,Pu.refl _⟩) (λc=>by cases c))⟩)
theorem n41(w:World):Calls prog 41 #[.pointer none] w (zXX w (.int .i64 9)):=yV8 none w _ ((zQI w).mono λe w1 ⟨he,hw⟩=>by subst he hw;exact⟨_,_,rfl,zXq (Br.of (λ_=>zQ7 ⟨rfl,Pu.refl _⟩) (λc=>by cases c))⟩)
theorem n39(w:World)(a:Int)(b:Bool):Calls prog 39 #[.pointer none,.int .i64 a,.bool b] w (zXX w (.int .i64 9)):=yWm none a b w _ ((zQI w).mono λe w1 ⟨he,hw⟩=>by subst he hw;exact⟨_,_,rfl,zXq (Br.of (λ_=>zQ7 ⟨rfl,Pu.refl _⟩) (λc=>by cases c))⟩)
theorem n34(w:World):Calls prog 34 #[.pointer none,.agg #[.bool false,.slice none 0 0]] w (zXX w (.tuple #[.int .i64 0,.int .i64 9])):=yKF none false ⟨none,0,0⟩ w _ (alB λw1 aA aD=>(zQI w1).mono λe w2 ⟨he,hw⟩=>by subst he hw;exact⟨_,_,rfl,zXq (Br.of (λ_=>zQ7 ⟨rfl,aA⟩) (λc=>by cases c))⟩)
theorem n38(w:World)(a:Int):Calls prog 38 #[.pointer none,.int .i64 a,.agg #[.bool false,.slice none 0 0]] w (zXX w (.int .i64 9)):=yVe none a false ⟨none,0,0⟩ w _ (alB λw1 aA aD=>(zQI w1).mono λe w2 ⟨he,hw⟩=>by subst he hw;exact⟨_,_,rfl,zXq (Br.of (λ_=>zQ7 ⟨rfl,aA⟩) (λc=>by cases c))⟩)
theorem n40(w:World)(a:Int):Calls prog 40 #[.pointer none,.int .i64 a,.string (⟨#[]⟩:ByteArray),.agg #[.int .i64 0,.int .i64 0,.string (⟨#[]⟩:ByteArray)]] w (zXX w (.int .i64 9)):=yQn none a ⟨#[]⟩ 0 0 ⟨#[]⟩ w _ (alB λw1 aA aD=>(zQI w1).mono λe w2 ⟨he,hw⟩=>by subst he hw;exact⟨_,_,rfl,zXq (Br.of (λ_=>zQ7 ⟨rfl,aA⟩) (λc=>by cases c))⟩)
theorem n14(w:World):Calls prog 14 #[.pointer none] w (zXX w (.agg #[.int .i64 0,.slice none 0 0,.slice none 0 0])):=yQ0 none w _ (alB λw1 aA aD=>(zQI w1).mono λe w2 ⟨he,hw⟩=>by
 subst he hw
 exact⟨_,_,rfl,zXq (Br.of (λ_=>zQl aD zVm.symm rfl rfl λw3 be ef _=>zQ7 ⟨_,cl be 0,⟨none,0,0⟩,cl be 1,⟨none,0,0⟩,cl be 2,rfl,aA.andNew ef λi hi=>by rw[show i=_ from hi];exact Nat.le_refl _⟩) (λc=>by cases c))⟩)
theorem n27(w:World)(a:Int):Calls prog 27 #[.pointer none,.int .i64 a] w (zXX w (.tuple #[.agg #[.int .i64 0,.slice none 0 0,.slice none 0 0],.int .i64 9])):=zYR none a w _ (alB λw1 aA aD=>(zQI w1).mono λe w2 ⟨he,hw⟩=>by
 subst he hw
 exact⟨_,_,rfl,zXq (Br.of (λ_=>zQl aD zVm.symm rfl rfl λw3 be ef _=>zQ7 ⟨_,cl be 0,⟨none,0,0⟩,cl be 1,⟨none,0,0⟩,cl be 2,rfl,aA.andNew ef λi hi=>by rw[show i=_ from hi];exact Nat.le_refl _⟩) (λc=>by cases c))⟩)
theorem yYw(w:World)(n:Int)(_:zZ2 n):Calls prog 8 #[.int .i64 n] w λe w'=>e=.returned (.bool true)/\Pu w w':=by
 refine yYz n w _ ((n34 w).mono ?_)
 rintro e w1 ⟨rfl,p1⟩
 refine⟨_,_,rfl,(n27 w1 n).mono ?_⟩
 rintro e w2 ⟨rfl,p2⟩
 refine⟨_,⟨none,0,0⟩,⟨none,0,0⟩,_,rfl,alB λw3 p3 be=>zQl be zVm.symm rfl rfl λw4 cc fX _=>?_⟩
 have p24:Pu w2 w4:=p3.andNew fX λi hi=>by rw[show i=_ from hi];exact Nat.le_refl _
 refine(n33 w4 n n).mono ?_
 rintro e w5 ⟨rfl,p5⟩
 have p05:=((p1.trans p2).trans p24).trans p5
 refine⟨⟨none,0,0⟩,⟨none,0,0⟩,_,rfl,Br.of (λc=>by cases c) λ_=>Br.of (λc=>by cases c) λ_=>⟨⟨none,0,0⟩,cl (p5.blk cc) 1,Br.of (λc=>by cases c) λ_=>Br.of (λc=>by cases c) λ_=>Br.of (λc=>by cases c) λ_=>Br.of (λc=>by cases c) λ_=>?_⟩⟩
 refine(n35 w5).mono ?_
 rintro e w6 ⟨rfl,p6⟩
 refine⟨_,rfl,Br.of (λc=>by cases c) λ_=>(n36 w6).mono ?_⟩
 rintro e w7 ⟨rfl,p7⟩
 refine⟨_,rfl,Br.of (λc=>by cases c) λ_=>(n37 w7).mono ?_⟩
 rintro e w8 ⟨rfl,p8⟩
 refine⟨_,rfl,Br.of (λc=>by cases c) λ_=>(n38 w8 n).mono ?_⟩
 rintro e w9 ⟨rfl,p9⟩
 refine⟨_,rfl,Br.of (λc=>by cases c) λ_=>(n39 w9 n true).mono ?_⟩
 rintro e aM ⟨rfl,p10⟩
 refine⟨_,rfl,Br.of (λc=>by cases c) λ_=>(n40 aM n).mono ?_⟩
 rintro e aQ ⟨rfl,p11⟩
 refine⟨_,rfl,Br.of (λc=>by cases c) λ_=>(n41 aQ).mono ?_⟩
 rintro e aR ⟨rfl,p12⟩
 refine⟨_,rfl,Br.of (λc=>by cases c) λ_=>(n20 aR).mono ?_⟩
 rintro e aZ ⟨rfl,p13⟩
 refine⟨_,rfl,Br.of (λ_=>(n22 aZ).mono ?_) λc=>by cases c⟩
 rintro e bI ⟨rfl,p14⟩
 refine⟨_,rfl,Br.of (λ_=>(n30 bI).mono ?_) λc=>by cases c⟩
 rintro e bv ⟨rfl,p15⟩
 refine⟨_,rfl,Br.of (λ_=>(n29 bv).mono ?_) λc=>by cases c⟩
 rintro e bK ⟨rfl,p16⟩
 refine⟨⟨none,0,0⟩,rfl,Br.of (λ_=>(n25 bK).mono ?_) λc=>by cases c⟩
 rintro e bA ⟨rfl,tL⟩
 refine⟨⟨none,0,0⟩,rfl,Br.of (λ_=>(n14 bA).mono ?_) λc=>by cases c⟩
 rintro e bY ⟨rfl,p18⟩
 refine⟨_,⟨none,0,0⟩,⟨none,0,0⟩,rfl,Br.of (λ_=>(xJd bY).mono ?_) λc=>by cases c⟩
 rintro e ce ⟨rfl,p19⟩
 exact⟨_,rfl,rfl,(((((((((((((p05.trans p6).trans p7).trans p8).trans p9).trans p10).trans p11).trans p12).trans p13).trans p14).trans p15).trans p16).trans tL).trans p18).trans p19⟩
end Go.Proofs.YtaeecpjhfmcliaaGreatDoor
