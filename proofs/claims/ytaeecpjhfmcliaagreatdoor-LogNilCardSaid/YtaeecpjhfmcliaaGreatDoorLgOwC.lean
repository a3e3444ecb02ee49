import Derived.Test.YtaeecpjhfmcliaaGreatDoorLgOwB
import Derived.Test.YtaeecpjhfmcliaaGreatDoorLgPrA
import Derived.Test.YtaeecpjhfmcliaaGreatDoorShTwentyThree
import Derived.Test.YtaeecpjhfmcliaaGreatDoorLgOwA
/- Table: in which records two tables differ; the law on it. No condition. -/
set_option maxRecDepth 100000
set_option linter.unusedVariables false
set_option linter.unusedSimpArgs false
noncomputable section
namespace Go.Proofs.YtaeecpjhfmcliaaGreatDoor
open Go.Sh Go.RowKit Tryz
theorem yVV:zWZ prog 129 [.str,.int .i64,.int .i64,.bool]=true:=by kernel_rfl
theorem xJo:prog.eqGuardType prog.depth 129=false:=by kernel_rfl
theorem yWu:zWZ prog 73 [.int .i64,.int .i64,.str]=true:=by kernel_rfl
theorem under4:prog.underlying 4=some .bool:=by kernel_rfl
theorem yVQ{a b:Fld}(h:zVr a=zVr b):a=b:=by
 obtain⟨a1,a2,a3,a4⟩:=a;obtain⟨b1,b2,b3,b4⟩:=b
 simp[zVr]at h;simp[h]
theorem neFld(x y:Operand)(a b:Fld)(w:World):(eqS .neq 129 x y (yQA a) (yQA b)).run prog w=.ok (.bool (!decide (a=b))) w:=by
 refine yXU (ks:=[.str,.int .i64,.int .i64,.bool]) (xs:=zVr a) (ys:=zVr b) yVV xJo rfl rfl ?_ w
 rw[decide_eq_true_iff]
 exact⟨λh=>by rw[h],yVQ⟩
theorem neVal(x y:Operand)(a b:Val)(w:World):(eqS .neq 73 x y (zKL a) (zKL b)).run prog w=.ok (.bool (!decide (a=b))) w:=by
 refine yXU (ks:=[.int .i64,.int .i64,.str]) (xs:=zWQ a) (ys:=zWQ b) yWu yV7 rfl rfl ?_ w
 rw[decide_eq_true_iff]
 exact⟨λh=>by rw[h],yZ6⟩
structure RdF(w:World)(s:SV)(l:List Fld):Prop where
 len:s.len=l.length
 lim:l.length<=140737488355328
 get:∀i f,l[i]?=some f->∃a,s.a=some a/\w.cell? ((a.add (i * 4)).add 0)=some (.string f.name)/\w.cell? ((a.add (i * 4)).add 1)=some (.int .i64 f.kind)/\w.cell? ((a.add (i * 4)).add 2)=some (.int .i64 f.width)/\w.cell? ((a.add (i * 4)).add 3)=some (.bool f.null)
theorem RdF.pu{w w':World}{s:SV}{l:List Fld}(h:RdF w s l)(hp:Pu w w'):RdF w' s l:=⟨h.len,h.lim,λi v hv=>by
 obtain⟨a,h1,h2,h3,h4,h5⟩:=h.get i v hv
 exact⟨a,h1,hp.cell h2,hp.cell h3,hp.cell h4,hp.cell h5⟩⟩
theorem RdF.of{w:World}{s:SV}{l:List Fld}(h:zXV w s l):RdF w s l:=⟨h.len,by have:=h.lim;have:=h.len;omega,λi v hv=>by
 obtain⟨a,h1,_,_,_,_,h2,h3,h4,h5⟩:=zVj h hv
 exact⟨a,h1,h2,h3,h4,h5⟩⟩
theorem zYk {α:Type} {a b:List α} {k:Nat} {x y:α} (hx:a[k]?=some x) (hy:b[k]?=some y) (h:x ≠ y):a ≠ b:=λe=>by
 subst e;rw[hx]at hy;cases hy;exact h rfl
theorem yYl{w:World}{s t:SV}{a b:List Fld}(ha:RdF w s a)(hb:RdF w t b):Calls prog 107 #[.slice s.a s.len s.cap,.slice t.a t.len t.cap] w λe w'=>e=.returned (.bool (decide (a=b)))/\Pu w w':=by
 refine yJJ _ _ w _ ?_
 have hla:=ha.len
 have hlb:=hb.len
 have hlim:=ha.lim
 refine Br.of (λd=>⟨by rw[decide_eq_false (λe=>zQG d (by rw[hla,hlb,e]))],Pu.refl _⟩) (λd=>?_)
 have hab:a.length=b.length:=by have:=zQ4 d;omega
 refine zQD a.length (λk t w'=>t=(k:Int)/\a.take k=b.take k/\Pu w w') ⟨rfl,by simp,Pu.refl _⟩ ?_
 rintro k J t w2 hk ⟨ht,he,hp⟩ hJ
 obtain rfl:t=(k:Int):=ht
 refine Br.of (λd1=>zQe λw3 aC _=>?_) (λd1=>?_)
 ·have aI:k<a.length:=by have:=zQs d1;omega
  obtain⟨x,hx⟩:=zXf aI
  obtain⟨y,hy⟩:=zXf (show k<b.length by omega)
  obtain⟨p,hpa,c0,c1,c2,c3⟩:=((ha.pu hp).pu aC).get k x hx
  obtain⟨q,hqa,e0,e1,e2,e3⟩:=((hb.pu hp).pu aC).get k y hy
  refine⟨p,hpa,by omega,by omega,_,c0,_,c1,_,c2,_,c3,q,hqa,by omega,by omega,_,e0,_,e1,_,e2,_,e3,_,λw=>neFld _ _ x y w,Br.of (λd2=>⟨?_,hp.trans aC⟩) (λd2=>?_)⟩
  ·rw[decide_eq_false (zYk hx hy (by simpa using d2))]
  ·rw[zQa (by omega) (by omega)]
   exact hJ _ _ aI ⟨by omega,zZ5 he hx hy (by simpa using d2),hp.trans aC⟩
 ·have aI:k=a.length:=by have:=zQj d1;omega
  subst aI
  rw[List.take_length,hab,List.take_length]at he
  exact⟨by rw[decide_eq_true he],hp⟩
theorem yQp{w:World}{s t:SV}{a b:List Fld}(ha:RdF w s a)(hb:RdF w t b):Calls prog 69 #[.slice s.a s.len s.cap,.slice t.a t.len t.cap] w λe w'=>e=.returned (.bool (decide (a=b)))/\Pu w w':=by
 refine yKN _ _ w _ ?_
 have hla:=ha.len
 have hlb:=hb.len
 have hlim:=ha.lim
 refine Br.of (λd=>⟨by rw[decide_eq_false (λe=>zQG d (by rw[hla,hlb,e]))],Pu.refl _⟩) (λd=>?_)
 have hab:a.length=b.length:=by have:=zQ4 d;omega
 refine zQD a.length (λk t w'=>t=(k:Int)/\a.take k=b.take k/\Pu w w') ⟨rfl,by simp,Pu.refl _⟩ ?_
 rintro k J t w2 hk ⟨ht,he,hp⟩ hJ
 obtain rfl:t=(k:Int):=ht
 refine Br.of (λd1=>zQe λw3 aC _=>?_) (λd1=>?_)
 ·have aI:k<a.length:=by have:=zQs d1;omega
  obtain⟨x,hx⟩:=zXf aI
  obtain⟨y,hy⟩:=zXf (show k<b.length by omega)
  obtain⟨p,hpa,c0,c1,c2,c3⟩:=((ha.pu hp).pu aC).get k x hx
  obtain⟨q,hqa,e0,e1,e2,e3⟩:=((hb.pu hp).pu aC).get k y hy
  refine⟨p,hpa,by omega,by omega,_,c0,_,c1,_,c2,_,c3,q,hqa,by omega,by omega,_,e0,_,e1,_,e2,_,e3,_,λw=>neFld _ _ x y w,Br.of (λd2=>⟨?_,hp.trans aC⟩) (λd2=>?_)⟩
  ·rw[decide_eq_false (zYk hx hy (by simpa using d2))]
  ·rw[zQa (by omega) (by omega)]
   exact hJ _ _ aI ⟨by omega,zZ5 he hx hy (by simpa using d2),hp.trans aC⟩
 ·have aI:k=a.length:=by have:=zQj d1;omega
  subst aI
  rw[List.take_length,hab,List.take_length]at he
  exact⟨by rw[decide_eq_true he],hp⟩
theorem yYL{w:World}{s t:SV}{a b:List Val}(ha:RdV w s a)(hb:RdV w t b):Calls prog 108 #[.slice s.a s.len s.cap,.slice t.a t.len t.cap] w λe w'=>e=.returned (.bool (decide (a=b)))/\Pu w w':=by
 refine yJ9 _ _ w _ ?_
 have hla:=ha.len
 have hlb:=hb.len
 have hlim:=ha.lim
 refine Br.of (λd=>⟨by rw[decide_eq_false (λe=>zQG d (by rw[hla,hlb,e]))],Pu.refl _⟩) (λd=>?_)
 have hab:a.length=b.length:=by have:=zQ4 d;omega
 refine zQD a.length (λk t w'=>t=(k:Int)/\a.take k=b.take k/\Pu w w') ⟨rfl,by simp,Pu.refl _⟩ ?_
 rintro k J t w2 hk ⟨ht,he,hp⟩ hJ
 obtain rfl:t=(k:Int):=ht
 refine Br.of (λd1=>zQe λw3 aC _=>?_) (λd1=>?_)
 ·have aI:k<a.length:=by have:=zQs d1;omega
  obtain⟨x,hx⟩:=zXf aI
  obtain⟨y,hy⟩:=zXf (show k<b.length by omega)
  obtain⟨p,hpa,c0,c1,c2⟩:=((ha.pu hp).pu aC).get k x hx
  obtain⟨q,hqa,e0,e1,e2⟩:=((hb.pu hp).pu aC).get k y hy
  refine⟨p,hpa,by omega,by omega,_,c0,_,c1,_,c2,q,hqa,by omega,by omega,_,e0,_,e1,_,e2,_,λw=>neVal _ _ x y w,Br.of (λd2=>⟨?_,hp.trans aC⟩) (λd2=>?_)⟩
  ·rw[decide_eq_false (zYk hx hy (by simpa using d2))]
  ·rw[zQa (by omega) (by omega)]
   exact hJ _ _ aI ⟨by omega,zZ5 he hx hy (by simpa using d2),hp.trans aC⟩
 ·have aI:k=a.length:=by have:=zQj d1;omega
  subst aI
  rw[List.take_length,hab,List.take_length]at he
  exact⟨by rw[decide_eq_true he],hp⟩
def zW9(a b:List Rec)(i:Nat):Bool:=!decide (a[i]?=b[i]?)
def zWc(a b:List Rec)(n:Nat):List Int:=((List.range n).filter (zW9 a b)).map λ(i:Nat)=>(i:Int)+1
theorem yYM{a b:List Rec}{n:Nat}(h:zW9 a b n=true):zWc a b (n+1)=zWc a b n ++ [(n:Int)+1]:=by
 simp[zWc,List.range_succ,List.filter_append,h]
theorem xJ3{a b:List Rec}{n:Nat}(h:zW9 a b n=false):zWc a b (n+1)=zWc a b n:=by
 simp[zWc,List.range_succ,List.filter_append,h]
theorem yYj(a b:List Rec)(n:Nat):(zWc a b n).length<=n:=by
 unfold zWc;rw[List.length_map]
 have:=List.length_filter_le (zW9 a b) (List.range n)
 simpa using this
def xZp(a b:Tbl):List Int × Int:=if zQh a ≠ 0 then([],zQh a)else if zQh b ≠ 0 then([],zQh b)else if a.page ≠ b.page∨a.fields ≠ b.fields then([],10)else(zWc a.recs b.recs (max a.recs.length b.recs.length),0)
theorem zKf{t:Tbl}(h:zQh t=0):zQY t.page=true/\zQZ t.fields=0/\t.recs.length<=300/\zXg t.fields t.page t.recs=0:=by
 unfold zQh at h
 split at h
 ·rename_i h1
  split at h
  ·rename_i h2;exact absurd h h2
  ·rename_i h2
   split at h
   ·cases h
   ·rename_i h3;exact⟨h1,by omega,by omega,h⟩
 ·cases h
theorem xQK{x y:Rec}:(x=y) ↔ (x.gone=y.gone/\x.v=y.v):=by
 obtain⟨a,b⟩:=x;obtain⟨c,d⟩:=y;simp
theorem yZz{a b:List Rec}{i:Nat}(hm:i<max a.length b.length)(h:a.length<=i∨b.length<=i):zW9 a b i=true:=by
 unfold zW9
 rw[Bool.not_eq_true',decide_eq_false_iff_not]
 intro e
 rcases h with h|h
 ·rw[List.getElem?_eq_none h,List.getElem?_eq_getElem (by omega)]at e;cases e
 ·rw[List.getElem?_eq_none (l:=b) h,List.getElem?_eq_getElem (by omega)]at e;cases e
theorem xJu {a b:List Rec} {i:Nat} {x y:Rec} (hx:a[i]?=some x) (hy:b[i]?=some y):zW9 a b i=!(decide (x.gone=y.gone) && decide (x.v=y.v)):=by
 unfold zW9
 rw[hx,hy]
 congr 1
 rw[←Bool.decide_and]
 refine zZj ?_
 rw[Option.some_inj,xQK]
theorem zWv {w0 w:World} {s:SV} {a b:List Rec} {k:Nat} (h:zWm w0 w s (zWc a b k)) (hp:Pu w0 w) (hk:k<1000) {J:SV × Int->World->Prop}
  (hJ:∀(s':SV) w',zWm w0 w' s' (zWc a b (k+1))->Pu w0 w'->J (s',(k:Int)+1) w') (hd:zW9 a b k=true) :
  alE (.cells #[.int .i64 (IntKind.i64.wrap ((k:Int)+1))] 3) w λr w4=>∃fu:SV,∃w5:World,(Builtin.append_ #[52,52] 52 #[.slice s.a s.len s.cap,.slice (some ⟨r,0,none⟩) 1 1]).run prog w4=.ok (.slice fu.a fu.len fu.cap) w5/\J (fu,IntKind.i64.wrap ((k:Int)+1)) w5:=by
 rw[zQa (by omega) (by omega)]
 refine alB λw4 aK cc=>?_
 have hl:=yYj a b k
 obtain⟨s',w5,e5,r5,f5⟩:=(h.pu aK).push (hp.trans aK).size cc (by omega)
 refine⟨s',w5,e5,hJ s' w5 (by rw[yYM hd];exact r5) ?_⟩
 exact(hp.trans aK).andNew f5 λi hi=>h.2 i hi
theorem zYG {w:World} {r:Nat} {t:Tbl} {f q:SV} (h:w.heap[r]?=some (.cells #[.int .i64 t.page,.slice f.a f.len f.cap,.slice q.a q.len q.cap] 35)):w.cell? ((⟨r,0,none⟩:Addr).add 0)=some (.int .i64 t.page)/\w.cell? ((⟨r,0,none⟩:Addr).add 1)=some (.slice f.a f.len f.cap)/\w.cell? ((⟨r,0,none⟩:Addr).add 2)=some (.slice q.a q.len q.cap):=⟨cl h 0,cl h 1,cl h 2⟩
theorem yYy{w:World}{a b:Tbl}{fa ra fb rb:SV}(ha:zXB w a fa ra)(hb:zXB w b fb rb)(la:Lim.ok a.fields)(lb:Lim.ok b.fields):Calls prog 72 #[zYq a fa ra,zYq b fb rb] w
  λe w'=>∃q:SV,e=.returned (.tuple #[.slice q.a q.len q.cap,.int .i64 (xZp a b).2])/\zWm w w' q (xZp a b).1/\Pu w w':=by
 refine yWJ _ _ _ _ _ _ w _ (alB λw1 aA aD=>alB λw2 ay aL=>?_)
 have aJ:=aA.trans ay
 have b1:∀{wz},Pu w2 wz->_:=λ{wz} (h:Pu w2 wz)=>zYG (t:=a) (f:=fa) (q:=ra) (h.blk (ay.blk aD))
 have b2:∀{wz},Pu w2 wz->_:=λ{wz} (h:Pu w2 wz)=>zYG (t:=b) (f:=fb) (q:=rb) (h.blk aL)
 refine⟨_,(b1 (Pu.refl _)).1,_,(b1 (Pu.refl _)).2.1,_,(b1 (Pu.refl _)).2.2,(zZ9 (ha.pu aJ) la).mono ?_⟩
 rintro e w3 ⟨rfl,aC⟩
 refine⟨_,rfl,Br.of (λd=>⟨⟨none,0,0⟩,by unfold xZp;rw[if_pos (zQG d)],by unfold xZp;rw[if_pos (zQG d)];exact zWm.nil w w3,aJ.trans aC⟩) (λd=>?_)⟩
 have va:=zQ4 d
 refine⟨_,(b2 aC).1,_,(b2 aC).2.1,_,(b2 aC).2.2,(zZ9 (hb.pu (aJ.trans aC)) lb).mono ?_⟩
 rintro e w4 ⟨rfl,aK⟩
 have p4:=aC.trans aK
 have eA:xZp a b=if zQh b ≠ 0 then([],zQh b)else if a.page ≠ b.page∨a.fields ≠ b.fields then([],10)else(zWc a.recs b.recs (max a.recs.length b.recs.length),0):=by unfold xZp;rw[if_neg (by omega)]
 refine⟨_,rfl,Br.of (λd=>⟨⟨none,0,0⟩,by rw[eA,if_pos (zQG d)],by rw[eA,if_pos (zQG d)];exact zWm.nil w w4,aJ.trans p4⟩) (λd=>?_)⟩
 have vb:=zQ4 d
 rw[if_neg (by omega)]at eA
 have c1:=(b1 p4).1
 have c2:=(b2 p4).1
 rw[xX5]at c1 c2
 refine⟨_,c1,_,c2,Br.of (λd=>⟨⟨none,0,0⟩,by rw[eA,if_pos (.inl (zQG d))],by rw[eA,if_pos (.inl (zQG d))];exact zWm.nil w w4,aJ.trans p4⟩) (λd=>⟨_,(b1 p4).2.1,_,(b2 p4).2.1,?_⟩)⟩
 have hpg:=zQ4 d
 refine(yYl (RdF.of (ha.fields.pu (aJ.trans p4))) (RdF.of (hb.fields.pu (aJ.trans p4)))).mono ?_
 rintro e w5 ⟨rfl,ba⟩
 have p5:=p4.trans ba
 refine⟨_,rfl,Br.of (λd=>⟨⟨none,0,0⟩,by rw[eA,if_pos (.inr (by simpa using d))],by rw[eA,if_pos (.inr (by simpa using d))];exact zWm.nil w w5,aJ.trans p5⟩) (λd=>⟨_,(b1 p5).2.2,_,(b2 p5).2.2,_,w5,yKL _ _ _ _ _ _,?_⟩)⟩
 rw[if_neg (by rintro(h|h);exact h hpg;exact h (by simpa using d))]at eA
 have hla:=ha.recs.len
 have hlb:=hb.recs.len
 have ma:=(zKf va).2.2.1
 have mb:=(zKf vb).2.2.1
 refine zQD (max a.recs.length b.recs.length) (λk t w'=>t.2=(k:Int)/\zWm w2 w' t.1 (zWc a.recs b.recs k)/\Pu w2 w') ⟨rfl,zWm.nil w2 w5,p5⟩ ?_
 rintro k J ⟨t1,t2⟩ w6 hk ⟨ht,hr,hp⟩ hJ
 obtain rfl:t2=(k:Int):=ht
 have hr:zWm w2 w6 t1 (zWc a.recs b.recs k):=hr
 dsimp only
 refine Br.of (λd1=>zQe λw7 dK _=>?_) (λd1=>?_)
 ·have aI:k<max a.recs.length b.recs.length:=by have:=zQs d1;omega
  have p7:=hp.trans dK
  have kM:=hr.pu dK
  refine⟨_,(b1 p7).2.2,Br.of (λd2=>?_) (λd2=>⟨_,(b2 p7).2.2,Br.of (λd3=>?_) (λd3=>⟨_,(b1 p7).2.2,?_⟩)⟩)⟩
  ·exact zWv kM p7 (by omega) (λs' w' h1 h2=>hJ _ _ aI ⟨by dsimp only;omega,h1,h2⟩) (yZz aI (.inl (by have:=zQs d2;omega)))
  ·exact zWv kM p7 (by omega) (λs' w' h1 h2=>hJ _ _ aI ⟨by dsimp only;omega,h1,h2⟩) (yZz aI (.inr (by have:=zQs d3;omega)))
  have d2:=zQj d2
  have d3:=zQj d3
  obtain⟨x,hx⟩:=zXf (show k<a.recs.length by omega)
  obtain⟨y,hy⟩:=zXf (show k<b.recs.length by omega)
  obtain⟨p,sx,hpa,_,vx,x0,x1⟩:=yQB (ha.recs.pu (aJ.trans p7)) hx
  obtain⟨q,sy,hqa,_,vy,y0,y1⟩:=yQB (hb.recs.pu (aJ.trans p7)) hy
  have yo:=x0
  have yp:=y0
  rw[xX5]at yo yp
  have hd:=xJu hx hy
  refine⟨p,hpa,by omega,by omega,_,yo,_,(b2 p7).2.2,q,hqa,by omega,by omega,_,yp,_,λw=>yYA under4 _ _ _ _ w,Br.of (λd4=>?_) (λd4=>?_)⟩
  ·exact zWv kM p7 (by omega) (λs' w' h1 h2=>hJ _ _ aI ⟨by dsimp only;omega,h1,h2⟩) (by rw[hd,decide_eq_false (by simpa using d4)];rfl)
  have d4:x.gone=y.gone:=by simpa using d4
  refine⟨_,(b1 p7).2.2,p,hpa,by omega,by omega,_,x1,_,(b2 p7).2.2,q,hqa,by omega,by omega,_,y1,(yYL (RdV.of vx) (RdV.of vy)).mono ?_⟩
  rintro e w8 ⟨rfl,bM⟩
  refine⟨_,rfl,Br.of (λd5=>?_) (λd5=>?_)⟩
  ·exact zWv (kM.pu bM) (p7.trans bM) (by omega) (λs' w' h1 h2=>hJ _ _ aI ⟨by dsimp only;omega,h1,h2⟩) (by rw[hd,decide_eq_true d4];simpa using d5)
  ·show J (t1,IntKind.i64.wrap ((k:Int)+1)) w8
   rw[zQa (by omega) (by omega)]
   refine hJ _ _ aI ⟨by dsimp only;omega,?_,p7.trans bM⟩
   dsimp only
   rw[xJ3 (by rw[hd,decide_eq_true d4];simpa using d5)]
   exact kM.pu bM
 ·have aI:k=max a.recs.length b.recs.length:=by have:=zQj d1;omega
  subst aI
  exact⟨t1,by rw[eA],by rw[eA];exact hr.low aJ.size,aJ.trans hp⟩
end Go.Proofs.YtaeecpjhfmcliaaGreatDoor
/- The log: a store in plain words: what each call tells, and what it leaves. No program in sight. No condition. -/
namespace Go.Proofs.YtaeecpjhfmcliaaGreatDoor
open Go.Sh Go.RowKit Tryz
structure Sto where
 t:Tbl
 lev:List Tbl
 done:List Tbl
def Sto.new(t:Tbl):Sto:=⟨t,[],[t]⟩
def Sto.last(σ:Sto):Tbl:=σ.done.getLast?.getD σ.t
def zYw(σ:Sto):Sto:=if σ.lev=[]/\σ.t ≠ σ.last then { σ with done:=σ.done ++ [σ.t] }else σ
def zWC(σ:Sto):Int:=if 8<=σ.lev.length then 3 else 0
def zJI(σ:Sto):Sto:=if 8<=σ.lev.length then σ else { σ with lev:=σ.lev ++ [σ.t] }
def zWi(σ:Sto):Int:=if σ.lev=[]then 9 else 0
def endS(σ:Sto):Sto:=if σ.lev=[]then σ else zYw { σ with lev:=σ.lev.dropLast }
def yQO(σ:Sto):Sto:=if σ.lev=[]then σ else { σ with t:=σ.lev.getLast?.getD σ.t,lev:=σ.lev.dropLast }
def zZA(σ:Sto)(k:Int):Bool:=decide (1<=k) && decide (k<=σ.t.recs.length)
def yZ7(σ:Sto)(l:List Rec):Sto:=zYw { σ with t:={ σ.t with recs:=l } }
def appC(σ:Sto)(r:Rec):Int:=if 300<=σ.t.recs.length then 3 else zQA σ.t.fields σ.t.page r
def putC(σ:Sto)(k:Int)(r:Rec):Int:=if zZA σ k then zQA σ.t.fields σ.t.page r else 4
def yVJ(σ:Sto)(k:Int)(nm:ByteArray)(v:Val):Int:=match yK7 σ.t.fields nm with
 | none=>4
 | some i=>if zZA σ k then(zJC (σ.t.fields.getD i default) σ.t.page v).2 else 4
def setS(σ:Sto)(k:Int)(nm:ByteArray)(v:Val):Sto:=match yK7 σ.t.fields nm with
 | none=>σ
 | some i=>if zZA σ k/\(zJC (σ.t.fields.getD i default) σ.t.page v).2=0 then yZ7 σ (σ.t.recs.modify (k - 1).toNat λr=>{ r with v:=r.v.set i (zJC (σ.t.fields.getD i default) σ.t.page v).1 })else σ
def xZU:Tbl:=⟨0,[],[]⟩
def yX4(σ:Sto)(n:Int):Int:=if 0<=n/\n<σ.done.length then 0 else 1
def yQb(σ:Sto)(n:Int):Tbl:=if 0<=n/\n<σ.done.length then σ.done.getD n.toNat xZU else xZU
def zZ1(σ:Sto):List Int:=zWc σ.last.recs σ.t.recs (max σ.last.recs.length σ.t.recs.length)
end Go.Proofs.YtaeecpjhfmcliaaGreatDoor
/- The log: numbers, sums and records as bytes; the first record of bytes. In plain words. No condition but those stated. -/
namespace Go.Proofs.YtaeecpjhfmcliaaGreatDoor
open Go.Sh Go.RowKit Tryz
def zZp(n:Nat):Nat->List UInt8
 | 0=>[]
 | k+1=>UInt8.ofNat (n % 256) :: zZp (n / 256) k
def zXQ:List UInt8->Nat
 | []=>0
 | c :: l=>c.toNat+256 * zXQ l
theorem zQu:∀(n k:Nat),(zZp n k).length=k
 | _,0=>rfl
 | n,k+1=>by simp[zZp,zQu (n / 256) k]
theorem zK1:∀(n k:Nat),zXQ (zZp n k)=n % 256 ^ k
 | n,0=>by simp[zZp,zXQ,Nat.mod_one]
 | n,k+1=>by
  have h1:(UInt8.ofNat (n % 256)).toNat=n % 256:=by rw[UInt8.toNat_ofNat'];exact Nat.mod_eq_of_lt (Nat.lt_of_lt_of_le (Nat.mod_lt _ (by decide)) (by decide))
  rw[zZp,zXQ,zK1,h1,Nat.pow_succ,Nat.mul_comm (256 ^ k) 256,Nat.mod_mul]
def yZU(n:Nat)(c:UInt8):Nat:=(n * 16777619 % 4294967296) ^^^ c.toNat
theorem yVP(n:Nat)(c:UInt8):yZU n c<4294967296:=by
 have h1:n * 16777619 % 4294967296<2 ^ 32:=Nat.mod_lt _ (by decide)
 have h2:c.toNat<2 ^ 32:=Nat.lt_of_lt_of_le c.toNat_lt (by decide)
 exact Nat.xor_lt_two_pow h1 h2
def zYT(l:List UInt8):Nat:=l.foldl yZU 7
theorem yX6(l:List UInt8):zYT l<4294967296:=by
 have key:∀(l:List UInt8) (n:Nat),n<4294967296->l.foldl yZU n<4294967296:=λl=>by
  induction l with
  | nil=>exact λn h=>h
  | cons c l ih=>exact λn h=>ih _ (yVP n c)
 exact key l 7 (by decide)
def zJb(kind:UInt8)(body:List UInt8):List UInt8:=kind :: (zZp body.length 4 ++ body)
def zJa(kind:UInt8)(body:List UInt8):List UInt8:=zJb kind body ++ zZp (zYT (zJb kind body)) 4
theorem zKz(k:UInt8)(b:List UInt8):(zJb k b).length=5+b.length:=by simp[zJb,zQu];omega
theorem zJ4(k:UInt8)(b:List UInt8):(zJa k b).length=9+b.length:=by simp[zJa,zKz,zQu];omega
def zZL(b:List UInt8):Option (UInt8 × List UInt8 × List UInt8):=
 if b.length<9 then none
 else if b.length<zXQ ((b.drop 1).take 4)+9 then none
 else if zXQ ((b.drop (5+zXQ ((b.drop 1).take 4))).take 4) ≠ zYT (b.take (5+zXQ ((b.drop 1).take 4)))then none
 else some (b.headD 0,(b.drop 5).take (zXQ ((b.drop 1).take 4)),b.drop (9+zXQ ((b.drop 1).take 4)))
theorem yZ9 {b more body:List UInt8} {k:UInt8} (h:zZL b=some (k,body,more)):more.length<b.length:=by
 unfold zZL at h
 split at h
 ·cases h
 split at h
 ·cases h
 split at h
 ·cases h
 simp only[Option.some.injEq,Prod.mk.injEq]at h
 rw[←h.2.2,List.length_drop]
 omega
theorem zYN(k:UInt8)(body rest:List UInt8):zJa k body ++ rest=k :: (zZp body.length 4 ++ (body ++ (zZp (zYT (zJb k body)) 4 ++ rest))):=by simp[zJa,zJb]
theorem yZ2{k:UInt8}{body rest:List UInt8}(hb:body.length<4294967296):zXQ (((zJa k body ++ rest).drop 1).take 4)=body.length:=by
 rw[zYN,List.drop_succ_cons,List.drop_zero,List.take_append_of_le_length (by rw[zQu];omega),List.take_of_length_le (by rw[zQu];omega),zK1]
 exact Nat.mod_eq_of_lt hb
theorem yVo{k:UInt8}{body rest:List UInt8}(hb:body.length<4294967296):zZL (zJa k body ++ rest)=some (k,body,rest):=by
 have hl:(zJa k body ++ rest).length=9+body.length+rest.length:=by rw[List.length_append,zJ4]
 have h5:(zJa k body ++ rest).drop (5+body.length)=zZp (zYT (zJb k body)) 4 ++ rest:=by
  rw[zJa,List.append_assoc,show 5+body.length=(zJb k body).length from(zKz _ _).symm,List.drop_left]
 have t5:(zJa k body ++ rest).take (5+body.length)=zJb k body:=by
  rw[zJa,List.append_assoc,show 5+body.length=(zJb k body).length from(zKz _ _).symm,List.take_left]
 have d9:(zJa k body ++ rest).drop (9+body.length)=rest:=by
  rw[show 9+body.length=(zJa k body).length from(zJ4 _ _).symm,List.drop_left]
 have b5:((zJa k body ++ rest).drop 5).take body.length=body:=by
  rw[zYN]
  have e:k :: (zZp body.length 4 ++ (body ++ (zZp (zYT (zJb k body)) 4 ++ rest)))=(k :: zZp body.length 4) ++ (body ++ (zZp (zYT (zJb k body)) 4 ++ rest)):=rfl
  rw[e,show 5=(k :: zZp body.length 4).length by simp[zQu],List.drop_left,List.take_left]
 unfold zZL
 rw[yZ2 hb,if_neg (by omega),if_neg (by omega),h5,t5,d9,b5,List.take_append_of_le_length (by rw[zQu];omega),List.take_of_length_le (by rw[zQu];omega),zK1,
  Nat.mod_eq_of_lt (show zYT (zJb k body)<256 ^ 4 from yX6 _),if_neg (by simp)]
 rfl
theorem yJr {k:UInt8} {body p:List UInt8} (hb:body.length<4294967296) (hp:p <+: zJa k body) (hl:p.length<(zJa k body).length):zZL p=none:=by
 unfold zZL
 by_cases h9:p.length<9
 ·rw[if_pos h9]
 ·have hr:zXQ ((p.drop 1).take 4)=body.length:=by
   obtain⟨q,hq⟩:=hp
   have h1:=yZ2 (k:=k) (rest:=[]) hb
   rw[List.append_nil,←hq,List.drop_append_of_le_length (by omega),List.take_append_of_le_length (by rw[List.length_drop];omega)]at h1
   exact h1
  rw[zJ4]at hl
  rw[if_neg h9,hr,if_pos (by omega)]
end Go.Proofs.YtaeecpjhfmcliaaGreatDoor
/- Table: days and dates, in plain words. No condition. -/
namespace Go.Proofs.YtaeecpjhfmcliaaGreatDoor
def zZZ(y:Nat):Bool:=(decide (y % 4=0) && decide (y % 100 ≠ 0)) || decide (y % 400=0)
def zZ8(y m:Nat):Nat:=if m=2 then(if zZZ y then 29 else 28)else if m=4∨m=6∨m=9∨m=11 then 30 else 31
def zQr(y:Nat):Nat->Nat
 | 0=>0
 | m+1=>zQr y m+zZ8 y (m+1)
def zQq(y:Nat):Nat:=365 * (y - 1)+(y - 1) / 4 - (y - 1) / 100+(y - 1) / 400
def zQB(y m d:Nat):Prop:=1<=y/\y<=9999/\1<=m/\m<=12/\1<=d/\d<=zZ8 y m
instance (y m d:Nat):Decidable (zQB y m d):=by unfold zQB;exact inferInstance
def zXP(y m d:Nat):Nat:=zQq y+zQr y (m - 1)+d
theorem zXw{y:Nat}(h:1<=y):zQq (y+1)=zQq y+(if zZZ y then 366 else 365):=by
 obtain⟨k,rfl⟩:∃k,y=k+1:=⟨y - 1,by omega⟩
 unfold zQq zZZ
 simp only[Nat.add_sub_cancel]
 by_cases h1:(k+1) % 4=0 <;> by_cases h2:(k+1) % 100=0 <;> by_cases h3:(k+1) % 400=0 <;> simp[h1,h2,h3] <;> omega
theorem zZm(y:Nat):zQr y 12=if zZZ y then 366 else 365:=by
 simp only[zQr,zZ8]
 cases zZZ y <;> rfl
theorem zXv(y:Nat):∀{a b:Nat},a<=b->zQr y a<=zQr y b:=by
 intro a b h
 induction h with
 | refl=>exact Nat.le_refl _
 | step _ ih=>exact Nat.le_trans ih (by simp[zQr])
theorem zXx{a b:Nat}(h0:1<=a)(h:a<=b):zQq a<=zQq b:=by
 induction h with
 | refl=>exact Nat.le_refl _
 | step h ih=>exact Nat.le_trans ih (by rw[zXw (Nat.le_trans h0 h)];omega)
theorem zQB.month{y m d:Nat}(h:zQB y m d):zQr y (m - 1)+d<=zQr y m:=by
 obtain⟨_,_,h3,_,_,h6⟩:=h
 obtain⟨k,rfl⟩:∃k,m=k+1:=⟨m - 1,by omega⟩
 simp only[zQr,Nat.add_sub_cancel]
 omega
theorem zQB.year{y m d:Nat}(h:zQB y m d):zQq y<zXP y m d/\zXP y m d<=zQq (y+1):=by
 have h1:=h.month
 have h2:=zXv y h.2.2.2.1
 rw[zZm,]at h2
 rw[zXw h.1]
 have:=h.2.2.2.2.1
 unfold zXP
 omega
theorem yZI{y m d y' m' d':Nat}(h:zQB y m d)(h':zQB y' m' d')(e:zXP y m d=zXP y' m' d'):y=y'/\m=m'/\d=d':=by
 have a:=h.year
 have a':=h'.year
 have ey:y=y':=by
  rcases Nat.lt_trichotomy y y' with hlt|rfl|hlt
  ·have:=zXx (a:=y+1) (by omega) (show y+1<=y' by omega);omega
  ·rfl
  ·have:=zXx (a:=y'+1) (by omega) (show y'+1<=y by omega);omega
 subst ey
 have b:=h.month
 have b':=h'.month
 unfold zXP at e
 have c:=h.2.2.2.2.1
 have c':=h'.2.2.2.2.1
 have c3:=h.2.2.1
 have yT:=h'.2.2.1
 have em:m=m':=by
  rcases Nat.lt_trichotomy m m' with hlt|rfl|hlt
  ·have:=zXv y (show m<=m' - 1 by omega);omega
  ·rfl
  ·have:=zXv y (show m'<=m - 1 by omega);omega
 subst em
 exact⟨rfl,rfl,by omega⟩
theorem zJA:zQq 10000=3652059:=by decide
theorem zVl{y:Nat}(h:1<=y):365 * (y - 1)<=zQq y/\zQq y<=366 * (y - 1):=by
 unfold zQq;omega
theorem zYZ(y m:Nat):zQr y m<=31 * m:=by
 induction m with
 | zero=>simp[zQr]
 | succ m ih=>simp only[zQr,zZ8];split <;> (try split) <;> omega
end Go.Proofs.YtaeecpjhfmcliaaGreatDoor
/- Table: days and dates, as both packages compute them. No condition. -/
namespace Go.Proofs.YtaeecpjhfmcliaaGreatDoor
open Go.Sh Go.RowKit Tryz
theorem yVs(a b:Int):(a == b)=decide (a=b):=by simp[BEq.beq]
theorem zKu(n k:Nat):((n:Int)).tmod (k:Int)=((n % k:Nat):Int):=by rw[Int.tmod_eq_emod_of_nonneg (by omega)];norm_cast
theorem zJ6(n k:Nat):((n:Int)).tdiv (k:Int)=((n / k:Nat):Int):=by rw[Int.tdiv_eq_ediv_of_nonneg (by omega)];norm_cast
theorem leap_c(n:Nat)(w:World):Calls prog 239 #[.int .i64 (n:Int)] w λe w'=>e=.returned (.bool (zZZ n))/\Pu w w':=by
 have e4:(n:Int).tmod 4=((n % 4:Nat):Int):=zKu n 4
 have mo:(n:Int).tmod 100=((n % 100:Nat):Int):=zKu n 100
 have mp:(n:Int).tmod 400=((n % 400:Nat):Int):=zKu n 400
 refine yJZ _ w _ ⟨rfl,by decide,Br.of (λd=>⟨rfl,by decide,Br.of (λd1=>⟨?_,Pu.refl w⟩) (λd1=>⟨rfl,by decide,?_,Pu.refl w⟩)⟩) (λd=>⟨?_,Pu.refl w⟩)⟩
 ·have d:=zXr d;have d1:=zQG d1
  rw[show zZZ n=true from by unfold zZZ;rw[decide_eq_true (show n % 4=0 by omega),decide_eq_true (show n % 100 ≠ 0 by omega)];rfl]
 ·have d:=zXr d;have d1:=zQ4 d1
  rw[yVs,show zZZ n=decide (n % 400=0)from by unfold zZZ;rw[decide_eq_false (show ¬n % 100 ≠ 0 by omega),Bool.and_false,Bool.false_or]]
  congr 2;simp only[decide_eq_decide];omega
 ·have d:=zQ9 d
  rw[show zZZ n=false from by unfold zZZ;rw[decide_eq_false (show ¬n % 4=0 by omega),decide_eq_false (show ¬n % 400=0 by omega)];rfl]
theorem s184:zXn prog 258=12:=by kernel_rfl
def md12:Array Value:=#[.int .i64 31,.int .i64 28,.int .i64 31,.int .i64 30,.int .i64 31,.int .i64 30,.int .i64 31,.int .i64 31,.int .i64 30,.int .i64 31,.int .i64 30,.int .i64 31]
theorem md_at{m:Nat}(h:1<=m/\m<=12):md12[m - 1]?=some (.int .i64 ((if m=2 then 28 else if m=4∨m=6∨m=9∨m=11 then 30 else 31:Nat):Int)):=by
 rcases(by omega:m=1∨m=2∨m=3∨m=4∨m=5∨m=6∨m=7∨m=8∨m=9∨m=10∨m=11∨m=12)with rfl|rfl|rfl|rfl|rfl|rfl|rfl|rfl|rfl|rfl|rfl|rfl <;> rfl
theorem zZF(y m:Nat)(h:1<=m/\m<=12)(w:World):Calls prog 236 #[.int .i64 (y:Int),.int .i64 (m:Int)] w λe w'=>e=.returned (.int .i64 (zZ8 y m:Nat))/\Pu w w':=by
 refine yZR _ _ w _ (zYj rfl s184.symm rfl λw1 aA _ aD=>?_)
 rw[zQa (n:=(m:Int) - 1) (by omega) (by omega)]
 have em:((m:Int) - 1).toNat * 1=m - 1:=by omega
 have hc:∀{wz:World},Pu w1 wz->wz.cell? ((⟨w.heap.size,0,none⟩:Addr).add (((m:Int) - 1).toNat * 1))=some (.int .i64 ((if m=2 then 28 else if m=4∨m=6∨m=9∨m=11 then 30 else 31:Nat):Int)):=λ{wz} hz=>by
  rw[em,cl (hz.blk aD)];exact md_at h
 refine Br.of (λd=>(leap_c y w1).mono ?_) (λd=>⟨by omega,by omega,_,hc (Pu.refl _),?_,aA⟩)
 ·have d:=zXr d
  have d:m=2:=by omega
  rintro e w2 ⟨rfl,ay⟩
  refine⟨_,rfl,Br.of (λd1=>⟨?_,aA.trans ay⟩) (λd1=>⟨by omega,by omega,_,hc ay,?_,aA.trans ay⟩)⟩
  ·unfold zZ8;rw[if_pos d,if_pos d1];rfl
  ·unfold zZ8;rw[if_pos d,if_pos d,if_neg (by rw[d1];simp)]
 ·have d:=zQ9 d
  have d:¬m=2:=by omega
  unfold zZ8;rw[if_neg d,if_neg d]
theorem zKa(y:Nat)(h:1<=y/\y<=10000)(w:World):Calls prog 237 #[.int .i64 (y:Int)] w λe w'=>e=.returned (.int .i64 (zQq y:Nat))/\Pu w w':=by
 obtain⟨p,rfl⟩:∃p,y=p+1:=⟨y - 1,by omega⟩
 have e0:(((p+1:Nat):Int) - 1)=(p:Int):=by omega
 have e4:=zJ6 p 4
 have mo:=zJ6 p 100
 have mp:=zJ6 p 400
 refine yJ1 _ w _ ⟨rfl,by decide,rfl,by decide,rfl,by decide,?_,Pu.refl w⟩
 have e4:(p:Int).tdiv 4=((p / 4:Nat):Int):=e4
 have mo:(p:Int).tdiv 100=((p / 100:Nat):Int):=mo
 have mp:(p:Int).tdiv 400=((p / 400:Nat):Int):=mp
 rw[e0,zQa (n:=(p:Int)) (by omega) (by omega),e4,mo,mp,zQa (n:=((p / 4:Nat):Int)) (by omega) (by omega),zQa (n:=((p / 100:Nat):Int)) (by omega) (by omega),zQa (n:=((p / 400:Nat):Int)) (by omega) (by omega),zQa (n:=365 * (p:Int)) (by omega) (by omega),zQa (n:=365 * (p:Int)+_) (by omega) (by omega),zQa (n:=365 * (p:Int)+_ - _) (by omega) (by omega),zQa (by omega) (by omega)]
 unfold zQq
 rw[Nat.add_sub_cancel]
 congr 2
 omega
def zYa(y m d:Nat):Ending:=.returned (.tuple #[.int .i64 ((if zQB y m d then zXP y m d else 0:Nat):Int),.int .i64 (if zQB y m d then 0 else 1)])
theorem zWp(y m:Nat):zZ8 y m<=31/\28<=zZ8 y m:=by unfold zZ8;split <;> (try split) <;> omega
theorem days_c(y m d:Nat)(w:World):Calls prog 226 #[.int .i64 (y:Int),.int .i64 (m:Int),.int .i64 (d:Int)] w λe w'=>e=zYa y m d/\Pu w w':=by
 have no:¬zQB y m d->∀{w'},Pu w w'->zKT (λe w'=>e=zYa y m d/\Pu w w') (y:Int) (m:Int) (d:Int) true [] w':=λh w' hp=>Br.t rfl ⟨by unfold zYa;rw[if_neg h,if_neg h];rfl,hp⟩
 refine yJQ _ _ _ w _ ?_
 refine Br.of (λd0=>no (λh=>by have:=h.1;have:=zQs d0;omega) (Pu.refl w)) (λd0=>Br.of (λd1=>no (λh=>by have:=h.2.1;have:=zQs d1;omega) (Pu.refl w)) (λd1=>Br.of (λd2=>no (λh=>by have:=h.2.2.1;have:=zQs d2;omega) (Pu.refl w)) (λd2=>Br.of (λd3=>no (λh=>by have:=h.2.2.2.1;have:=zQs d3;omega) (Pu.refl w)) (λd3=>Br.of (λd4=>no (λh=>by have:=h.2.2.2.2.1;have:=zQs d4;omega) (Pu.refl w)) (λd4=>?_)))))
 have d0:=zQj d0
 have d1:=zQj d1
 have d2:=zQj d2
 have d3:=zQj d3
 have d4:=zQj d4
 refine(zZF y m (by omega) w).mono ?_
 rintro e w1 ⟨rfl,aA⟩
 refine⟨_,rfl,?_⟩
 by_cases hd:d<=zZ8 y m
 ·have hD:zQB y m d:=⟨by omega,by omega,by omega,by omega,by omega,hd⟩
  have hml:=zWp y m
  rw[decide_eq_false (by omega)]
  refine Br.f rfl ((zKa y (by omega) w1).mono ?_)
  rintro e w2 ⟨rfl,ay⟩
  have hyl:=zVl (y:=y) (by omega)
  refine⟨_,rfl,?_⟩
  rw[zQa (n:=((zQq y:Nat):Int)+(d:Int)) (by omega) (by omega),zQa (n:=(m:Int) - 1) (by omega) (by omega)]
  refine zQD (m - 1) (λk t w'=>t.2=(k:Int)/\t.1=((zQq y+d+zQr y k:Nat):Int)/\Pu w w') ⟨rfl,by simp[zQr],aA.trans ay⟩ ?_
  rintro k J ⟨t1,t2⟩ w3 hk ⟨h2,h1,hp⟩ hJ
  obtain rfl:t2=(k:Int):=h2
  obtain rfl:t1=((zQq y+d+zQr y k:Nat):Int):=h1
  dsimp only
  refine Br.of (λd5=>?_) (λd5=>?_)
  ·have aI:k<m - 1:=by have:=zQs d5;omega
   rw[zQa (n:=(k:Int)+1) (by omega) (by omega)]
   refine(zZF y (k+1) (by omega) w3).mono ?_
   rintro e w4 ⟨rfl,aK⟩
   have hmf:=zYZ y k
   have hmd:=zWp y (k+1)
   refine⟨_,rfl,?_⟩
   rw[zQa (by omega) (by omega)]
   refine hJ _ _ aI ⟨by dsimp only;omega,?_,hp.trans aK⟩
   dsimp only[zQr];omega
  ·have aI:k=m - 1:=by have:=zQj d5;omega
   subst aI
   refine⟨?_,hp⟩
   unfold zYa zXP;rw[if_pos hD,if_pos hD,show zQq y+d+zQr y (m - 1)=zQq y+zQr y (m - 1)+d by omega]
 ·rw[decide_eq_true (by omega)]
  exact no (λh=>hd h.2.2.2.2.2) aA
theorem xZK(n:Nat)(h:1<=n/\n<=3652059)(w:World):Calls prog 234 #[.int .i64 (n:Int)] w λe w'=>∃y m d:Nat,zQB y m d/\zXP y m d=n/\e=.returned (.tuple #[.int .i64 (y:Int),.int .i64 (m:Int),.int .i64 (d:Int),.int .i64 0])/\Pu w w':=by
 refine yZY _ w _ ((yXo (n:Int) w).mono ?_)
 rintro e w1 ⟨rfl,aA⟩
 rw[decide_eq_true (show(0:Int)<=n by omega),decide_eq_true (show(n:Int)<=3652059 by omega)]
 refine⟨_,rfl,Br.f rfl (Br.of (λd=>absurd (zXr d) (by omega)) (λd=>⟨rfl,by decide,?_⟩))⟩
 rw[show((n:Int).tdiv 366)=((n / 366:Nat):Int)from zJ6 n 366,zQa (n:=((n / 366:Nat):Int)) (by omega) (by omega),zQa (by omega) (by omega)]
 have y0:zQq (n / 366+1)<n:=by unfold zQq;rw[Nat.add_sub_cancel];omega
 have hend:=zJA
 refine zQD 10000 (λk t w'=>t=((n / 366+1+k:Nat):Int)/\zQq (n / 366+1+k)<n/\Pu w w') ⟨by omega,y0,aA⟩ ?_
 rintro k J t w2 hk ⟨ht,hy,hp⟩ hJ
 have hy9:n / 366+1+k<=9999:=by
  rcases Nat.lt_or_ge (n / 366+1+k) 10000 with h1|h1
  ·omega
  ·have:=zXx (a:=10000) (by omega) h1;omega
 generalize hyy:n / 366+1+k=y at *
 obtain rfl:t=(y:Int):=ht
 refine(?_:yV2 _ J _ _ _ _)
 show Calls prog 237 #[.int .i64 (IntKind.i64.wrap ((y:Int)+1))] w2 _
 rw[zQa (n:=(y:Int)+1) (by omega) (by omega)]
 refine(zKa (y+1) (by omega) w2).mono ?_
 rintro e w3 ⟨rfl,aC⟩
 refine⟨_,rfl,Br.of (λd1=>?_) (λd1=>?_)⟩
 ·have hlt:zQq (y+1)<n:=by have:=zQs d1;omega
  refine hJ _ _ (by omega) ⟨by omega,by rw[show n / 366+1+(k+1)=y+1 by omega];exact hlt,hp.trans aC⟩
 have hge:n<=zQq (y+1):=by have:=zQj d1;omega
 have y1:1<=y:=by omega
 refine(zKa y (by omega) w3).mono ?_
 rintro e w4 ⟨rfl,aK⟩
 refine⟨_,rfl,?_⟩
 clear hJ J d1
 have hyl:=zVl y1
 rw[zQa (by omega) (by omega)]
 have hys:=zXw y1
 have pH:=zZm y
 refine zQD 11 (λk t w'=>t.2=((k+1:Nat):Int)/\t.1=((n - zQq y - zQr y k:Nat):Int)/\zQq y+zQr y k<n/\Pu w w') ⟨rfl,by simp[zQr];omega,by simp[zQr];omega,(hp.trans aC).trans aK⟩ ?_
 rintro k2 J ⟨t1,t2⟩ w5 aI ⟨h2,h1,hlt,ba⟩ hJ
 obtain rfl:t2=((k2+1:Nat):Int):=h2
 obtain rfl:t1=((n - zQq y - zQr y k2:Nat):Int):=h1
 dsimp only
 refine(zZF y (k2+1) (by omega) w5).mono ?_
 rintro e w6 ⟨rfl,cW⟩
 have hml:=zWp y (k2+1)
 have hmf:zQr y (k2+1)=zQr y k2+zZ8 y (k2+1):=rfl
 refine⟨_,rfl,Br.of (λd1=>(zZF y (k2+1) (by omega) w6).mono ?_) (λd1=>?_)⟩
 ·rintro e w7 ⟨rfl,dK⟩
  have hgt:=zQs d1
  have k10:k2<11:=by
   rcases Nat.lt_or_ge k2 11 with h|h
   ·exact h
   ·exfalso
    have:k2=11:=by omega
    subst this
    have:zQr y 12=zQr y 11+zZ8 y 12:=rfl
    split at pH <;> split at hys <;> simp_all <;> omega
  refine⟨_,rfl,?_⟩
  rw[zQa (by omega) (by omega),zQa (by omega) (by omega)]
  refine hJ _ _ k10 ⟨by dsimp only;omega,by dsimp only;omega,by omega,(ba.trans cW).trans dK⟩
 ·have hle:=zQj d1
  refine⟨y,k2+1,n - zQq y - zQr y k2,⟨y1,hy9,by omega,by omega,by omega,by omega⟩,?_,rfl,ba.trans cW⟩
  unfold zXP;rw[Nat.add_sub_cancel];omega
end Go.Proofs.YtaeecpjhfmcliaaGreatDoor
/- Table: dates written and read by the reference; texts of dates. No condition. -/
namespace Go.Proofs.YtaeecpjhfmcliaaGreatDoor
open Go.Sh Go.RowKit Tryz
theorem zZf:∀(k n:Nat),n<10 ^ (k+1)->(zZq n).length<=k+1
 | 0,n,h=>by rw[zZi (by omega)];simp
 | k+1,n,h=>by
  by_cases h1:n<10
  ·rw[zZi h1];simp
  ·rw[zZ3 h1,List.length_append]
   have:=zZf k (n / 10) (by rw[Nat.pow_succ]at h;omega)
   simp;omega
def zZV(k n:Nat):List UInt8:=List.replicate (k - (zZq n).length) 48 ++ zZq n
theorem zX9 {k n:Nat} (h:(zZq n).length<=k):(zZV k n).length=k:=by
 unfold zZV;rw[List.length_append,List.length_replicate];omega
theorem zYy (n k:Nat) (hn:n<=1000000) (hk:(zZq n).length<=k/\k<=1000) (w:World):Calls prog 235 #[.int .i64 (n:Int),.int .i64 (k:Int)] w λe w'=>e=.returned (.string (bs (zZV k n)))/\Pu w w':=by
 refine yK5 _ _ w _ ((dec_c (n:=(n:Int)) (by omega) (by omega) w).mono ?_)
 rintro e w1 ⟨rfl,aA⟩
 rw[zKx]
 refine⟨_,rfl,?_⟩
 rw[zQ2,zQa (by omega) (by omega),show(k:Int) - ((zZq n).length:Nat)=((k - (zZq n).length:Nat):Int)by omega]
 refine(zJ8 48 _ (by omega) w1).mono ?_
 rintro e w2 ⟨rfl,ay⟩
 refine⟨_,rfl,by rw[zQ2,List.length_replicate];omega,?_,aA.trans ay⟩
 rw[zZB,zQF,zQF];rfl
open Classical in
def zJu(n:Int):List UInt8:=if n=0 then List.replicate 8 32 else
 if h:∃p:Nat × Nat × Nat,zQB p.1 p.2.1 p.2.2/\(zXP p.1 p.2.1 p.2.2:Int)=n then zZV 4 h.choose.1 ++ zZV 2 h.choose.2.1 ++ zZV 2 h.choose.2.2 else []
theorem yWF{y m d:Nat}(h:zQB y m d):1<=zXP y m d:=by have:=h.year;omega
theorem zZM:zJu 0=List.replicate 8 32:=by unfold zJu;rw[if_pos rfl]
theorem zJU{y m d:Nat}(h:zQB y m d):zJu (zXP y m d:Nat)=zZV 4 y ++ zZV 2 m ++ zZV 2 d:=by
 have hp:=yWF h
 have hx:∃p:Nat × Nat × Nat,zQB p.1 p.2.1 p.2.2/\(zXP p.1 p.2.1 p.2.2:Int)=(zXP y m d:Nat):=⟨(y,m,d),h,rfl⟩
 unfold zJu
 rw[if_neg (by omega),dif_pos hx]
 obtain⟨h1,h2⟩:=hx.choose_spec
 obtain⟨e1,e2,e3⟩:=yZI h1 h (by omega)
 rw[e1,e2,e3]
theorem zWU{y m d:Nat}(h:zQB y m d):((zZq y).length<=4/\y<=1000000)/\((zZq m).length<=2/\m<=1000000)/\((zZq d).length<=2/\d<=1000000):=by
 obtain⟨h1,h2,h3,h4,h5,h6⟩:=h
 have:=zWp y m
 exact⟨⟨zZf 3 y (by omega),by omega⟩,⟨zZf 1 m (by omega),by omega⟩,⟨zZf 1 d (by omega),by omega⟩⟩
theorem zKG{y m d:Nat}(h:zQB y m d):(zZV 4 y ++ zZV 2 m ++ zZV 2 d).length=8:=by
 obtain⟨a,b,c⟩:=zWU h
 rw[List.length_append,List.length_append,zX9 a.1,zX9 b.1,zX9 c.1]
theorem xJz(n:Int)(h:0<=n/\n<=3652059)(w:World):Calls prog 212 #[.int .i64 n] w λe w'=>e=.returned (.tuple #[.string (bs (zJu n)),.int .i64 0])/\(zJu n).length=8/\Pu w w':=by
 refine yJ2 _ w _ ((yXo n w).mono ?_)
 rintro e w1 ⟨rfl,aA⟩
 rw[decide_eq_true h.1,decide_eq_true h.2]
 refine⟨_,rfl,Br.f rfl (Br.of (λd=>⟨?_,?_,aA⟩) (λd=>?_))⟩
 ·rw[zXr d,zZM];rfl
 ·rw[zXr d,zZM];rfl
 have lA:=zQ9 d
 clear d
 obtain⟨k,rfl⟩:∃k:Nat,n=(k:Int):=⟨n.toNat,by omega⟩
 refine yKb _ w1 _ ((xZK k (by omega) w1).mono ?_)
 rintro e w2 ⟨y,m,d,hD,rfl,rfl,ay⟩
 obtain⟨a,b,c⟩:=zWU hD
 refine⟨_,_,_,_,rfl,(zYy y 4 a.2 ⟨a.1,by omega⟩ w2).mono ?_⟩
 rintro e w3 ⟨rfl,aC⟩
 refine⟨_,rfl,(zYy m 2 b.2 ⟨b.1,by omega⟩ w3).mono ?_⟩
 rintro e w4 ⟨rfl,aK⟩
 refine⟨_,rfl,by rw[zQ2,zQ2,zX9 a.1,zX9 b.1];omega,(zYy d 2 c.2 ⟨c.1,by omega⟩ w4).mono ?_⟩
 rintro e w5 ⟨rfl,ba⟩
 have e1:bs (zZV 4 y) ++ bs (zZV 2 m)=bs (zZV 4 y ++ zZV 2 m):=by rw[zZB,zQF,zQF]
 refine⟨_,rfl,by rw[e1,zQ2,zQ2,List.length_append,zX9 a.1,zX9 b.1,zX9 c.1];omega,?_⟩
 rw[e1,zZB,zQF,zQF,zJU hD]
 exact⟨_,rfl,rfl,zKG hD,(((aA.trans ay).trans aC).trans aK).trans ba⟩
end Go.Proofs.YtaeecpjhfmcliaaGreatDoor
/- Table: how values are written in fields, by both packages. No condition. -/
namespace Go.Proofs.YtaeecpjhfmcliaaGreatDoor
open Go.Sh Go.RowKit Tryz
theorem zZo{s:ByteArray}(h:s.size=0):s=⟨#[]⟩:=by
 obtain⟨⟨l⟩⟩:=s
 cases l with
 | nil=>rfl
 | cons a l=>simp[ByteArray.size]at h
inductive zWf (f:Fld) (p:Int) (v:Val):Prop
 | nil (hv:v=noV) (hn:f.null=true)
 | truth (hk:f.kind=1) (hw:f.width=1) (hv:v=⟨1,v.n,⟨#[]⟩⟩) (hn:v.n=0∨v.n=1)
 | num (hk:f.kind=2) (hw:1<=f.width/\f.width<=15) (hv:v=⟨2,v.n,⟨#[]⟩⟩) (hn:-1000000000000000<=v.n/\v.n<=1000000000000000) (hl:((zZS v.n).length:Int)<=f.width)
 | date (hk:f.kind=3) (hw:f.width=8) (hv:v=⟨3,v.n,⟨#[]⟩⟩) (hn:0<=v.n/\v.n<=3652059)
 | text (hk:f.kind=4) (hw:1<=f.width/\f.width<=254) (hv:v=⟨4,0,v.s⟩) (hl:(v.s.size:Int)<=f.width) (hb:zZ4 v.s.data.toList=v.s.data.toList) (ht:zZ0 v.s.data.toList p=true)
 | memo (hk:f.kind=5) (hw:f.width=8) (hv:v=⟨2,v.n,⟨#[]⟩⟩) (hn:0<=v.n/\v.n<=99999999)
theorem yXc{f:Fld}(h:zQo f=true):(f.kind=1/\f.width=1)∨(f.kind=2/\1<=f.width/\f.width<=15)∨(f.kind=3/\f.width=8)∨(f.kind=4/\1<=f.width/\f.width<=254)∨(f.kind=5/\f.width=8):=by
 unfold zQo zVw at h
 simp only[Bool.and_eq_true]at h
 have h:=h.2
 split at h
 ·rename_i hk;simp at h;exact .inl ⟨hk,h⟩
 ·split at h
  ·rename_i hk;simp at h;exact .inr (.inl ⟨hk,h⟩)
  ·split at h
   ·rename_i hk;simp at h;exact .inr (.inr (.inl ⟨hk,h⟩))
   ·split at h
    ·rename_i hk;simp at h;exact .inr (.inr (.inr (.inl ⟨hk,h⟩)))
    ·split at h
     ·rename_i hk;simp at h;exact .inr (.inr (.inr (.inr ⟨hk,h⟩)))
     ·simp at h
theorem zWf.of{f:Fld}{p:Int}{v:Val}(hf:zQo f=true)(h:zXi f p v=true):zWf f p v:=by
 have hk:=yXc hf
 have hv:zXk v=0:=by
  by_cases hv:zXk v=0
  ·exact hv
  ·unfold zXi at h;rw[if_pos hv]at h;cases h
 obtain⟨_,hok,hs⟩:=zWu hv
 unfold zXi at h
 rw[if_neg (by omega)]at h
 obtain⟨k,n,s⟩:=v
 simp only at *
 by_cases h0:k=0
 ·rw[if_pos h0]at h
  subst h0
  have hn:n=0:=by unfold okN at hok;rw[if_pos rfl]at hok;simpa using hok
  have hs:s=⟨#[]⟩:=zZo (by rcases hs with h|h;omega;exact h)
  subst hn hs
  exact .nil rfl h
 rw[if_neg h0]at h
 by_cases h5:f.kind=5
 ·rw[if_pos h5]at h
  have hw:f.width=8:=by omega
  simp only[Bool.and_eq_true,decide_eq_true_eq,zYo]at h
  obtain⟨rfl,h1,h2⟩:=h
  have hs:s=⟨#[]⟩:=zZo (by rcases hs with h|h;omega;exact h)
  subst hs
  exact .memo h5 hw rfl ⟨h1,h2⟩
 rw[if_neg h5]at h
 by_cases hkk:k ≠ f.kind
 ·rw[if_pos hkk]at h;cases h
 rw[if_neg hkk]at h
 have hkk:k=f.kind:=by omega
 rcases hk with⟨e,hw⟩|⟨e,hw⟩|⟨e,hw⟩|⟨e,hw⟩|⟨e,hw⟩
 ·rw[e]at hkk;subst hkk
  have hs:s=⟨#[]⟩:=zZo (by rcases hs with h|h;omega;exact h)
  subst hs
  unfold okN at hok
  rw[if_neg (by decide),if_pos rfl]at hok
  exact .truth e hw rfl (by simpa using hok)
 ·rw[e]at hkk;subst hkk
  have hs:s=⟨#[]⟩:=zZo (by rcases hs with h|h;omega;exact h)
  subst hs
  unfold okN at hok
  rw[if_neg (by decide),if_neg (by decide),if_pos rfl]at hok
  rw[if_pos e]at h
  exact .num e hw rfl (by simpa using hok) (by simpa using h)
 ·rw[e]at hkk;subst hkk
  have hs:s=⟨#[]⟩:=zZo (by rcases hs with h|h;omega;exact h)
  subst hs
  unfold okN at hok
  rw[if_neg (by decide),if_neg (by decide),if_neg (by decide),if_pos rfl]at hok
  exact .date e hw rfl (by simpa using hok)
 ·rw[e]at hkk;subst hkk
  rw[if_neg (by omega),if_pos e]at h
  unfold okN at hok
  rw[if_neg (by decide),if_neg (by decide),if_neg (by decide),if_neg (by decide),if_pos rfl]at hok
  simp only[Bool.and_eq_true,decide_eq_true_eq]at h hok
  subst hok
  exact .text e hw rfl h.1.1 h.1.2 h.2
 ·omega
def zQm(f:Fld)(v:Val):List UInt8:=
 if v.kind=0 then List.replicate f.width.toNat 32 else if f.kind=1 then [if v.n=1 then 84 else 70]else if f.kind=3 then zJu v.n
 else if f.kind=4 then zVG f v else if f.kind=5/\v.n=0 then List.replicate f.width.toNat 32 else List.replicate (f.width.toNat - (zZS v.n).length) 32 ++ zZS v.n
theorem zWX(f:Fld)(v:Val):zW4 zQm f v=zQm f v:=by
 unfold zW4
 by_cases h:v.kind=0
 ·rw[if_pos h];unfold zQm;rw[if_pos h]
 ·rw[if_neg h]
theorem yWI{k:Nat}(h:1<=k/\k<=3652059):∃y m d,zQB y m d/\zXP y m d=k:=by
 have hend:=zJA
 -- the year that holds the day
 have hy:∃y,1<=y/\y<=9999/\zQq y<k/\k<=zQq (y+1):=by
  have:∀j:Nat,j<=9999->k<=zQq (j+1)->∃y,1<=y/\y<=9999/\zQq y<k/\k<=zQq (y+1):=by
   intro j
   induction j with
   | zero=>intro _ hk;exfalso;have:zQq 1=0:=(by decide);simp only[Nat.zero_add]at hk;omega
   | succ j ih=>
    intro hj hk
    by_cases hlt:zQq (j+1)<k
    ·exact⟨j+1,by omega,hj,hlt,hk⟩
    ·exact ih (by omega) (by omega)
  exact this 9999 (by omega) (by show k<=zQq 10000;omega)
 obtain⟨y,y1,y9,ylt,yle⟩:=hy
 have hys:=zXw y1
 have pH:=zZm y
 have hm:∃m,1<=m/\m<=12/\zQq y+zQr y (m - 1)<k/\k<=zQq y+zQr y m:=by
  have:∀j:Nat,j<=12->k<=zQq y+zQr y j->∃m,1<=m/\m<=12/\zQq y+zQr y (m - 1)<k/\k<=zQq y+zQr y m:=by
   intro j
   induction j with
   | zero=>intro _ hk;exfalso;simp only[zQr]at hk;omega
   | succ j ih=>
    intro hj hk
    by_cases hlt:zQq y+zQr y j<k
    ·exact⟨j+1,by omega,hj,by rw[Nat.add_sub_cancel];exact hlt,hk⟩
    ·exact ih (by omega) (by omega)
  exact this 12 (by omega) (by rw[pH];omega)
 obtain⟨m,m1,m12,mlt,mle⟩:=hm
 obtain⟨j,rfl⟩:∃j,m=j+1:=⟨m - 1,by omega⟩
 rw[Nat.add_sub_cancel]at mlt
 have hmf:zQr y (j+1)=zQr y j+zZ8 y (j+1):=rfl
 have hD:zQB y (j+1) (k - zQq y - zQr y j):=⟨y1,y9,m1,m12,by omega,by omega⟩
 exact⟨y,j+1,k - zQq y - zQr y j,hD,by unfold zXP;rw[Nat.add_sub_cancel];omega⟩
theorem yKc{n:Int}(h:0<=n/\n<=3652059):(zJu n).length=8:=by
 by_cases h0:n=0
 ·rw[h0,zZM];rfl
 obtain⟨k,rfl⟩:∃k:Nat,n=(k:Int):=⟨n.toNat,by omega⟩
 obtain⟨y,m,d,hD,e⟩:=yWI (k:=k) (by omega)
 rw[←e,zJU hD]
 exact zKG hD
theorem zWf.len{f:Fld}{p:Int}{v:Val}(h:zWf f p v):(zQm f v).length=f.width.toNat:=by
 unfold zQm
 cases h with
 | nil hv hn=>rw[hv];simp[noV]
 | truth hk hw hv hn=>rw[hv,if_neg (by simp),if_pos hk,hw];rfl
 | num hk hw hv hn hl=>rw[hv]at *;dsimp only at *;rw[if_neg (by decide),if_neg (by omega),if_neg (by omega),if_neg (by omega),if_neg (by omega),List.length_append,List.length_replicate];omega
 | date hk hw hv hn=>rw[hv,if_neg (by simp),if_neg (by omega),if_pos hk,hw];exact yKc hn
 | text hk hw hv hl hb ht=>rw[hv,if_neg (by simp),if_neg (by omega),if_neg (by omega),if_pos hk];unfold zVG;rw[List.length_append,zQv,List.length_replicate];dsimp only;omega
 | memo hk hw hv hn=>
  rw[hv]at *;dsimp only at *
  rw[if_neg (by decide),if_neg (by omega),if_neg (by omega),if_neg (by omega)]
  by_cases h0:v.n=0
  ·rw[if_pos ⟨hk,h0⟩,List.length_replicate]
  ·rw[if_neg (by simp[h0]),List.length_append,List.length_replicate]
   obtain⟨k,aI⟩:∃k:Nat,v.n=(k:Int):=⟨v.n.toNat,by omega⟩
   rw[aI,zKx]
   have:=zZf 7 k (by omega)
   omega
theorem zVP(f:Fld)(v:Val)(hw:1<=f.width/\f.width<=254)(hn:-1000000000000000<=v.n/\v.n<=1000000000000000)(w:World):Calls prog 182 #[yQA f,zKL v] w λe w'=>e=.returned (.string (bs (yVI v.n f.width)))/\Pu w w':=by
 refine yZN _ _ _ _ _ _ _ w _ (alB λw1 aA aD=>alB λw2 ay aL=>⟨_,cl aL 1,_,cl (ay.blk aD) 2,(str_c hn hw w2).mono ?_⟩)
 rintro e w3 ⟨rfl,aC⟩
 exact⟨_,_,rfl,rfl,(aA.trans ay).trans aC⟩
theorem yZv {n w:Int} (h:((zZS n).length:Int)<=w):yVI n w=List.replicate (w.toNat - (zZS n).length) 32 ++ zZS n:=by unfold yVI;rw[if_neg (by omega)]
theorem xJb{f:Fld}{p:Int}{v:Val}(h:zWf f p v)(h0:v.kind ≠ 0):∃K,zQJ f.kind=some K/\zQt prog K.wr=true/\∀w,Calls prog K.wr #[yQA f,zKL v] w λe w'=>e=.returned (.string (bs (zQm f v)))/\Pu w w':=by
 cases h with
 | nil hv hn=>rw[hv]at h0;exact absurd rfl h0
 | truth hk hw hv hn=>
  refine⟨_,by rw[hk];rfl,by kernel_rfl,λw=>?_⟩
  refine yJc _ _ _ _ _ _ _ w _ (alB λw1 aA aD=>alB λw2 ay aL=>⟨_,cl aL 1,_,cl aL 1,?_⟩)
  have e:zQm f v=[if v.n=1 then 84 else 70]:=by unfold zQm;rw[if_neg h0,if_pos hk]
  rw[e]
  rcases hn with hn|hn
  ·rw[hn]
   rw[zQa (by decide) (by decide)]
   exact⟨by decide,by decide,by decide,by decide,rfl,aA.trans ay⟩
  ·rw[hn]
   rw[zQa (by decide) (by decide)]
   exact⟨by decide,by decide,by decide,by decide,rfl,aA.trans ay⟩
 | num hk hw hv hn hl=>
  refine⟨_,by rw[hk];rfl,by kernel_rfl,λw=>?_⟩
  have e:zQm f v=yVI v.n f.width:=by rw[yZv hl];unfold zQm;rw[if_neg h0,if_neg (by omega),if_neg (by omega),if_neg (by omega),if_neg (by omega)]
  rw[e]
  exact zVP f v ⟨hw.1,by omega⟩ hn w
 | date hk hw hv hn=>
  refine⟨_,by rw[hk];rfl,by kernel_rfl,λw=>?_⟩
  have e:zQm f v=zJu v.n:=by unfold zQm;rw[if_neg h0,if_neg (by omega),if_pos hk]
  rw[e]
  refine yJE _ _ _ _ _ _ _ w _ (alB λw1 aA aD=>alB λw2 ay aL=>⟨_,cl aL 1,(xJz v.n hn w2).mono ?_⟩)
  rintro e w3 ⟨rfl,_,aC⟩
  exact⟨_,_,rfl,rfl,(aA.trans ay).trans aC⟩
 | text hk hw hv hl hb ht=>
  refine⟨_,by rw[hk];rfl,by kernel_rfl,λw=>?_⟩
  have e:zQm f v=zVG f v:=by unfold zQm;rw[if_neg h0,if_neg (by omega),if_neg (by omega),if_pos hk]
  rw[e]
  exact yXj f v ⟨hl,by omega⟩ w
 | memo hk hw hv hn=>
  refine⟨_,by rw[hk];rfl,by kernel_rfl,λw=>?_⟩
  refine yJB _ _ _ _ _ _ _ w _ (alB λw1 aA aD=>alB λw2 ay aL=>⟨_,cl aL 1,Br.of (λd=>⟨_,cl (ay.blk aD) 2,?_⟩) (λd=>?_)⟩)
  ·rw[show(Value.int .i64 f.width)=.int .i64 ((8:Nat):Int)by rw[hw];rfl]
   refine(zJ8 32 8 (by omega) w2).mono ?_
   rintro e w3 ⟨rfl,aC⟩
   refine⟨_,rfl,?_,(aA.trans ay).trans aC⟩
   have e:zQm f v=List.replicate 8 32:=by unfold zQm;rw[if_neg h0,if_neg (by omega),if_neg (by omega),if_neg (by omega),if_pos ⟨hk,zXr d⟩,hw];rfl
   rw[e]
  ·have d:=zQ9 d
   have q1:=ay.blk aD
   refine⟨_,cl q1 0,_,cl q1 1,_,cl q1 2,_,cl q1 3,_,cl aL 0,_,cl aL 1,_,cl aL 2,(zVP f v (by omega) (by omega) w2).mono ?_⟩
   rintro e w3 ⟨rfl,aC⟩
   refine⟨_,rfl,?_,(aA.trans ay).trans aC⟩
   have hl:((zZS v.n).length:Int)<=f.width:=by
    obtain⟨k,aI⟩:∃k:Nat,v.n=(k:Int):=⟨v.n.toNat,by omega⟩
    rw[aI,zKx]
    have:=zZf 7 k (by omega)
    omega
   have e:zQm f v=yVI v.n f.width:=by rw[yZv hl];unfold zQm;rw[if_neg h0,if_neg (by omega),if_neg (by omega),if_neg (by omega),if_neg (by simp[d])]
   rw[e]
def zXh(l:List Fld)(p:Int)(vs:List Val):Prop:=vs.length=l.length/\∀(i:Nat) (f:Fld) (v:Val),l[i]?=some f->vs[i]?=some v->zWf f p v
theorem zXh.of{l:List Fld}{p:Int}{r:Rec}(hl:l.all zQo=true)(h:zQA l p r=0):zXh l p r.v:=by
 obtain⟨h1,h2⟩:=zWW h
 refine⟨h1,λi f v hf hv=>zWf.of (List.all_eq_true.1 hl f (List.mem_of_getElem? hf)) ?_⟩
 exact List.all_eq_true.1 h2 (f,v) (List.mem_of_getElem? (xQ4 hf hv))
theorem zXh.writes{l:List Fld}{p:Int}{vs:List Val}(hl:l.all zQo=true)(h:zXh l p vs):yZa zQm l vs:=λi f v hf hv h0=>by
 have hr:=h.2 i f v hf hv
 refine⟨?_,xJb hr h0⟩
 rw[hr.len]
 have:=zXm (List.all_eq_true.1 hl f (List.mem_of_getElem? hf))
 omega
theorem zXu{l:List Fld}{p:Int}{vs:List Val}(hl:l.all zQo=true)(h:zXh l p vs):∀k,k<=l.length->((zXs zQm (l.take k) (vs.take k)).length:Int)=((l.take k).map (·.width)).sum
 | 0,_=>by simp[zXs]
 | k+1,h1=>by
  obtain⟨f,hf⟩:=zXf (show k<l.length by omega)
  obtain⟨v,hv⟩:=zXf (show k<vs.length by have:=h.1;omega)
  rw[zJP hf hv,List.length_append,zWo hf,zWX,(h.2 k f v hf hv).len]
  have:=zXu hl h k (by omega)
  have:=zXm (List.all_eq_true.1 hl f (List.mem_of_getElem? hf))
  omega
theorem zJ0{l:List Fld}{p:Int}{r:Rec}(hl:l.all zQo=true)(h:zXh l p r.v):((zZI zQm l r).length:Int)=zXE l:=by
 have h1:=zXu hl h l.length (Nat.le_refl _)
 rw[List.take_length,List.take_of_length_le (by have:=h.1;omega)]at h1
 unfold zZI zXE
 rw[List.length_append,List.length_append,zKI,List.length_singleton]
 omega
theorem zXh.ne {l:List Fld} {p:Int} {vs:List Val} (hl:l.all zQo=true) (h:zXh l p vs) (h0:l ≠ []):zXs zQm l vs ≠ []:=λe=>by
 have h1:=zXu hl h l.length (Nat.le_refl _)
 rw[List.take_length,List.take_of_length_le (by have:=h.1;omega),e]at h1
 obtain⟨f,l',rfl⟩:=List.exists_cons_of_ne_nil h0
 simp only[List.map_cons,List.sum_cons,List.length_nil]at h1
 have hf:=zXm (List.all_eq_true.1 hl f (by simp))
 have:=zZQ (l:=l') (WOk.of (List.all_eq_true.2 λg hg=>List.all_eq_true.1 hl g (by simp[hg])))
 omega
end Go.Proofs.YtaeecpjhfmcliaaGreatDoor
/- Table: numbers and dates that are read from texts, by both packages. No condition. -/
namespace Go.Proofs.YtaeecpjhfmcliaaGreatDoor
open Go.Sh Go.RowKit Tryz
def zXT:Nat->List UInt8->Nat
 | a,[]=>a
 | a,b :: l=>if zXZ b then zXT (min (10 * a+(b.toNat - 48)) 1000000000000000) l else a
def yXm:List UInt8->Int
 | []=>0
 | b :: r=>if b.toNat=45 then -(zXT 0 r:Int)else if b.toNat=43 then zXT 0 r else zXT 0 (b :: r)
theorem zXM(b:UInt8)(r:List UInt8):yXm (b :: r)=if b.toNat=45 then -(zXT 0 r:Int)else if b.toNat=43 then zXT 0 r else zXT 0 (b :: r):=rfl
def zVS(l:List UInt8):Int:=yXm (l.dropWhile (· == 32))
theorem zWN:∀{l:List UInt8} {a:Nat},a<=1000000000000000->zXT a l<=1000000000000000
 | [],a,h=>h
 | b :: l,a,h=>by
  unfold zXT
  split
  ·exact zWN (Nat.min_le_right _ _)
  ·exact h
theorem yWr(l:List UInt8):-1000000000000000<=zVS l/\zVS l<=1000000000000000:=by
 have h:=λr=>zWN (l:=r) (a:=0) (by omega)
 unfold zVS yXm
 split
 ·omega
 ·rename_i b r _
  have h1:=h r
  have h2:=h (b :: r)
  split
  ·omega
  ·split <;> omega
theorem yX9{b:UInt8}(h:zXZ b=true):48<=b.toNat/\b.toNat<=57:=by
 unfold zXZ at h;simpa using h
theorem zYE {b:UInt8} (h:¬(48<=b.toNat/\b.toNat<=57)):zXZ b=false:=by
 unfold zXZ;simp;omega
theorem yZd{b:UInt8}(h:48<=b.toNat/\b.toNat<=57):IntKind.i64.wrap (IntKind.u8.wrap (((b.toNat:Nat):Int) - 48))=((b.toNat - 48:Nat):Int):=by
 have e:IntKind.u8.wrap (((b.toNat:Nat):Int) - 48)=((b.toNat - 48:Nat):Int):=by rw[IntKind.wrap_u8];omega
 rw[e,zQa (by omega) (by omega)]
theorem zYD(b:UInt8)(r:List UInt8):(bs (b :: r)).extract ((1:Int).toNat) (bs (b :: r)).size=bs r:=by
 apply zQM
 rw[zQ3,zQF,zQF,zQ2]
 show(List.take (b :: r).length (b :: r)).drop 1=r
 rw[List.take_length];rfl
theorem zY9 {w0 w:World} (hp:Pu w0 w) (l:List UInt8) {sg X:Int} (hsg:sg=1∨sg=-1) (hl:l.length<=140737488355328) (hX:X=sg * (zXT 0 l:Nat)) :
  zWb (λe w'=>e=.returned (.int .i64 X)/\Pu w0 w') (bs l) sg [] w:=by
 have hs:=zQ2 l
 have fin:∀{a:Nat} {w':World},a<=1000000000000000->a=zXT 0 l->Pu w0 w'->yXb (λe w'=>e=.returned (.int .i64 X)/\Pu w0 w') sg (a:Int) [] w':=λ{a w'} h1 h2 h3=>by
  refine⟨?_,h3⟩
  rw[hX,←h2]
  rcases hsg with h|h
  ·rw[h,zQa (by omega) (by omega)]
  ·rw[h,zQa (by omega) (by omega)]
 refine zQD l.length (λk t w'=>t.2=(k:Int)/\∃a:Nat,t.1=(a:Int)/\a<=1000000000000000/\zXT a (l.drop k)=zXT 0 l/\Pu w0 w') ⟨rfl,0,rfl,by omega,rfl,hp⟩ ?_
 rintro k J ⟨t1,t2⟩ w2 hk ⟨h2,a,h1,ha,hd,ay⟩ hJ
 obtain rfl:t2=(k:Int):=h2
 obtain rfl:t1=(a:Int):=h1
 dsimp only
 refine Br.of (λd=>?_) (λd=>?_)
 ·have aI:k<l.length:=by have:=zQs d;omega
  obtain⟨b,hb⟩:=zXf aI
  have hbb:(bs l)[((k:Int)).toNat]?=some b:=zW3 (by rw[zQF];exact hb)
  rw[zXG hb]at hd
  refine⟨b,by omega,hbb,Br.of (λd1=>?_) (λd1=>⟨b,by omega,hbb,Br.of (λd2=>?_) (λd2=>⟨b,by omega,hbb,?_⟩)⟩)⟩
  ·refine fin ha ?_ ay
   rw[zXT,zYE (by have:=zQs d1;omega)]at hd
   simpa using hd
  ·refine fin ha ?_ ay
   rw[zXT,zYE (by have:=zQs d2;omega)]at hd
   simpa using hd
  ·have d1:=zQj d1
   have d2:=zQj d2
   have aL:48<=b.toNat/\b.toNat<=57:=by omega
   rw[yZd aL,zQa (n:=(a:Int) * 10) (by omega) (by omega),zQa (n:=(a:Int) * 10+_) (by omega) (by omega),zQa (n:=(k:Int)+1) (by omega) (by omega)]
   refine⟨_,w2,yWc _ _ _ _ _ _,?_⟩
   have e:zXZ b=true:=by unfold zXZ;simp;omega
   rw[zXT,e,if_pos rfl]at hd
   exact hJ _ _ aI ⟨by dsimp only;omega,min (10 * a+(b.toNat - 48)) 1000000000000000,by dsimp only;omega,Nat.min_le_right _ _,hd,ay⟩
 ·have aI:k=l.length:=by have:=zQj d;omega
  subst aI
  rw[List.drop_length]at hd
  exact fin ha hd ay
theorem yKG(s:ByteArray)(hs:s.size<=140737488355328)(w:World):Calls prog 211 #[.string s] w λe w'=>e=.returned (.int .i64 (zVS s.data.toList))/\Pu w w':=by
 refine yJ8 _ w _ ((Any.strings_TrimLeft_one Tryz.lays161 s 32 (by decide) w).mono ?_)
 rintro e w1 ⟨rfl,rfl⟩
 have hT:Lib.trimLeftB s.data.toList 32=s.data.toList.dropWhile (· == 32):=rfl
 rw[hT]
 have hlen:(s.data.toList.dropWhile (· == 32)).length<=s.size:=by
  have:=(List.dropWhile_suffix (· == (32:UInt8)) (l:=s.data.toList)).length_le
  rwa [zQv]at this
 refine⟨_,rfl,?_⟩
 rw[zXJ]
 unfold zVS
 cases hL:s.data.toList.dropWhile (· == 32)with
 | nil=>exact Br.f (by simp[ByteArray.size]) (zY9 (Pu.refl _) [] (.inl rfl) (by simp) rfl)
 | cons b r=>
  rw[hL]at hlen
  simp only[List.length_cons]at hlen
  have h0:(bs (b :: r))[((0:Int)).toNat]?=some b:=zW3 (by rw[zQF];rfl)
  refine Br.t (by rw[zQ2];simp) ⟨b,by omega,h0,Br.of (λd=>⟨b,by omega,h0,Br.of (λd1=>⟨Nat.le_refl _,by omega,by rw[zQ2];show 1<=_;simp,?_⟩) (λd1=>absurd (zXr d) (zQ9 d1))⟩) (λd=>⟨b,by omega,h0,Br.of (λd1=>⟨b,by omega,h0,Br.of (λd2=>absurd (zXr d2) (zQ9 d)) (λd2=>⟨Nat.le_refl _,by omega,by rw[zQ2];show 1<=_;simp,?_⟩)⟩) (λd1=>?_)⟩)⟩
  ·rw[zYD]
   refine zY9 (Pu.refl _) r (.inr rfl) (by omega) ?_
   rw[zXM,if_pos (by have:=zXr d;omega)];omega
  ·rw[zYD]
   refine zY9 (Pu.refl _) r (.inl rfl) (by omega) ?_
   rw[zXM,if_neg (by have:=zQ9 d;omega),if_pos (by have:=zXr d1;omega)];omega
  ·refine zY9 (Pu.refl _) (b :: r) (.inl rfl) (by simp;omega) ?_
   rw[zXM,if_neg (by have:=zQ9 d;omega),if_neg (by have:=zQ9 d1;omega)];omega
def yXe(y m d:Nat):Int × Bool:=(((if zQB y m d then zXP y m d else 0:Nat):Int),decide (zQB y m d))
def zXd(l:List UInt8):Int × Bool:=if l=List.replicate 8 32 then(0,true)else if l.length ≠ 8 then(0,false)else if l.all zXZ then yXe (zXT 0 (l.take 4)) (zXT 0 ((l.drop 4).take 2)) (zXT 0 (l.drop 6))else(0,false)
theorem yX7(l:List UInt8):0<=(zXd l).1/\(zXd l).1<=3652059:=by
 unfold zXd
 split
 ·simp
 ·split
  ·simp
  ·split
   ·unfold yXe
    dsimp only
    split
    ·rename_i h
     have h1:=h.year
     have h2:=zXx (a:=zXT 0 (l.take 4)+1) (b:=10000) (by omega) (by have:=h.2.1;omega)
     have:=zJA
     omega
    ·omega
   ·simp
theorem zZl{l:List UInt8}(h:l.all zXZ=true):zVS l=(zXT 0 l:Nat):=by
 cases l with
 | nil=>rfl
 | cons b r=>
  have hb:=yX9 (List.all_eq_true.1 h b (by simp))
  have e:(b == 32)=false:=by
   simp only[beq_eq_false_iff_ne,ne_eq]
   intro h;subst h;revert hb;decide
  unfold zVS
  rw[List.dropWhile_cons,e]
  simp only[Bool.false_eq_true,if_false]
  rw[zXM,if_neg (by omega),if_neg (by omega)]
def yVE:List UInt8:=[48,49,50,51,52,53,54,55,56,57]
theorem yVl(b:UInt8):yVE.contains b=zXZ b:=by
 have h:∀n:Nat,n<256->yVE.contains (UInt8.ofNat n)=zXZ (UInt8.ofNat n):=by decide +kernel
 have:=h b.toNat b.toNat_lt
 rwa [UInt8.ofNat_toNat]at this
theorem xJh(s:ByteArray)(hs:s.size<=9223372036854775807)(w:World):Calls prog 190 #[.string s,.string ⟨#[48,49,50,51,52,53,54,55,56,57]⟩] w
  λe w'=>e=.returned (.string ⟨(Lib.trimS s.data.toList yVE).toArray⟩)/\Pu w w':=
 Any.strings_Trim_laid Tryz.lays160 u110 s ⟨#[48,49,50,51,52,53,54,55,56,57]⟩ w hs (by decide) (ascii_of_all (by decide))
theorem yWZ(s:ByteArray):(s.toList == (⟨#[32,32,32,32,32,32,32,32]⟩:ByteArray).toList)=decide (s.data.toList=List.replicate 8 32):=by
 rw[zXI]
 exact zZj ⟨λh=>by rw[h];rfl,λh=>zQM (by rw[h];rfl)⟩
theorem zJM{l:List UInt8}(h:l.all zXZ=true)(n:Nat):(l.take n).all zXZ=true:=List.all_eq_true.2 λb hb=>List.all_eq_true.1 h b (List.mem_of_mem_take hb)
theorem zJS{l:List UInt8}(h:l.all zXZ=true)(n:Nat):(l.drop n).all zXZ=true:=List.all_eq_true.2 λb hb=>List.all_eq_true.1 h b (List.mem_of_mem_drop hb)
theorem ext3{s:ByteArray}(h8:s.size=8):(s.extract 0 ((4:Int).toNat)).data.toList=s.data.toList.take 4/\(s.extract ((4:Int).toNat) ((6:Int).toNat)).data.toList=(s.data.toList.drop 4).take 2/\(s.extract ((6:Int).toNat) s.size).data.toList=s.data.toList.drop 6:=by
 refine⟨by rw[zQ3];rfl,?_,?_⟩
 ·rw[zQ3]
  show(List.take 6 s.data.toList).drop 4=_
  rw[List.drop_take]
 ·rw[zQ3,h8,List.take_of_length_le (by rw[zQv];omega)];rfl
theorem yWW(s:ByteArray)(hs:s.size<=140737488355328)(w:World):Calls prog 213 #[.string s] w λe w'=>e=.returned (.tuple #[.int .i64 (zXd s.data.toList).1,.bool (zXd s.data.toList).2])/\Pu w w':=by
 refine yKf _ w _ ?_
 rw[yWU,yWZ]
 refine Br.of (λd=>⟨by unfold zXd;rw[if_pos (zQs d)],Pu.refl w⟩) (λd=>Br.of (λd1=>⟨?_,Pu.refl w⟩) (λd1=>(xJh s (by omega) w).mono ?_))
 ·unfold zXd;rw[if_neg (zQj d),if_pos (by rw[zQv];have:=zQG d1;omega)]
 have h8:s.size=8:=by have:=zQ4 d1;omega
 rintro e w1 ⟨rfl,aA⟩
 have e2:((ByteArray.mk (Lib.trimS s.data.toList yVE).toArray).toList == (⟨#[]⟩:ByteArray).toList)=s.data.toList.all zXZ:=by
  rw[zXJ]
  have h1:((ByteArray.mk (Lib.trimS s.data.toList yVE).toArray).size=0) ↔ s.data.toList.all (yVE.contains ·)=true:=by
   rw[←yQE];simp[ByteArray.size]
  rw[show zXZ=(yVE.contains ·)from funext λb=>(yVl b).symm]
  rw[Bool.eq_iff_iff,decide_eq_true_iff];exact h1
 refine⟨_,rfl,?_⟩
 rw[e2]
 have eU:zXd s.data.toList=if s.data.toList.all zXZ then yXe (zXT 0 (s.data.toList.take 4)) (zXT 0 ((s.data.toList.drop 4).take 2)) (zXT 0 (s.data.toList.drop 6))else(0,false):=by
  unfold zXd;rw[if_neg (zQj d),if_neg (by rw[zQv];omega)]
 refine Br.of (λd2=>⟨by rw[eU,if_neg (by simpa using d2)],aA⟩) (λd2=>zQe λw2 ay _=>?_)
 have hall:s.data.toList.all zXZ=true:=by simpa using d2
 obtain⟨x1,x2,x3⟩:=ext3 h8
 refine⟨by omega,by rw[h8];decide,by decide,by omega,by rw[h8];decide,by omega,by decide,Nat.le_refl _,by omega,by rw[h8];decide,(yKG _ (by rw[←zQv,x1,List.length_take];omega) w2).mono ?_⟩
 rintro e w3 ⟨rfl,aC⟩
 refine⟨_,rfl,(yKG _ (by rw[←zQv,x2,List.length_take];omega) w3).mono ?_⟩
 rintro e w4 ⟨rfl,aK⟩
 refine⟨_,rfl,(yKG _ (by rw[←zQv,x3,List.length_drop,zQv];omega) w4).mono ?_⟩
 rintro e w5 ⟨rfl,ba⟩
 rw[x1,x2,x3,zZl (zJM hall 4),zZl (zJM (zJS hall 4) 2),zZl (zJS hall 6)]
 refine⟨_,rfl,(days_c _ _ _ w5).mono ?_⟩
 rintro e w6 ⟨rfl,cW⟩
 refine⟨_,_,rfl,?_,(((aA.trans ay).trans aC).trans (aK.trans ba)).trans cW⟩
 rw[eU,if_pos hall]
 unfold yXe
 by_cases hD:zQB (zXT 0 (s.data.toList.take 4)) (zXT 0 ((s.data.toList.drop 4).take 2)) (zXT 0 (s.data.toList.drop 6))
 ·rw[if_pos hD,if_pos hD,decide_eq_true hD];rfl
 ·rw[if_neg hD,if_neg hD,decide_eq_false hD];rfl
end Go.Proofs.YtaeecpjhfmcliaaGreatDoor
/- Table: values that are read back, by both packages. No condition. -/
namespace Go.Proofs.YtaeecpjhfmcliaaGreatDoor
open Go.Sh Go.RowKit Tryz
def zZs(k:Int)(s:List UInt8):Val:=if k=1 then⟨1,if s=[84]then 1 else 0,⟨#[]⟩⟩else if k=3 then⟨3,(zXd s).1,⟨#[]⟩⟩else if k=4 then⟨4,0,bs (zZ4 s)⟩else⟨2,zVS s,⟨#[]⟩⟩
def okS(k:Int)(s:List UInt8):Bool:=if k=1 then decide (s=[84]) || decide (s=[70])else if k=2 then !(s.all (· == 32))else if k=3 then(zXd s).2 else true
theorem yZh(k:Int)(s:List UInt8):zZ2 (zZs k s).kind/\zZ2 (zZs k s).n:=by
 have h1:=yWr s
 have h2:=yX7 s
 unfold zZs zZ2
 split
 ·dsimp only
  split <;> omega
 ·split
  ·dsimp only;omega
  ·split
   ·dsimp only;omega
   ·dsimp only;omega
theorem zYM:∀{l:List UInt8} {a:Nat} {d:UInt8},(∀b ∈ l,zXZ b=true)->zXZ d=true->zXT a (l ++ [d])=min (10 * zXT a l+(d.toNat - 48)) 1000000000000000
 | [],a,d,_,hd=>by simp[zXT,hd]
 | b :: l,a,d,hl,hd=>by
  rw[List.cons_append,zXT,hl b (by simp),if_pos rfl,zYM (λx hx=>hl x (by simp[hx])) hd,zXT,hl b (by simp),if_pos rfl]
theorem zVd(n:Nat):∀b ∈ zZq n,zXZ b=true:=λb hb=>by
 have:=zJ9 n b hb
 unfold zXZ;simp;omega
theorem zYJ{n:Nat}(h:n<10):zXZ (UInt8.ofNat (48+n))=true/\(UInt8.ofNat (48+n)).toNat - 48=n:=by
 have e:(UInt8.ofNat (48+n)).toNat=48+n:=by simp;omega
 exact⟨by unfold zXZ;simp only[e];simp;omega,by omega⟩
theorem zY7:∀n:Nat,n<=1000000000000000->zXT 0 (zZq n)=n:=by
 intro n
 induction n using Nat.strongRecOn with
 | _ n ih=>
  intro hn
  by_cases h:n<10
  ·rw[zZi h]
   obtain⟨h1,h2⟩:=zYJ h
   rw[zXT,h1,if_pos rfl,zXT,h2];omega
  ·rw[zZ3 h]
   obtain⟨h1,h2⟩:=zYJ (n:=n % 10) (by omega)
   rw[zYM (zVd _) h1,h2,ih (n / 10) (by omega) (by omega)];omega
theorem zVz(l:List UInt8):∀j:Nat,zXT 0 (List.replicate j 48 ++ l)=zXT 0 l
 | 0=>rfl
 | j+1=>by
  rw[List.replicate_succ,List.cons_append,zXT]
  rw[show zXZ 48=true by decide,if_pos rfl]
  exact zVz l j
theorem zYf(k n:Nat)(h:n<=1000000000000000):zXT 0 (zZV k n)=n:=by unfold zZV;rw[zVz,zY7 n h]
theorem zWS(k n:Nat):∀b ∈ zZV k n,zXZ b=true:=λb hb=>by
 unfold zZV at hb
 rcases List.mem_append.1 hb with h|h
 ·rw[List.eq_of_mem_replicate h];decide
 ·exact zVd n b h
theorem zZT(l:List UInt8):∀j:Nat,(List.replicate j 32 ++ l).dropWhile (· == 32)=l.dropWhile (· == 32)
 | 0=>rfl
 | j+1=>by rw[List.replicate_succ,List.cons_append,List.dropWhile_cons];simp only[beq_self_eq_true,if_true];exact zZT l j
theorem zVb(j:Nat)(l:List UInt8):zVS (List.replicate j 32 ++ l)=zVS l:=by unfold zVS;rw[zZT]
theorem yZw{n:Int}(h:-1000000000000000<=n/\n<=1000000000000000):zVS (zZS n)=n:=by
 unfold zZS
 split
 ·unfold zVS
  rw[List.dropWhile_cons,show((45:UInt8) == 32)=false by decide]
  simp only[Bool.false_eq_true,if_false]
  rw[zXM,if_pos (by decide),zY7 _ (by omega)];omega
 ·rw[zZl (List.all_eq_true.2 λb hb=>zVd _ b hb),zY7 _ (by omega)];omega
theorem zYp{n:Int}(h:0<=n/\n<=3652059):zXd (zJu n)=(n,true):=by
 by_cases h0:n=0
 ·rw[h0,zZM];unfold zXd;rw[if_pos rfl]
 obtain⟨k,rfl⟩:∃k:Nat,n=(k:Int):=⟨n.toNat,by omega⟩
 obtain⟨y,m,d,hD,rfl⟩:=yWI (k:=k) (by omega)
 rw[zJU hD]
 obtain⟨a,b,c⟩:=zWU hD
 have l4:=zX9 a.1
 have l2:=zX9 b.1
 have l2':=zX9 c.1
 have hall:(zZV 4 y ++ zZV 2 m ++ zZV 2 d).all zXZ=true:=List.all_eq_true.2 λx hx=>by
  rcases List.mem_append.1 hx with hx|hx
  ·rcases List.mem_append.1 hx with hx|hx
   ·exact zWS _ _ x hx
   ·exact zWS _ _ x hx
  ·exact zWS _ _ x hx
 have hne:¬(zZV 4 y ++ zZV 2 m ++ zZV 2 d)=List.replicate 8 32:=λe=>by
  rw[e]at hall;revert hall;decide
 unfold zXd
 rw[if_neg hne,if_neg (by rw[zKG hD];simp),if_pos hall]
 have e1:(zZV 4 y ++ zZV 2 m ++ zZV 2 d).take 4=zZV 4 y:=by rw[List.append_assoc,List.take_append_of_le_length (by omega),List.take_of_length_le (by omega)]
 have e2:((zZV 4 y ++ zZV 2 m ++ zZV 2 d).drop 4).take 2=zZV 2 m:=by
  rw[List.append_assoc,List.drop_append_of_le_length (by omega),List.drop_eq_nil_of_le (by omega),List.nil_append,List.take_append_of_le_length (by omega),List.take_of_length_le (by omega)]
 have e3:(zZV 4 y ++ zZV 2 m ++ zZV 2 d).drop 6=zZV 2 d:=by
  rw[List.drop_append,List.drop_eq_nil_of_le (by rw[List.length_append];omega),List.nil_append,List.length_append,l4,l2];rfl
 rw[e1,e2,e3,zYf _ _ (by omega),zYf _ _ (by omega),zYf _ _ (by omega)]
 unfold yXe
 rw[if_pos hD,decide_eq_true hD]
theorem zVa(l:List UInt8):∀j:Nat,zZ4 (l ++ List.replicate j 32)=zZ4 l
 | 0=>by simp
 | j+1=>by rw[List.replicate_succ',←List.append_assoc,yQL,if_pos rfl,zVa l j]
theorem yW8{j:Nat}{n:Int}:((List.replicate j 32 ++ zZS n).all (· == 32))=false:=by
 rw[List.all_append]
 have:(zZS n).all (· == (32:UInt8))=false:=by
  rw[List.all_eq_false]
  unfold zZS
  split
  ·exact⟨45,by simp,by decide⟩
  ·have hp:=zYd n.natAbs
   obtain⟨b,hb⟩:=zXf (l:=zZq n.natAbs) (k:=0) (by omega)
   have hm:=List.mem_of_getElem? hb
   refine⟨b,hm,?_⟩
   have:=zJ9 n.natAbs b hm
   intro h
   have:b=32:=by simpa using h
   subst this
   revert this;simp at *
 rw[this,Bool.and_false]
theorem yZT{f:Fld}{p:Int}{v:Val}(h:zWf f p v)(h0:v.kind ≠ 0):zZs f.kind (zQm f v)=v/\okS f.kind (zQm f v)=true:=by
 cases h with
 | nil hv hn=>rw[hv]at h0;exact absurd rfl h0
 | truth hk hw hv hn=>
  have e:zQm f v=[if v.n=1 then 84 else 70]:=by unfold zQm;rw[if_neg h0,if_pos hk]
  rw[e];unfold zZs okS;rw[if_pos hk,if_pos hk]
  rcases hn with hn|hn
  ·rw[hn];refine⟨?_,by decide⟩;rw[hv,hn];rfl
  ·rw[hn];refine⟨?_,by decide⟩;rw[hv,hn];rfl
 | num hk hw hv hn hl=>
  have e:zQm f v=List.replicate (f.width.toNat - (zZS v.n).length) 32 ++ zZS v.n:=by unfold zQm;rw[if_neg h0,if_neg (by omega),if_neg (by omega),if_neg (by omega),if_neg (by omega)]
  rw[e];unfold zZs okS
  rw[if_neg (by omega),if_neg (by omega),if_neg (by omega),if_neg (by omega),if_pos hk,zVb,yZw hn,yW8]
  exact⟨hv.symm,rfl⟩
 | date hk hw hv hn=>
  have e:zQm f v=zJu v.n:=by unfold zQm;rw[if_neg h0,if_neg (by omega),if_pos hk]
  rw[e];unfold zZs okS
  rw[if_neg (by omega),if_pos hk,if_neg (by omega),if_neg (by omega),if_pos hk,zYp hn]
  exact⟨hv.symm,rfl⟩
 | text hk hw hv hl hb ht=>
  have e:zQm f v=zVG f v:=by unfold zQm;rw[if_neg h0,if_neg (by omega),if_neg (by omega),if_pos hk]
  rw[e];unfold zZs okS zVG
  rw[if_neg (by omega),if_neg (by omega),if_pos hk,if_neg (by omega),if_neg (by omega),if_neg (by omega),zVa,hb,yXS]
  exact⟨hv.symm,rfl⟩
 | memo hk hw hv hn=>
  have e:zVS (zQm f v)=v.n:=by
   unfold zQm
   rw[if_neg h0,if_neg (by omega),if_neg (by omega),if_neg (by omega)]
   by_cases hz:v.n=0
   ·rw[if_pos ⟨hk,hz⟩,hz,hw];decide
   ·rw[if_neg (by simp[hz]),zVb,yZw (by omega)]
  unfold zZs okS
  rw[if_neg (by omega),if_neg (by omega),if_neg (by omega),if_neg (by omega),if_neg (by omega),if_neg (by omega),e]
  exact⟨hv.symm,rfl⟩
theorem xQy(s:ByteArray)(c:UInt8):(s.toList == (⟨#[c]⟩:ByteArray).toList)=decide (s.data.toList=[c]):=by
 rw[zXI]
 exact zZj ⟨λh=>by rw[h],λh=>zQM (by rw[h])⟩
theorem yXw(s:ByteArray)(w:World):Calls prog 181 #[.string s] w λe w'=>e=.returned (.tuple #[zKL (zZs 1 s.data.toList),.bool (okS 1 s.data.toList)])/\Pu w w':=by
 refine yKa _ w _ (alB λw1 aA aD=>zYj rfl s25.symm rfl λw2 ay mB aL=>?_)
 have hlt:w.heap.size<w1.heap.size:=zQ5 aD
 have b1:=ay.blk aD
 rw[xQy,xQy]
 unfold zZs okS
 rw[if_pos rfl,if_pos rfl]
 refine Br.of (λd=>?_) (λd=>⟨_,cl aL 0,_,cl aL 1,_,cl aL 2,Br.of (λd1=>absurd d1 (by rw[d];simp)) (λd1=>zQl b1 s25.symm rfl rfl λw3 be ef oX=>⟨_,cl be 0,_,cl be 1,_,cl be 2,?_,aA.trans ay |>.andNew ef λi hi=>by omega⟩)⟩)
 ·show st1 ((⟨w1.heap.size,0,none⟩:Addr).add 1) _ w2 _
  rw[zQn]
  refine zQw aL (by decide) λw3 mn be=>?_
  have ef:Fr (·=w1.heap.size) w2 w3:=by rw[mn];exact Fr.cell w2 _ _ _
  have b3:=ef.blk b1 (show ¬w.heap.size=w1.heap.size by omega)
  have aC:Pu w w3:=(aA.trans ay).andNew ef λi hi=>by omega
  refine⟨_,cl be 0,_,cl be 1,_,cl be 2,Br.t d (zQl b3 s25.symm rfl rfl λw4 cc fX qm=>⟨_,cl cc 0,_,cl cc 1,_,cl cc 2,?_,aC.andNew fX λi hi=>by omega⟩)⟩
  rw[if_pos (zQs d),d];rfl
 ·rw[if_neg (zQj d),d];simp
theorem yKB(l:List UInt8):(Lib.trimB l 32=[]) ↔ l.all (· == 32)=true:=by
 unfold Lib.trimB Lib.trimLeftB Lib.trimRightB
 rw[zX2,List.all_reverse,zX8,List.all_reverse]
theorem yW3(s:ByteArray)(hs:s.size<=140737488355328)(w:World):Calls prog 183 #[.string s] w λe w'=>e=.returned (.tuple #[zKL (zZs 2 s.data.toList),.bool (okS 2 s.data.toList)])/\Pu w w':=by
 refine yKe _ w _ (alB λw1 aA aD=>(yKG s hs w1).mono ?_)
 rintro e w2 ⟨rfl,ay⟩
 refine⟨_,rfl,(Any.strings_Trim_one Tryz.lays160 s 32 (by decide) w2 (by omega)).mono ?_⟩
 rintro e w3 ⟨rfl,mn⟩
 have aC:Pu w2 w3:=by
  rcases mn with h|h
  ·rw[h];exact Pu.refl _
  ·rw[h];exact Pu.drew _
 refine⟨_,rfl,zQl ((ay.trans aC).blk aD) s25.symm rfl rfl λw4 be ef oX=>⟨_,cl be 0,_,cl be 1,_,cl be 2,?_,(aA.trans (ay.trans aC)).andNew ef λi hi=>by omega⟩⟩
 rw[zXJ]
 have e:decide ((ByteArray.mk (Lib.trimB s.data.toList 32).toArray).size=0)=s.data.toList.all (· == 32):=by
  have h1:((ByteArray.mk (Lib.trimB s.data.toList 32).toArray).size=0) ↔ s.data.toList.all (· == 32)=true:=by
   rw[←yKB];simp[ByteArray.size]
  rw[Bool.eq_iff_iff,decide_eq_true_iff];exact h1
 rw[e];rfl
theorem yJd(s:ByteArray)(hs:s.size<=140737488355328)(w:World):Calls prog 185 #[.string s] w λe w'=>e=.returned (.tuple #[zKL (zZs 3 s.data.toList),.bool (okS 3 s.data.toList)])/\Pu w w':=by
 refine yJI _ w _ (alB λw1 aA aD=>(yWW s hs w1).mono ?_)
 rintro e w2 ⟨rfl,ay⟩
 exact⟨_,_,rfl,zQl (ay.blk aD) s25.symm rfl rfl λw3 be ef oX=>⟨_,cl be 0,_,cl be 1,_,cl be 2,rfl,(aA.trans ay).andNew ef λi hi=>by omega⟩⟩
theorem yJO(s:ByteArray)(hs:s.size<=140737488355328)(w:World):Calls prog 187 #[.string s] w λe w'=>e=.returned (.tuple #[zKL (zZs 4 s.data.toList),.bool (okS 4 s.data.toList)])/\Pu w w':=by
 refine yKq _ w _ (alB λw1 aA aD=>(zW2 s hs w1).mono ?_)
 rintro e w2 ⟨rfl,ay⟩
 exact⟨_,rfl,zQl (ay.blk aD) s25.symm rfl rfl λw3 be ef oX=>⟨_,cl be 0,_,cl be 1,_,cl be 2,rfl,(aA.trans ay).andNew ef λi hi=>by omega⟩⟩
theorem yJb(s:ByteArray)(hs:s.size<=140737488355328)(w:World):Calls prog 189 #[.string s] w λe w'=>e=.returned (.tuple #[zKL (zZs 5 s.data.toList),.bool (okS 5 s.data.toList)])/\Pu w w':=by
 refine yKx _ w _ (alB λw1 aA aD=>(yKG s hs w1).mono ?_)
 rintro e w2 ⟨rfl,ay⟩
 exact⟨_,rfl,zQl (ay.blk aD) s25.symm rfl rfl λw3 be ef oX=>⟨_,cl be 0,_,cl be 1,_,cl be 2,rfl,(aA.trans ay).andNew ef λi hi=>by omega⟩⟩
theorem yVU{f:Fld}(hf:zQo f=true):∃K,zQJ f.kind=some K/\zQt prog K.rd=true/\∀(s:ByteArray),s.size<=140737488355328->∀w,Calls prog K.rd #[.string s] w λe w'=>e=.returned (.tuple #[zKL (zZs f.kind s.data.toList),.bool (okS f.kind s.data.toList)])/\Pu w w':=by
 rcases yXc hf with⟨e,_⟩|⟨e,_⟩|⟨e,_⟩|⟨e,_⟩|⟨e,_⟩
 ·rw[e];exact⟨_,rfl,by kernel_rfl,λs _ w=>yXw s w⟩
 ·rw[e];exact⟨_,rfl,by kernel_rfl,yW3⟩
 ·rw[e];exact⟨_,rfl,by kernel_rfl,yJd⟩
 ·rw[e];exact⟨_,rfl,by kernel_rfl,yJO⟩
 ·rw[e];exact⟨_,rfl,by kernel_rfl,yJb⟩
end Go.Proofs.YtaeecpjhfmcliaaGreatDoor
/- Table: rows that a conversion of a text has made. No condition. -/
namespace Go.Proofs.YtaeecpjhfmcliaaGreatDoor
open Go.Sh Go.RowKit Tryz
def yXd(w0 w:World)(s:SV)(l:List UInt8):Prop:=∃(g:Nat) (cur:Array Value) (fz:Nat × Nat),s.a=some ⟨g,0,none⟩/\w.heap[g]?=some (.cells cur 5 fz)/\cur.size<=fz.1/\s.len=l.length/\s.len<=s.cap/\s.cap<=maxLen/\cur.size=s.cap/\cur.toList.take s.len=l.map u8V/\w0.heap.size<=g
def zKm(w0 w:World)(s:SV)(l:List UInt8):Prop:=yXd w0 w s l∨zQc w0 w s l
theorem zKm.pu{w0 w w':World}{s:SV}{l:List UInt8}(h:zKm w0 w s l)(hp:Pu w w'):zKm w0 w' s l:=by
 rcases h with⟨g,cur,fz,h1,h2,h3⟩|h
 ·exact .inl ⟨g,cur,fz,h1,hp.blk h2,h3⟩
 ·exact .inr (h.pu hp)
theorem zKm.len{w0 w:World}{s:SV}{l:List UInt8}(h:zKm w0 w s l):s.len=l.length:=by
 rcases h with⟨g,cur,fz,h1,h2,h3,h4,_⟩|h
 ·exact h4
 ·exact h.len
theorem yXd.cell {w0 w:World} {s:SV} {l:List UInt8} (h:yXd w0 w s l) {j:Nat} {b:UInt8} (hj:l[j]?=some b):∃a,s.a=some a/\w.cell? (a.add j)=some (u8V b):=by
 obtain⟨g,cur,fz,h1,h2,h3,h4,h5,h6,h7,h8,_⟩:=h
 refine⟨_,h1,?_⟩
 rw[zQn,zQ8 h2,Nat.zero_add]
 have e:(cur.toList.take s.len)[j]?=some (u8V b):=by rw[h8,List.getElem?_map,hj];rfl
 rw[List.getElem?_take]at e
 split at e
 ·simpa using e
 ·cases e
theorem zKm.cell {w0 w:World} {s:SV} {l:List UInt8} (h:zKm w0 w s l) {j:Nat} {b:UInt8} (hj:l[j]?=some b):∃a,s.a=some a/\w.cell? (a.add j)=some (u8V b):=by
 rcases h with h|h
 ·exact h.cell hj
 ·exact h.cell hj
theorem zKm.low{w0 w1 w:World}{s:SV}{l:List UInt8}(h:zKm w1 w s l)(hz:w0.heap.size<=w1.heap.size):zKm w0 w s l:=by
 rcases h with⟨g,cur,fz,h1,h2,h3,h4,h5,h6,h7,h8,h9⟩|h
 ·exact .inl ⟨g,cur,fz,h1,h2,h3,h4,h5,h6,h7,h8,Nat.le_trans hz h9⟩
 ·exact .inr (h.low hz)
theorem yXd.push {w0 w:World} {s:SV} {l:List UInt8} (h:yXd w0 w s l) (hz:w0.heap.size<=w.heap.size) {r:Nat} {b:UInt8} {c:Array Value} (hr:w.heap[r]?=some (.cells c 5)) (hc:c[0]?=some (u8V b)) (hb:l.length<=1000000) :
  ∃(s':SV) (w':World),(Builtin.append_ #[22,22] 22 #[.slice s.a s.len s.cap,.slice (some ⟨r,0,none⟩) 1 1]).run prog w=.ok (.slice s'.a s'.len s'.cap) w'/\zKm w0 w' s' (l ++ [b])/\Fr (· ∈ zQb s) w w':=by
 have hcell:=λ(j:Nat) (x:UInt8) (hj:l[j]?=some x)=>h.cell hj
 obtain⟨g,cur,fz,h1,h2,h3,h4,h5,h6,h7,h8,h9⟩:=h
 have hi:=yJj
 obtain⟨i,i1,i2,i3,i4⟩:=info_parts hi
 have hnews:∀j u,[u8V b][j]?=some u->w.cell? ((⟨r,0,none⟩:Addr).add j)=some u:=λj u hu=>by
  cases j with
  | zero=>simp at hu;subst hu;rw[xX5,zQ8 hr];exact hc
  | succ j=>simp at hu
 have hgl:g<w.heap.size:=zQ5 h2
 by_cases hroom:s.len+1<=s.cap
 ·have hin:s.len<cur.size:=by omega
  have hfro:w.frozen? ⟨g,s.len,none⟩=false:=by
   obtain⟨lo,hi'⟩:=fz
   simp only[World.frozen?,h2,Bool.and_eq_false_iff,decide_eq_false_iff_not]
   left;simp only at h3;omega
  have hcl:w.cell? ⟨g,s.len,none⟩=some cur[s.len]:=by rw[zQ8 h2];simp[hin]
  have hst:(storeCells ⟨g,s.len,none⟩ [u8V b] 0).run prog w=.ok () (w.setCell ⟨g,s.len,none⟩ (u8V b)):=by
   simp only[storeCells,Sem.run_bind,zQn,Nat.add_zero]
   rw[run_store prog w _ _ _ rfl,hcl]
   simp[hfro]
  have hf:=run_firstCells_some (P:=prog) w i.size 1 ⟨r,0,none⟩ 1 1 [u8V b] (by rw[i3];rfl) hnews
  have hrun:(Builtin.append_ #[22,22] 22 #[.slice s.a s.len s.cap,.slice (some ⟨r,0,none⟩) 1 1]).run prog w=.ok (.slice s.a (s.len+1) s.cap) (w.setCell ⟨g,s.len,none⟩ (u8V b)):=by
   rw[h1]
   rw[i3]at hf
   simp[Builtin.append_,run_underlying u37,sizeOf,typeInfo,i1,i3,Builtin.lenOf,hroom,hf,Addr.add_lit,hst]
  refine⟨⟨s.a,s.len+1,s.cap⟩,_,hrun,.inl ⟨g,cur.setIfInBounds s.len (u8V b),fz,h1,zZN h2 _ _,by rw[Array.size_setIfInBounds];exact h3,by simp[h4],hroom,h6,by rw[Array.size_setIfInBounds];exact h7,?_,h9⟩,?_⟩
  ·rw[Array.toList_setIfInBounds,List.map_append,←h8]
   apply List.ext_getElem?
   intro j
   show(List.take (s.len+1) _)[j]?=_
   rw[List.getElem?_take]
   rcases Nat.lt_trichotomy j s.len with hj|hj|hj
   ·rw[if_pos (by omega),List.getElem?_set_ne (by omega),List.getElem?_append_left (by rw[List.length_take,Array.length_toList];omega),List.getElem?_take,if_pos hj]
   ·subst hj
    rw[if_pos (by omega),List.getElem?_set_self (by rw[Array.length_toList];exact hin),List.getElem?_append_right (by rw[List.length_take];omega),List.length_take,Array.length_toList,show s.len - min s.len cur.size=0 by omega];rfl
   ·rw[if_neg (by omega),List.getElem?_eq_none]
    rw[List.length_append,List.length_take,List.length_map,List.length_singleton];omega
  ·have:=Fr.setCell w ⟨g,s.len,none⟩ (u8V b)
   exact⟨this.os,this.tape,this.output,this.size,λk hk hn=>this.block k hk (λe=>hn (by simp[zQb,h1,e]))⟩
 ·have hlen:(l.map u8V).length=s.len * i.size:=by rw[i3,List.length_map];omega
  have holds:∀j u,(l.map u8V)[j]?=some u->w.cell? ((⟨g,0,none⟩:Addr).add j)=some u:=λj u hu=>by
   obtain⟨x,hx,rfl⟩:∃x,l[j]?=some x/\u8V x=u:=by simpa using hu
   obtain⟨a,ha,hca⟩:=hcell j x hx
   rw[h1]at ha;cases ha;exact hca
  have hrun:=run_append_grow (P:=prog) w 22 37 5 i (.int .u8 0) u37 i1 i2 ⟨g,0,none⟩ s.len s.cap (l.map u8V) hlen holds ⟨r,0,none⟩ 1 1 [u8V b] (by rw[i3];rfl) hnews (by omega) (by omega) (growslice_fits (by omega) (by rw[i4];omega))
  have hge:=grownCap_ge w (s.len+1) s.cap 5
  have hcm:grownCap w (s.len+1) s.cap 5<=maxLen:=grownCap_le_maxLen w (s.len+1) s.cap 5 (by unfold maxLen;omega)
  refine⟨⟨some ⟨w.heap.size,0,none⟩,s.len+1,grownCap w (s.len+1) s.cap 5⟩,_,by rw[h1];exact hrun,.inr ⟨⟨by simp[h4],.inr ⟨w.heap.size,_,rfl,heap_alloc_new w.drew _,hge,hcm,?_,?_⟩⟩,λk hk=>by simp[zQb]at hk;omega⟩,?_⟩
  ·simp only[Array.size_append,List.size_toArray,List.length_map,List.length_singleton,size_zeroCells]
   show l.length+1+(grownCap w (s.len+1) s.cap 5 - (s.len+1)) * 1=_
   show l.length+1+(grownCap w (s.len+1) s.cap 5 - (s.len+1)) * 1=grownCap w (s.len+1) s.cap 5 * 1
   omega
  ·simp only[Array.toList_append,List.append_assoc]
   rw[←List.append_assoc,List.map_append]
   have e:(List.map u8V l ++ [u8V b]).length=(s.len+1) * 1:=by simp[h4]
   show List.take ((s.len+1) * 1) _=_
   rw[←e]
   exact List.take_left
  ·exact(Fr.drew w).trans (Fr.alloc w.drew _) λi hi _=>hi
theorem zKm.push {w0 w:World} {s:SV} {l:List UInt8} (h:zKm w0 w s l) (hp:Pu w0 w) {r:Nat} {b:UInt8} {c:Array Value} (hr:w.heap[r]?=some (.cells c 5)) (hc:c[0]?=some (u8V b)) (hb:l.length<=1000000) :
  ∃(s':SV) (w':World),(Builtin.append_ #[22,22] 22 #[.slice s.a s.len s.cap,.slice (some ⟨r,0,none⟩) 1 1]).run prog w=.ok (.slice s'.a s'.len s'.cap) w'/\zKm w0 w' s' (l ++ [b])/\Pu w0 w':=by
 rcases h with h|h
 ·obtain⟨g,cur,fz,h1,_,_,_,_,_,_,_,h9⟩:=id h
  obtain⟨s',w',e,h2,f⟩:=h.push hp.size hr hc hb
  exact⟨s',w',e,h2,hp.andNew f λi hi=>by simp[zQb,h1]at hi;omega⟩
 ·obtain⟨s',w',e,h2,f⟩:=h.one hp.size hr hc (by omega)
  exact⟨s',w',e,.inr h2,hp.andNew f λi hi=>h.2 i hi⟩
end Go.Proofs.YtaeecpjhfmcliaaGreatDoor
/- Table: the reference's header and row. No condition. -/
namespace Go.Proofs.YtaeecpjhfmcliaaGreatDoor
open Go.Sh Go.RowKit Tryz
theorem zQc.cat {w1 w:World} {s m:SV} {l news:List UInt8} (h:zQc w1 w s l) (hp:Pu w1 w) (hl:m.len=news.length) (hn:∀(j:Nat) (b:UInt8),news[j]?=some b->∃a,m.a=some a/\w.cell? (a.add j)=some (u8V b)) (hb:l.length+news.length<=2000000) :
  ∃(s':SV) (w':World),(Builtin.append_ #[22,22] 22 #[.slice s.a s.len s.cap,.slice m.a m.len m.cap]).run prog w=.ok (.slice s'.a s'.len s'.cap) w'/\zQc w1 w' s' (l ++ news)/\Pu w1 w':=by
 obtain⟨s',w',e,h2,f⟩:=h.app hp.size hl hn (by omega)
 exact⟨s',w',e,h2,hp.andNew f λi hi=>h.2 i hi⟩
theorem yWd {w:World} {r:Nat} {c:Array Value} {news:List UInt8} (hr:w.heap[r]?=some (.cells c 5)) (hc:c=(news.map u8V).toArray):∀(j:Nat) (b:UInt8),news[j]?=some b->∃a,(some (⟨r,0,none⟩:Addr))=some a/\w.cell? (a.add j)=some (u8V b):=λj b hj=>by
 refine⟨_,rfl,?_⟩
 rw[cl hr,hc];simp[hj]
end Go.Proofs.YtaeecpjhfmcliaaGreatDoor
