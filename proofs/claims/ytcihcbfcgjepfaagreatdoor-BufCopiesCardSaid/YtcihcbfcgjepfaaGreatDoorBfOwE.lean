import Derived.Test.YtcihcbfcgjepfaaGreatDoorBfOwB
import Derived.Test.YtcihcbfcgjepfaaGreatDoorBfPrB
import Derived.Test.YtcihcbfcgjepfaaGreatDoorShTwentyThree
import Derived.Test.YtcihcbfcgjepfaaGreatDoorBfOwD
/- Table: in which records two tables differ; the law on it. No condition. -/
set_option maxRecDepth 100000
set_option linter.unusedVariables false
set_option linter.unusedSimpArgs false
namespace Go.Proofs.YtcihcbfcgjepfaaGreatDoor
open Go.Sh Go.RowKit Tryz
theorem xQh:zWS prog 38 [.str,.int .i64,.int .i64,.bool]=true:=by kernel_rfl
theorem xJT:prog.eqGuardType prog.depth 38=false:=by kernel_rfl
theorem yKr:zWS prog 28 [.int .i64,.int .i64,.str]=true:=by kernel_rfl
theorem under4:prog.underlying 4=some .bool:=by kernel_rfl
theorem yYP{a b:Fld}(h:zKW a=zKW b):a=b:=by
 obtain⟨a1,a2,a3,a4⟩:=a;obtain⟨b1,b2,b3,b4⟩:=b
 simp[zKW]at h;simp[h]
theorem neFld(x y:Operand)(a b:Fld)(w:World):(eqS .neq 38 x y (yXu a) (yXu b)).run prog w=.ok (.bool (!decide (a=b))) w:=by
 refine yXL (ks:=[.str,.int .i64,.int .i64,.bool]) (xs:=zKW a) (ys:=zKW b) xQh xJT rfl rfl ?_ w
 rw[decide_eq_true_iff]
 exact⟨λh=>by rw[h],yYP⟩
theorem yW7(x y:Operand)(a b:Val)(w:World):(eqS .neq 28 x y (zZh a) (zZh b)).run prog w=.ok (.bool (!decide (a=b))) w:=by
 refine yXL (ks:=[.int .i64,.int .i64,.str]) (xs:=zXJ a) (ys:=zXJ b) yKr yVM rfl rfl ?_ w
 rw[decide_eq_true_iff]
 exact⟨λh=>by rw[h],yZc⟩
structure RdF(w:World)(s:SV)(l:List Fld):Prop where
 len:s.len=l.length
 lim:l.length<=140737488355328
 get:∀i f,l[i]?=some f->∃a,s.a=some a/\w.cell? ((a.add (i * 4)).add 0)=some (.string f.name)/\w.cell? ((a.add (i * 4)).add 1)=some (.int .i64 f.kind)/\w.cell? ((a.add (i * 4)).add 2)=some (.int .i64 f.width)/\w.cell? ((a.add (i * 4)).add 3)=some (.bool f.null)
theorem RdF.pu{w w':World}{s:SV}{l:List Fld}(h:RdF w s l)(hp:Pu w w'):RdF w' s l:=⟨h.len,h.lim,λi v hv=>by
 obtain⟨a,h1,h2,h3,h4,h5⟩:=h.get i v hv
 exact⟨a,h1,hp.cell h2,hp.cell h3,hp.cell h4,hp.cell h5⟩⟩
theorem RdF.of{w:World}{s:SV}{l:List Fld}(h:zXP w s l):RdF w s l:=⟨h.len,by have:=h.lim;have:=h.len;omega,λi v hv=>by
 obtain⟨a,h1,_,_,_,_,h2,h3,h4,h5⟩:=zZ2 h hv
 exact⟨a,h1,h2,h3,h4,h5⟩⟩
theorem zWu {α:Type} {a b:List α} {k:Nat} {x y:α} (hx:a[k]?=some x) (hy:b[k]?=some y) (h:x ≠ y):a ≠ b:=λe=>by
 subst e;rw[hx]at hy;cases hy;exact h rfl
theorem xQk{w:World}{s t:SV}{a b:List Fld}(ha:RdF w s a)(hb:RdF w t b):Calls prog 136 #[.slice s.a s.len s.cap,.slice t.a t.len t.cap] w λe w'=>e=.returned (.bool (decide (a=b)))/\Pu w w':=by
 refine yZU _ _ w _ ?_
 have hla:=ha.len
 have hlb:=hb.len
 have hlim:=ha.lim
 refine Br.of (λd=>⟨by rw[decide_eq_false (λe=>zQ4 d (by rw[hla,hlb,e]))],Pu.refl _⟩) (λd=>?_)
 have hab:a.length=b.length:=by have:=zQu d;omega
 refine zQ1 a.length (λk t w'=>t=(k:Int)/\a.take k=b.take k/\Pu w w') ⟨rfl,by simp,Pu.refl _⟩ ?_
 rintro k J t w2 hk ⟨ht,he,hp⟩ hJ
 obtain rfl:t=(k:Int):=ht
 refine Br.of (λd1=>zQf λw3 am _=>?_) (λd1=>?_)
 ·have ak:k<a.length:=by have:=zQm d1;omega
  obtain⟨x,hx⟩:=zXe ak
  obtain⟨y,hy⟩:=zXe (show k<b.length by omega)
  obtain⟨p,hpa,c0,c1,c2,c3⟩:=((ha.pu hp).pu am).get k x hx
  obtain⟨q,hqa,e0,e1,e2,e3⟩:=((hb.pu hp).pu am).get k y hy
  refine⟨p,hpa,by omega,by omega,_,c0,_,c1,_,c2,_,c3,q,hqa,by omega,by omega,_,e0,_,e1,_,e2,_,e3,_,λw=>neFld _ _ x y w,Br.of (λd2=>⟨?_,hp.trans am⟩) (λd2=>?_)⟩
  ·rw[decide_eq_false (zWu hx hy (by simpa using d2))]
  ·rw[zQd (by omega) (by omega)]
   exact hJ _ _ ak ⟨by omega,zXW he hx hy (by simpa using d2),hp.trans am⟩
 ·have ak:k=a.length:=by have:=zQh d1;omega
  subst ak
  rw[List.take_length,hab,List.take_length]at he
  exact⟨by rw[decide_eq_true he],hp⟩
theorem zY6{w:World}{s t:SV}{a b:List Fld}(ha:RdF w s a)(hb:RdF w t b):Calls prog 59 #[.slice s.a s.len s.cap,.slice t.a t.len t.cap] w λe w'=>e=.returned (.bool (decide (a=b)))/\Pu w w':=by
 refine yWs _ _ w _ ?_
 have hla:=ha.len
 have hlb:=hb.len
 have hlim:=ha.lim
 refine Br.of (λd=>⟨by rw[decide_eq_false (λe=>zQ4 d (by rw[hla,hlb,e]))],Pu.refl _⟩) (λd=>?_)
 have hab:a.length=b.length:=by have:=zQu d;omega
 refine zQ1 a.length (λk t w'=>t=(k:Int)/\a.take k=b.take k/\Pu w w') ⟨rfl,by simp,Pu.refl _⟩ ?_
 rintro k J t w2 hk ⟨ht,he,hp⟩ hJ
 obtain rfl:t=(k:Int):=ht
 refine Br.of (λd1=>zQf λw3 am _=>?_) (λd1=>?_)
 ·have ak:k<a.length:=by have:=zQm d1;omega
  obtain⟨x,hx⟩:=zXe ak
  obtain⟨y,hy⟩:=zXe (show k<b.length by omega)
  obtain⟨p,hpa,c0,c1,c2,c3⟩:=((ha.pu hp).pu am).get k x hx
  obtain⟨q,hqa,e0,e1,e2,e3⟩:=((hb.pu hp).pu am).get k y hy
  refine⟨p,hpa,by omega,by omega,_,c0,_,c1,_,c2,_,c3,q,hqa,by omega,by omega,_,e0,_,e1,_,e2,_,e3,_,λw=>neFld _ _ x y w,Br.of (λd2=>⟨?_,hp.trans am⟩) (λd2=>?_)⟩
  ·rw[decide_eq_false (zWu hx hy (by simpa using d2))]
  ·rw[zQd (by omega) (by omega)]
   exact hJ _ _ ak ⟨by omega,zXW he hx hy (by simpa using d2),hp.trans am⟩
 ·have ak:k=a.length:=by have:=zQh d1;omega
  subst ak
  rw[List.take_length,hab,List.take_length]at he
  exact⟨by rw[decide_eq_true he],hp⟩
theorem yXE{w:World}{s t:SV}{a b:List Val}(ha:RdV w s a)(hb:RdV w t b):Calls prog 137 #[.slice s.a s.len s.cap,.slice t.a t.len t.cap] w λe w'=>e=.returned (.bool (decide (a=b)))/\Pu w w':=by
 refine yJE _ _ w _ ?_
 have hla:=ha.len
 have hlb:=hb.len
 have hlim:=ha.lim
 refine Br.of (λd=>⟨by rw[decide_eq_false (λe=>zQ4 d (by rw[hla,hlb,e]))],Pu.refl _⟩) (λd=>?_)
 have hab:a.length=b.length:=by have:=zQu d;omega
 refine zQ1 a.length (λk t w'=>t=(k:Int)/\a.take k=b.take k/\Pu w w') ⟨rfl,by simp,Pu.refl _⟩ ?_
 rintro k J t w2 hk ⟨ht,he,hp⟩ hJ
 obtain rfl:t=(k:Int):=ht
 refine Br.of (λd1=>zQf λw3 am _=>?_) (λd1=>?_)
 ·have ak:k<a.length:=by have:=zQm d1;omega
  obtain⟨x,hx⟩:=zXe ak
  obtain⟨y,hy⟩:=zXe (show k<b.length by omega)
  obtain⟨p,hpa,c0,c1,c2⟩:=((ha.pu hp).pu am).get k x hx
  obtain⟨q,hqa,e0,e1,e2⟩:=((hb.pu hp).pu am).get k y hy
  refine⟨p,hpa,by omega,by omega,_,c0,_,c1,_,c2,q,hqa,by omega,by omega,_,e0,_,e1,_,e2,_,λw=>yW7 _ _ x y w,Br.of (λd2=>⟨?_,hp.trans am⟩) (λd2=>?_)⟩
  ·rw[decide_eq_false (zWu hx hy (by simpa using d2))]
  ·rw[zQd (by omega) (by omega)]
   exact hJ _ _ ak ⟨by omega,zXW he hx hy (by simpa using d2),hp.trans am⟩
 ·have ak:k=a.length:=by have:=zQh d1;omega
  subst ak
  rw[List.take_length,hab,List.take_length]at he
  exact⟨by rw[decide_eq_true he],hp⟩
def yJN(a b:List Rec)(i:Nat):Bool:=!decide (a[i]?=b[i]?)
def zYR(a b:List Rec)(n:Nat):List Int:=((List.range n).filter (yJN a b)).map λ(i:Nat)=>(i:Int)+1
theorem yYR{a b:List Rec}{n:Nat}(h:yJN a b n=true):zYR a b (n+1)=zYR a b n ++ [(n:Int)+1]:=by
 simp[zYR,List.range_succ,List.filter_append,h]
theorem xJR{a b:List Rec}{n:Nat}(h:yJN a b n=false):zYR a b (n+1)=zYR a b n:=by
 simp[zYR,List.range_succ,List.filter_append,h]
theorem yY3(a b:List Rec)(n:Nat):(zYR a b n).length<=n:=by
 unfold zYR;rw[List.length_map]
 have:=List.length_filter_le (yJN a b) (List.range n)
 simpa using this
def yYl(a b:Tbl):List Int × Int:=if zQQ a ≠ 0 then([],zQQ a)else if zQQ b ≠ 0 then([],zQQ b)else if a.page ≠ b.page∨a.fields ≠ b.fields then([],10)else(zYR a.recs b.recs (max a.recs.length b.recs.length),0)
theorem zY8{t:Tbl}(h:zQQ t=0):zXm t.page=true/\zQW t.fields=0/\t.recs.length<=300/\zXL t.fields t.page t.recs=0:=by
 unfold zQQ at h
 split at h
 ·rename_i h1
  split at h
  ·rename_i h2;exact absurd h h2
  ·rename_i h2
   split at h
   ·cases h
   ·rename_i h3;exact⟨h1,by omega,by omega,h⟩
 ·cases h
theorem zVz{x y:Rec}:(x=y) ↔ (x.gone=y.gone/\x.v=y.v):=by
 obtain⟨a,b⟩:=x;obtain⟨c,d⟩:=y;simp
theorem yXQ{a b:List Rec}{i:Nat}(hm:i<max a.length b.length)(h:a.length<=i∨b.length<=i):yJN a b i=true:=by
 unfold yJN
 rw[Bool.not_eq_true',decide_eq_false_iff_not]
 intro e
 rcases h with h|h
 ·rw[List.getElem?_eq_none h,List.getElem?_eq_getElem (by omega)]at e;cases e
 ·rw[List.getElem?_eq_none (l:=b) h,List.getElem?_eq_getElem (by omega)]at e;cases e
theorem xJu {a b:List Rec} {i:Nat} {x y:Rec} (hx:a[i]?=some x) (hy:b[i]?=some y):yJN a b i=!(decide (x.gone=y.gone) && decide (x.v=y.v)):=by
 unfold yJN
 rw[hx,hy]
 congr 1
 rw[←Bool.decide_and]
 refine zZy ?_
 rw[Option.some_inj,zVz]
theorem zWx {w0 w:World} {s:SV} {a b:List Rec} {k:Nat} (h:zX6 w0 w s (zYR a b k)) (hp:Pu w0 w) (hk:k<1000) {J:SV × Int->World->Prop}
  (hJ:∀(s':SV) w',zX6 w0 w' s' (zYR a b (k+1))->Pu w0 w'->J (s',(k:Int)+1) w') (hd:yJN a b k=true) :
  alE (.cells #[.int .i64 (IntKind.i64.wrap ((k:Int)+1))] 3) w λr w4=>∃fF:SV,∃w5:World,(Builtin.append_ #[43,43] 43 #[.slice s.a s.len s.cap,.slice (some ⟨r,0,none⟩) 1 1]).run prog w4=.ok (.slice fF.a fF.len fF.cap) w5/\J (fF,IntKind.i64.wrap ((k:Int)+1)) w5:=by
 rw[zQd (by omega) (by omega)]
 refine alB λw4 ar aZ=>?_
 have hl:=yY3 a b k
 obtain⟨s',w5,e5,r5,f5⟩:=(h.pu ar).push (hp.trans ar).size aZ (by omega)
 refine⟨s',w5,e5,hJ s' w5 (by rw[yYR hd];exact r5) ?_⟩
 exact(hp.trans ar).andNew f5 λi hi=>h.2 i hi
theorem yVU {w:World} {r:Nat} {t:Tbl} {f q:SV} (h:w.heap[r]?=some (.cells #[.int .i64 t.page,.slice f.a f.len f.cap,.slice q.a q.len q.cap] 25)):w.cell? ((⟨r,0,none⟩:Addr).add 0)=some (.int .i64 t.page)/\w.cell? ((⟨r,0,none⟩:Addr).add 1)=some (.slice f.a f.len f.cap)/\w.cell? ((⟨r,0,none⟩:Addr).add 2)=some (.slice q.a q.len q.cap):=⟨cl h 0,cl h 1,cl h 2⟩
theorem xQb{w:World}{a b:Tbl}{fa ra fb rb:SV}(ha:zJG w a fa ra)(hb:zJG w b fb rb)(la:Lim.ok a.fields)(lb:Lim.ok b.fields):Calls prog 83 #[zY2 a fa ra,zY2 b fb rb] w
  λe w'=>∃q:SV,e=.returned (.tuple #[.slice q.a q.len q.cap,.int .i64 (yYl a b).2])/\zX6 w w' q (yYl a b).1/\Pu w w':=by
 refine yVF _ _ _ _ _ _ w _ (alB λw1 al ay=>alB λw2 aj ag=>?_)
 have aG:=al.trans aj
 have b1:∀{wz},Pu w2 wz->_:=λ{wz} (h:Pu w2 wz)=>yVU (t:=a) (f:=fa) (q:=ra) (h.blk (aj.blk ay))
 have b2:∀{wz},Pu w2 wz->_:=λ{wz} (h:Pu w2 wz)=>yVU (t:=b) (f:=fb) (q:=rb) (h.blk ag)
 refine⟨_,(b1 (Pu.refl _)).1,_,(b1 (Pu.refl _)).2.1,_,(b1 (Pu.refl _)).2.2,(zKB (ha.pu aG) la).mono ?_⟩
 rintro e w3 ⟨rfl,am⟩
 refine⟨_,rfl,Br.of (λd=>⟨⟨none,0,0⟩,by unfold yYl;rw[if_pos (zQ4 d)],by unfold yYl;rw[if_pos (zQ4 d)];exact zX6.nil w w3,aG.trans am⟩) (λd=>?_)⟩
 have va:=zQu d
 refine⟨_,(b2 am).1,_,(b2 am).2.1,_,(b2 am).2.2,(zKB (hb.pu (aG.trans am)) lb).mono ?_⟩
 rintro e w4 ⟨rfl,ar⟩
 have p4:=am.trans ar
 have eA:yYl a b=if zQQ b ≠ 0 then([],zQQ b)else if a.page ≠ b.page∨a.fields ≠ b.fields then([],10)else(zYR a.recs b.recs (max a.recs.length b.recs.length),0):=by unfold yYl;rw[if_neg (by omega)]
 refine⟨_,rfl,Br.of (λd=>⟨⟨none,0,0⟩,by rw[eA,if_pos (zQ4 d)],by rw[eA,if_pos (zQ4 d)];exact zX6.nil w w4,aG.trans p4⟩) (λd=>?_)⟩
 have vb:=zQu d
 rw[if_neg (by omega)]at eA
 have c1:=(b1 p4).1
 have c2:=(b2 p4).1
 rw[zKk]at c1 c2
 refine⟨_,c1,_,c2,Br.of (λd=>⟨⟨none,0,0⟩,by rw[eA,if_pos (.inl (zQ4 d))],by rw[eA,if_pos (.inl (zQ4 d))];exact zX6.nil w w4,aG.trans p4⟩) (λd=>⟨_,(b1 p4).2.1,_,(b2 p4).2.1,?_⟩)⟩
 have hpg:=zQu d
 refine(xQk (RdF.of (ha.fields.pu (aG.trans p4))) (RdF.of (hb.fields.pu (aG.trans p4)))).mono ?_
 rintro e w5 ⟨rfl,aB⟩
 have p5:=p4.trans aB
 refine⟨_,rfl,Br.of (λd=>⟨⟨none,0,0⟩,by rw[eA,if_pos (.inr (by simpa using d))],by rw[eA,if_pos (.inr (by simpa using d))];exact zX6.nil w w5,aG.trans p5⟩) (λd=>⟨_,(b1 p5).2.2,_,(b2 p5).2.2,_,w5,yVH _ _ _ _ _ _,?_⟩)⟩
 rw[if_neg (by rintro(h|h);exact h hpg;exact h (by simpa using d))]at eA
 have hla:=ha.recs.len
 have hlb:=hb.recs.len
 have ma:=(zY8 va).2.2.1
 have mb:=(zY8 vb).2.2.1
 refine zQ1 (max a.recs.length b.recs.length) (λk t w'=>t.2=(k:Int)/\zX6 w2 w' t.1 (zYR a.recs b.recs k)/\Pu w2 w') ⟨rfl,zX6.nil w2 w5,p5⟩ ?_
 rintro k J ⟨t1,t2⟩ w6 hk ⟨ht,hr,hp⟩ hJ
 obtain rfl:t2=(k:Int):=ht
 have hr:zX6 w2 w6 t1 (zYR a.recs b.recs k):=hr
 dsimp only
 refine Br.of (λd1=>zQf λw7 bU _=>?_) (λd1=>?_)
 ·have ak:k<max a.recs.length b.recs.length:=by have:=zQm d1;omega
  have p7:=hp.trans bU
  have vw:=hr.pu bU
  refine⟨_,(b1 p7).2.2,Br.of (λd2=>?_) (λd2=>⟨_,(b2 p7).2.2,Br.of (λd3=>?_) (λd3=>⟨_,(b1 p7).2.2,?_⟩)⟩)⟩
  ·exact zWx vw p7 (by omega) (λs' w' h1 h2=>hJ _ _ ak ⟨by dsimp only;omega,h1,h2⟩) (yXQ ak (.inl (by have:=zQm d2;omega)))
  ·exact zWx vw p7 (by omega) (λs' w' h1 h2=>hJ _ _ ak ⟨by dsimp only;omega,h1,h2⟩) (yXQ ak (.inr (by have:=zQm d3;omega)))
  have d2:=zQh d2
  have d3:=zQh d3
  obtain⟨x,hx⟩:=zXe (show k<a.recs.length by omega)
  obtain⟨y,hy⟩:=zXe (show k<b.recs.length by omega)
  obtain⟨p,sx,hpa,_,vx,x0,x1⟩:=yJf (ha.recs.pu (aG.trans p7)) hx
  obtain⟨q,sy,hqa,_,vy,y0,y1⟩:=yJf (hb.recs.pu (aG.trans p7)) hy
  have x00:=x0
  have y00:=y0
  rw[zKk]at x00 y00
  have hd:=xJu hx hy
  refine⟨p,hpa,by omega,by omega,_,x00,_,(b2 p7).2.2,q,hqa,by omega,by omega,_,y00,_,λw=>yYs under4 _ _ _ _ w,Br.of (λd4=>?_) (λd4=>?_)⟩
  ·exact zWx vw p7 (by omega) (λs' w' h1 h2=>hJ _ _ ak ⟨by dsimp only;omega,h1,h2⟩) (by rw[hd,decide_eq_false (by simpa using d4)];rfl)
  have d4:x.gone=y.gone:=by simpa using d4
  refine⟨_,(b1 p7).2.2,p,hpa,by omega,by omega,_,x1,_,(b2 p7).2.2,q,hqa,by omega,by omega,_,y1,(yXE (RdV.of vx) (RdV.of vy)).mono ?_⟩
  rintro e w8 ⟨rfl,aV⟩
  refine⟨_,rfl,Br.of (λd5=>?_) (λd5=>?_)⟩
  ·exact zWx (vw.pu aV) (p7.trans aV) (by omega) (λs' w' h1 h2=>hJ _ _ ak ⟨by dsimp only;omega,h1,h2⟩) (by rw[hd,decide_eq_true d4];simpa using d5)
  ·show J (t1,IntKind.i64.wrap ((k:Int)+1)) w8
   rw[zQd (by omega) (by omega)]
   refine hJ _ _ ak ⟨by dsimp only;omega,?_,p7.trans aV⟩
   dsimp only
   rw[xJR (by rw[hd,decide_eq_true d4];simpa using d5)]
   exact vw.pu aV
 ·have ak:k=max a.recs.length b.recs.length:=by have:=zQh d1;omega
  subst ak
  exact⟨t1,by rw[eA],by rw[eA];exact hr.low aG.size,aG.trans hp⟩
end Go.Proofs.YtcihcbfcgjepfaaGreatDoor
/- Desks: which changes clash. No condition but those stated. -/
namespace Go.Proofs.YtcihcbfcgjepfaaGreatDoor
open Go.Sh Go.RowKit Tryz
variable {w w' : World} {d d' : zQs} {val : Nat -> List Val} {mu : Int}
theorem yXk(a b c:Bool)(w:World):Calls prog 199 #[.bool a,.bool b,.bool c] w λe w'=>e=.returned (.bool (yQs a b c))/\w'=w:=by
 refine yZZ _ _ _ w _ ?_
 cases a <;> cases b <;> cases c <;> exact⟨rfl,rfl⟩
theorem yZ0(a b c:Val)(w:World):Calls prog 200 #[zZh a,zZh b,zZh c] w λe w'=>e=.returned (.bool (zZK a b c))/\Pu w w':=by
 refine yZy _ _ _ _ _ _ _ _ _ w _ (alB λw1 al ay=>alB λw2 aj ag=>alB λw3 am aH=>?_)
 have q1:=am.blk (aj.blk ay)
 have q2:=am.blk ag
 have hp:=(al.trans aj).trans am
 refine⟨_,cl q1 0,_,cl q1 1,_,cl q1 2,_,cl q2 0,_,cl q2 1,_,cl q2 2,_,w3,yW7 _ _ a b w3,Br.of (λd1=>?_) (λd1=>?_)⟩
 ·refine⟨_,cl aH 0,_,cl aH 1,_,cl aH 2,_,cl q1 0,_,cl q1 1,_,cl q1 2,_,w3,yW7 _ _ c a w3,Br.of (λd2=>?_) (λd2=>?_)⟩
  ·exact⟨_,cl aH 0,_,cl aH 1,_,cl aH 2,_,cl q2 0,_,cl q2 1,_,cl q2 2,_,w3,yW7 _ _ c b w3,by rw[zZK,d1,d2];rfl,hp⟩
  ·exact⟨by rw[zZK,d1,d2];rfl,hp⟩
 ·exact⟨by rw[zZK,d1];rfl,hp⟩
theorem yWx{g1 g2 g3:Bool}{s1 s2 s3:SV}{a b c:List Val}(ha:RdV w s1 a)(hb:RdV w s2 b)(hc:RdV w s3 c)(e1:a.length=b.length)(e2:c.length=b.length) :
  Calls prog 162 #[.agg #[.bool g1,.slice s1.a s1.len s1.cap,.bool g2,.slice s2.a s2.len s2.cap],.agg #[.bool g3,.slice s3.a s3.len s3.cap]] w λe w'=>e=.returned (.bool (zWa (⟨g1,a⟩,⟨g2,b⟩) ⟨g3,c⟩))/\Pu w w':=by
 refine yZr _ _ _ _ _ _ w _ (alB λw1 al ay=>alB λw2 aj ag=>?_)
 have q1:=aj.blk ay
 have hp:=al.trans aj
 refine⟨_,cl0 q1,_,cl q1 2,_,cl0 ag,(yXk g1 g2 g3 w2).mono ?_⟩
 rintro e w3 ⟨rfl,rfl⟩
 refine⟨_,rfl,Br.of (λd0=>?_) (λd0=>?_)⟩
 ·rw[zJh]at d0;cases d0
 refine⟨s2,by rw[zQc,zQc,zQq q1];rfl,?_⟩
 have hla:=ha.len
 have hlb:=hb.len
 have hlc:=hc.len
 have hlim:=hb.lim
 have eR:zWa (⟨g1,a⟩,⟨g2,b⟩) ⟨g3,c⟩=zXS a b c:=by show(yQs g1 g2 g3 || zXS a b c)=_;rw[zJh,Bool.false_or]
 rw[eR]
 refine zQ1 b.length (λk t w'=>t=(k:Int)/\zXS a b c=zXS (a.drop k) (b.drop k) (c.drop k)/\Pu w3 w') ⟨rfl,by simp,Pu.refl _⟩ ?_
 rintro k J t w4 hk ⟨ht,he,ar⟩ hJ
 obtain rfl:t=(k:Int):=ht
 refine Br.of (λd1=>?_) (λd1=>?_)
 ·have ak:k<b.length:=by have:=zQm d1;omega
  obtain⟨x,hx⟩:=zXe ak
  obtain⟨y,hy⟩:=zXe (show k<a.length by omega)
  obtain⟨z,hz⟩:=zXe (show k<c.length by omega)
  obtain⟨p,hpa,c0,c1,c2⟩:=((hb.pu hp).pu ar).get k x hx
  refine⟨p,hpa,by omega,by omega,_,c0,_,c1,_,c2,alB λw5 aB aP=>zQj aP zWp.symm rfl rfl λw6 dx bb _=>zQf λw7 bU _=>?_⟩
  have m8:Pu w4 w6:=aB.andNew bb λi hi=>by rw[show i=w4.heap.size from hi];exact Nat.le_refl _
  have fm:=m8.trans bU
  have gU:=ar.trans fm
  have bQ:=bU.blk dx
  obtain⟨q,hqa,f0,f1,f2⟩:=((ha.pu hp).pu gU).get k y hy
  obtain⟨r,hra,i0,i1,i2⟩:=((hc.pu hp).pu gU).get k z hz
  refine⟨s1,cl (gU.blk q1) 1,q,hqa,by omega,by omega,_,f0,_,f1,_,f2,_,cl bQ 0,_,cl bQ 1,_,cl bQ 2,s3,cl (gU.blk ag) 1,r,hra,by omega,by omega,_,i0,_,i1,_,i2,(yZ0 y x z w7).mono ?_⟩
  rintro e w8 ⟨rfl,aV⟩
  have ed:zXS a b c=(zZK y x z || zXS (a.drop (k+1)) (b.drop (k+1)) (c.drop (k+1))):=by rw[he,zJq hx,zJq hy,zJq hz];rfl
  refine⟨_,rfl,Br.of (λd2=>?_) (λd2=>?_)⟩
  ·exact⟨by rw[ed,d2];rfl,(hp.trans gU).trans aV⟩
  ·rw[zQd (by omega) (by omega)]
   exact hJ _ _ ak ⟨by omega,by rw[ed,d2,Bool.false_or],gU.trans aV⟩
 ·have ak:k=b.length:=by have:=zQh d1;omega
  refine⟨?_,hp.trans ar⟩
  rw[he,List.drop_eq_nil_of_le (show b.length<=k by omega)]
  have:zXS (a.drop k) [] (c.drop k)=false:=by cases a.drop k <;> rfl
  rw[this]
theorem zYV{σ:Dsk}(h:Inv σ){u:Nat}(hu:u<4):xJV ((σ.us u).ch.map Prod.fst)=(keysU σ u).map λ(i:Nat)=>(i:Int)+1:=by
 have tr:∀a b c:Int,decide (a<=b)=true->decide (b<=c)=true->decide (a<=c)=true:=λa b c h k=>by simp at h k ⊢;omega
 have tot:∀a b:Int,(decide (a<=b) || decide (b<=a))=true:=λa b=>by simp;omega
 have pw:((keysU σ u).map λ(i:Nat)=>(i:Int)+1).Pairwise λa b=>decide (a<=b)=true:=by
  refine List.pairwise_map.2 (List.Pairwise.imp (R:=λa b=>a<b) (λ{a b} hab=>by simp;omega) ?_)
  exact(List.pairwise_lt_range).filter _
 have nd2:((keysU σ u).map λ(i:Nat)=>(i:Int)+1).Nodup:=by
  refine List.pairwise_map.2 (List.Pairwise.imp (R:=λa b=>a<b) (λ{a b} hab=>by omega) ?_)
  exact(List.pairwise_lt_range).filter _
 refine List.Perm.eq_of_pairwise (le:=λa b=>decide (a<=b)=true) (λa b _ _ h k=>by simp at h k;omega) (List.pairwise_mergeSort tr tot _) pw ((List.mergeSort_perm _ _).trans ?_)
 refine(List.perm_ext_iff_of_nodup (h.cn u hu) nd2).2 λk=>?_
 constructor
 ·intro hk
  obtain⟨c,hc,rfl⟩:=List.mem_map.1 hk
  have hr:=(h.gc u hu c hc).2
  refine List.mem_map.2 ⟨(c.1 - 1).toNat,List.mem_filter.2 ⟨List.mem_range.2 (by omega),?_⟩,by omega⟩
  rw[show(((c.1 - 1).toNat:Nat):Int)+1=c.1 by omega,AL.get_of_mem (h.cn u hu) (v:=c.2) hc];rfl
 ·intro hk
  obtain⟨i,hi,rfl⟩:=List.mem_map.1 hk
  obtain⟨_,h2⟩:=List.mem_filter.1 hi
  obtain⟨c,hc⟩:=Option.isSome_iff_exists.1 h2
  exact List.mem_map.2 ⟨_,AL.get_mem hc,rfl⟩
theorem yYO{b:Nat}{l:List Chg}(h:zQ3 w zQM chV b l)(k:Int):(Instr.lookup 88 (.map (some b)) (.int .i64 k) false).run prog w=.ok (chV (chG l k)) w:=by
 have:=h.look (P:=prog) (t:=88) (kt:=3) (e:=133) zWJ yJQ (z:=.agg #[.bool false,.slice none 0 0,.bool false,.slice none 0 0]) (Tryz.zeroValue133 w) k false
 rw[show(.int .i64 k:Value)=zQM k from rfl,this]
 unfold chG
 cases AL.get l k <;> rfl
def zXT(σ:Dsk)(u:Nat)(k:Int):Bool:=match AL.get (σ.us u).ch k with
 | some c=>zWa c (recK σ k)
 | none=>false
theorem zVX(σ:Dsk)(u:Nat):(clashK σ u).map (λ(i:Nat)=>(i:Int)+1)=((keysU σ u).map λ(i:Nat)=>(i:Int)+1).filter (zXT σ u):=by
 rw[List.filter_map,keysU,List.filter_filter,clashK]
 congr 1
 refine List.filter_congr λi _=>?_
 show _=(zXT σ u ((i:Int)+1) && _)
 unfold zXT
 cases AL.get (σ.us u).ch ((i:Int)+1) <;> simp
theorem zVL (h:zQg w d 1 val) (hI:Inv (zQa d val)) {u:Nat} (hu:u<4) :
  Calls prog 114 #[d.ptr,.pointer (some (uA d u))] w λe w'=>∃q:SV,e=.returned (.slice q.a q.len q.cap)/\zX6 w w' q ((clashK (zQa d val) u).map λ(i:Nat)=>(i:Int)+1)/\Pu w w':=by
 refine yJo _ _ w _ ⟨some (d.C u),h.uCh hu,?_⟩
 refine zV9 _ w _ (zXz λw1 gj=>?_)
 refine⟨_,rfl,?_⟩
 have vv:=hI.chl hu
 have jM:=hI.rh
 have hrl:=h.rs_len
 have hkeys:=zJH w (d.C u) (d.ch u) (h.mp hu) (by omega)
 rw[←gj]at hkeys
 refine hkeys.mono ?_
 rintro e w2 ⟨q,rfl,hq,hfresh,aj⟩
 have eK:xJV ((d.ch u).map Prod.fst)=(keysU (zQa d val) u).map λ(i:Nat)=>(i:Int)+1:=by
  rw[←zYV hI hu]
  congr 1
  show _=((d.ch u).map (toC val)).map Prod.fst
  rw[List.map_map];rfl
 rw[eK]at hq
 rw[zVX]
 have hmem:∀k ∈ (keysU (zQa d val) u).map (λ(i:Nat)=>(i:Int)+1),∃c,AL.get (d.ch u) k=some c:=λk hk=>by
  obtain⟨i,hi,rfl⟩:=List.mem_map.1 hk
  obtain⟨_,h2⟩:=List.mem_filter.1 hi
  have h2:(AL.get ((d.ch u).map (toC val)) ((i:Int)+1)).isSome=true:=h2
  rw[zXM]at h2
  cases hg:AL.get (d.ch u) ((i:Int)+1)with
  | none=>rw[hg]at h2;cases h2
  | some c=>exact⟨c,rfl⟩
 have hks3:((keysU (zQa d val) u).map λ(i:Nat)=>(i:Int)+1).length<=300:=by
  have h1:=List.length_filter_le (λi:Nat=>(AL.get ((zQa d val).us u).ch ((i:Int)+1)).isSome) (List.range (zQa d val).recs.length)
  have h2:=hI.r300
  rw[List.length_range]at h1
  rw[List.length_map,keysU];omega
 generalize (keysU (zQa d val) u).map (λ(i:Nat)=>(i:Int)+1)=ks at hq hmem hks3
 have hql:q.len=ks.length:=by have:=hq.1;simp at this;omega
 have hqc:=hq.le_cap
 have hm:maxLen=9223372036854775807:=by unfold maxLen;omega
 refine⟨q,rfl,?_⟩
 have hP2:Pu w w2:=aj
 have zq:=hq.lt
 refine zQ1 ks.length (λk t w'=>t.2=(k:Int)/\zX6 w2 w' t.1 ((ks.take k).filter (zXT (zQa d val) u))/\Pu w w'/\Pu w2 w'/\zQl w' 3 1 q (ks.map zQM)) ⟨rfl,zX6.nil _ _,hP2,Pu.refl _,hq⟩ ?_
 rintro k J ⟨t,n⟩ w3 hk ⟨hn,hN,am,qb,hq3⟩ hJ
 obtain rfl:n=(k:Int):=hn
 dsimp only at hN
 refine Br.of (λd1=>?_) (λd1=>?_)
 ·have ak:k<ks.length:=by have:=zQm d1;omega
  obtain⟨x,hx⟩:=zXe ak
  obtain⟨a,ha,hc,hab⟩:=hq3.cell (j:=k) (v:=zQM x) (by simp[hx])
  refine⟨a,ha,by omega,by omega,x,by rw[zQI,Nat.mul_one];exact hc,zQf λw4 ar _=>?_⟩
  have h4:=(h.pu am).pu ar
  obtain⟨c,hcx⟩:=hmem x (List.mem_of_getElem? hx)
  have eG:chG (d.ch u) x=c:=by rw[chG,hcx];rfl
  have mc:=zXA hu (AL.get_mem hcx)
  have hxr:=(hI.gc u hu (toC val (x,c)) (List.mem_map.2 ⟨_,AL.get_mem hcx,rfl⟩)).2
  have hxr:1<=x/\x<=d.rh.length:=by simpa[toC,zQa] using hxr
  have hlt:(x - 1).toNat<d.rh.length:=by omega
  obtain⟨y,hy⟩:=zXe hlt
  obtain⟨b,eb,_,g0⟩:=h4.bd.rw_.elem zQk hy (o:=0) (v:=.bool y.g) rfl
  obtain⟨b',eb',_,g1⟩:=h4.bd.rw_.elem zQk hy (o:=1) (v:=.slice y.s.a y.s.len y.s.cap) rfl
  rw[eb]at eb';cases eb'
  have r1:=h4.read hI (x:=c.1) mc.1
  have r2:=h4.read hI (x:=c.2) mc.2
  have r3:=h4.read hI (zQJ (List.mem_of_getElem? hy))
  refine⟨some (d.C u),h4.uCh hu,_,c.1.s,_,c.2.s,by rw[←eG];exact yYO (h4.mp hu) x,d.rs,h4.recs,b,eb,?_⟩
  rw[zQd (n:=x - 1) (by omega) (by omega)]
  refine⟨by omega,by omega,y.g,g0,y.s,g1,?_⟩
  rw[eG]
  refine(yWx r1.1 r2.1 r3.1 (r1.2.trans r2.2.symm) (r3.2.trans r2.2.symm)).mono ?_
  rintro e w7 ⟨rfl,bU⟩
  have eP:zWa (⟨c.1.g,hv val c.1⟩,⟨c.2.g,hv val c.2⟩) ⟨y.g,hv val y⟩=zXT (zQa d val) u x:=by
   unfold zXT
   have e1:AL.get ((zQa d val).us u).ch x=some (toR val c.1,toR val c.2):=by
    show AL.get ((d.ch u).map (toC val)) x=_
    rw[zXM,hcx];rfl
   have e2:recK (zQa d val) x=toR val y:=by
    unfold recK
    show(d.rh.map (toR val)).getD _ _=_
    rw[List.getD_eq_getElem?_getD,List.getElem?_map,hy];rfl
   rw[e1,e2];rfl
  have wg:=ar.trans bU
  have gI:=am.trans wg
  have gU:=qb.trans wg
  have uM:=hN.pu wg
  have hq7:=hq3.pu wg
  rw[eP]
  refine⟨_,rfl,Br.of (λd2=>alB λw8 aV dz=>?_) (λd2=>?_)⟩
  ·have hks2:((ks.take k).filter (zXT (zQa d val) u)).length<=1000000:=by
    have h1:=List.length_filter_le (zXT (zQa d val) u) (ks.take k)
    have h3:=List.length_take_le k ks
    omega
   obtain⟨t',w9,hra,hN9,jX⟩:=(uM.pu aV).push (gU.trans aV).size dz hks2
   refine⟨t',w9,hra,?_⟩
   rw[zQd (by omega) (by omega)]
   have hp89:=(gI.trans aV).andNew jX λi hi=>by have:=hN.2 i hi;have:=hP2.size;omega
   have hp289:=(gU.trans aV).andNew jX λi hi=>hN.2 i hi
   refine hJ _ _ ak ⟨by simp,?_,hp89,hp289,(hq7.pu aV).fr jX λb hb ag=>?_⟩
   ·rw[zQP hx,List.filter_append]
    simpa[d2] using hN9
   ·have h1:=hN.2 b ag
    have h2:=zq b hb
    omega
  ·rw[zQd (by omega) (by omega)]
   refine hJ _ _ ak ⟨by simp,?_,gI,gU,hq7⟩
   rw[zQP hx,List.filter_append]
   simpa[d2] using uM
 ·have ak:k=ks.length:=by have:=zQh d1;omega
  subst ak
  rw[List.take_length]at hN
  exact⟨t,rfl,hN.low hP2.size,am⟩
end Go.Proofs.YtcihcbfcgjepfaaGreatDoor
/- Desks: Changed, Clashes, Table. No condition but those stated. -/
namespace Go.Proofs.YtcihcbfcgjepfaaGreatDoor
open Go.Sh Go.RowKit Tryz
variable {w w' : World} {d d' : zQs} {val : Nat -> List Val} {mu : Int}
theorem zX6.fr{w0:World}{B:Nat->Prop}{s:SV}{l:List Int}(h:zX6 w0 w s l)(hf:Fr B w w')(hn:∀b ∈ zQb s,¬B b):zX6 w0 w' s l:=⟨h.1.fr hf hn,h.2⟩
theorem zX6.notS{w0:World}{s:SV}{l:List Int}(h:zX6 w0 w s l)(hd:zQE w0 d val):∀b ∈ zQb s,¬b=d.S:=λb hb e=>by
 have h1:=h.2 b hb
 have h2:=hd.out h1
 rw[e,hd.oS]at h2;cases h2
theorem yV8 (h:zQg w d 0 val) (hI:Inv (zQa d val)) (u:Int) :
  Calls prog 78 #[d.ptr,.int .i64 u] w λe w'=>∃q:SV,e=.returned (.tuple #[.slice q.a q.len q.cap,.int .i64 (uC u)])/\zX6 w w' q (clashesL u (zQa d val))/\zQB w w' d d 0 val:=by
 refine yWM _ u w _ ((zQU h (Pu.refl w) u).mono ?_)
 rintro e w2 ⟨rfl,h2,dh,fC⟩
 refine⟨_,_,_,rfl,Br.of (λc=>?_) (λc=>?_)⟩
 ·have hu:=zJZ c
  exact h2.left λw' hL _ _=>⟨⟨none,0,0⟩,rfl,by rw[clashesL,if_neg hu];exact zX6.nil _ _,hL⟩
 have hu:=zKs c
 obtain⟨n,rfl,hn⟩:=zQY hu
 rw[zWf hn]
 refine(zVL h2.at_ hI hn).mono ?_
 rintro e w3 ⟨q,rfl,hq,am⟩
 have hq0:zX6 w w3 q _:=hq.low (by omega)
 refine⟨q,rfl,(h2.pu am).left λw' hL hf _=>⟨q,by rw[show uC (n:Int)=0 by rw[uC,if_pos hu]],?_,hL⟩⟩
 rw[clashesL,if_pos hu,zQI]
 exact hq0.fr hf (hq0.notS h.bd)
theorem yVg (h:zQg w d 0 val) (hI:Inv (zQa d val)) (u:Int) :
  Calls prog 76 #[d.ptr,.int .i64 u] w λe w'=>∃q:SV,e=.returned (.tuple #[.slice q.a q.len q.cap,.int .i64 (uC u)])/\zX6 w w' q (changedL u (zQa d val))/\zQB w w' d d 0 val:=by
 refine yVi _ u w _ ((zQU h (Pu.refl w) u).mono ?_)
 rintro e w2 ⟨rfl,h2,dh,fC⟩
 refine⟨_,_,_,rfl,Br.of (λc=>?_) (λc=>?_)⟩
 ·have hu:=zJZ c
  exact h2.left λw' hL _ _=>⟨⟨none,0,0⟩,rfl,by rw[changedL,if_neg hu];exact zX6.nil _ _,hL⟩
 have hu:=zKs c
 obtain⟨n,rfl,hn⟩:=zQY hu
 rw[zWf hn]
 have vv:=hI.chl hn
 have fG:=hI.ah hn
 have hal:=h.as_len hn
 refine⟨some (d.C n),h2.at_.uCh hn,?_⟩
 refine zV9 _ w2 _ (zXz λw3 hw3=>?_)
 have hkeys:=zJH w2 (d.C n) (d.ch n) (h2.at_.mp hn) (by omega)
 rw[←hw3]at hkeys
 refine⟨_,rfl,hkeys.mono ?_⟩
 rintro e w4 ⟨q,rfl,hq,hfresh,ar⟩
 have eK:xJV ((d.ch n).map Prod.fst)=(keysU (zQa d val) n).map λ(i:Nat)=>(i:Int)+1:=by
  rw[←zYV hI hn]
  congr 1
  show _=((d.ch n).map (toC val)).map Prod.fst
  rw[List.map_map];rfl
 have hks3:((keysU (zQa d val) n).map λ(i:Nat)=>(i:Int)+1).length<=300:=by
  have h1:=List.length_filter_le (λi:Nat=>(AL.get ((zQa d val).us n).ch ((i:Int)+1)).isSome) (List.range (zQa d val).recs.length)
  have h2:=hI.r300
  rw[List.length_range]at h1
  rw[List.length_map,keysU];omega
 rw[eK]at hq
 have hN0:zX6 w w4 q _:=⟨hq,λb hb=>by have:=hfresh b hb;omega⟩
 refine⟨q,rfl,d.asv n,(h2.pu ar).at_.uAp hn,?_⟩
 have eL:changedL (n:Int) (zQa d val)=(keysU (zQa d val) n).map (λ(i:Nat)=>(i:Int)+1) ++ (List.range (d.ah n).length).map (λ(i:Nat)=>-(i:Int) - 1):=by
  rw[changedL,if_pos hu,zQI,zXr]
 rw[eL]
 refine zQ1 (d.ah n).length (λk t w'=>t.2=(k:Int)/\zX6 w w' t.1 ((keysU (zQa d val) n).map (λ(i:Nat)=>(i:Int)+1) ++ (List.range k).map (λ(i:Nat)=>-(i:Int) - 1))/\yQ4 w w' d val) ⟨rfl,by simpa using hN0,h2.pu ar⟩ ?_
 rintro k J ⟨t,m⟩ w5 hk ⟨hm,hN,h5⟩ hJ
 obtain rfl:m=(k:Int):=hm
 dsimp only at hN
 refine Br.of (λd1=>alB λw6 bx dx=>?_) (λd1=>?_)
 ·have ak:k<(d.ah n).length:=by have:=zQm d1;omega
  rw[zQd (n:=0 - (k:Int)) (by omega) (by omega),zQd (n:=0 - (k:Int) - 1) (by omega) (by omega)]at dx
  have zz:w.heap.size<=w6.heap.size:=by have:=h5.fr.size;have:=bx.size;omega
  obtain⟨t',w7,hra,uM,dg⟩:=(hN.pu bx).push zz dx (by simp;simp at hks3;omega)
  refine⟨t',w7,hra,?_⟩
  rw[zQd (by omega) (by omega)]
  have h6:=h5.pu bx
  have hnot:∀b ∈ zQb t,d.o b=none:=λb hb=>h.bd.out (hN.2 b hb)
  refine hJ _ _ ak ⟨by simp,?_,⟨h6.at_.fr dg λb hb ag=>hb (hnot b ag),h6.fr.trans dg λi hi hlt=>by have:=hN.2 i hi;omega⟩⟩
  rw[List.range_succ,List.map_append,←List.append_assoc]
  have e:(0 - (k:Int) - 1)=-(k:Int) - 1:=by omega
  rw[e]at uM
  exact uM
 ·have ak:k=(d.ah n).length:=by have:=zQh d1;omega
  subst ak
  exact h5.left λw' hL hf _=>⟨t,by rw[show uC (n:Int)=0 by rw[uC,if_pos hu]],hN.fr hf (hN.notS h.bd),hL⟩
structure RdT(w:World)(t:Tbl)(f r:SV):Prop where
 fl:RdF w f t.fields
 rc:zXQ w r t.recs
theorem RdT.pu{t:Tbl}{f r:SV}(h:RdT w t f r)(hp:Pu w w'):RdT w' t f r:=⟨h.fl.pu hp,h.rc.pu hp⟩
theorem yQF {s:SV} {l:List Fld} (h:zQl w 38 4 s (l.flatMap zKW)) (hn:l.length<=1000000):RdF w s l:=by
 refine⟨h.len zZx (by decide),by omega,λi f hf=>?_⟩
 obtain⟨a,ha,_,h0⟩:=h.elem zZx hf (o:=0) rfl
 obtain⟨a1,dm,_,h1⟩:=h.elem zZx hf (o:=1) rfl
 obtain⟨a2,wy,_,h2⟩:=h.elem zZx hf (o:=2) rfl
 obtain⟨a3,fG,_,h3⟩:=h.elem zZx hf (o:=3) rfl
 rw[ha]at dm wy fG;cases dm;cases wy;cases fG
 exact⟨a,ha,h0,h1,h2,h3⟩
theorem zQK.at_:∀{hs:List zQx} {rs:List Rec} {i:Nat} {r:Rec},zQK w hs rs->rs[i]?=some r->∃x,hs[i]?=some x/\x.g=r.gone/\zQl w 28 3 x.s (r.v.flatMap zXJ)
 | [],[],i,r,_,hr=>by simp at hr
 | x :: hs,y :: rs,0,r,⟨h1,_⟩,hr=>by simp at hr;subst hr;exact⟨x,rfl,h1⟩
 | x :: hs,y :: rs,i+1,r,⟨_,h2⟩,hr=>by
  obtain⟨z,hz,h3⟩:=zQK.at_ h2 (by simpa using hr)
  exact⟨z,by simpa using hz,h3⟩
theorem yVh {q:SV} {hs:List zQx} {rs:List Rec} (hrow:zQl w 77 2 q (hs.flatMap zJR)) (hr:zQK w hs rs) (hv:∀r ∈ rs,r.v.length<=1000000):zXQ w q rs:=by
 refine⟨(hrow.len zQk (by decide)).trans hr.len,λi r hi=>?_⟩
 obtain⟨x,hx,hg,hrx⟩:=hr.at_ hi
 obtain⟨a,ha,_,h0⟩:=hrow.elem zQk hx (o:=0) rfl
 obtain⟨a1,dm,_,h1⟩:=hrow.elem zQk hx (o:=1) rfl
 rw[ha]at dm;cases dm
 exact⟨a,x.s,ha,by rw[←hg];exact h0,h1,zZ8.rd (w0:={ w with heap:=#[] }) ⟨hrx,λ_ _=>Nat.zero_le _⟩ (by have:=hv r (List.mem_of_getElem? hi);omega)⟩
theorem zQg.rdR (h:zQg w d mu val) (hI:Inv (zQa d val)):zXQ w d.rs (zQa d val).recs:=by
 refine⟨by rw[h.rs_len];simp[zQa],λi r hr=>?_⟩
 have hr:(d.rh.map (toR val))[i]?=some r:=hr
 rw[List.getElem?_map]at hr
 obtain⟨x,hx,rfl⟩:=Option.map_eq_some_iff.1 hr
 obtain⟨a,ha,_,h0⟩:=h.bd.rw_.elem zQk hx (o:=0) rfl
 obtain⟨a1,dm,_,h1⟩:=h.bd.rw_.elem zQk hx (o:=1) rfl
 rw[ha]at dm;cases dm
 exact⟨a,x.s,ha,h0,h1,(h.read hI (zQJ (List.mem_of_getElem? hx))).1⟩
theorem xJi:zX1 prog 25=3:=by kernel_rfl
theorem yZo (h:zQg w d 0 val) (hI:Inv (zQa d val)) :
  Calls prog 24 #[d.ptr] w λe w'=>∃(f r:SV) (hs:List zQx),e=.returned (zY2 (zQa d val).tbl f r)/\zQl w' 38 4 f (d.flds.flatMap zKW)/\(∀b ∈ zQb f,w.heap.size<=b)/\zXb w w' r hs (zQa d val).recs/\zQB w w' d d 0 val/\Fr (·=d.S) w w':=by
 refine yKp _ w _ (alB λw1 al ay=>(zQU h al 0).mono ?_)
 rintro e w2 ⟨rfl,h2,dh,fC⟩
 have z1:=al.size
 have lr:w.heap.size<w1.heap.size:=zQy ay
 have ho:d.o w.heap.size=none:=h.bd.out (Nat.le_refl _)
 have nS:¬w.heap.size=d.S:=λe=>by rw[e,h.bd.oS]at ho;cases ho
 have ag:=dh.blk ay nS
 have jM:=hI.r300
 have dA:d.flds.length<=16:=hI.f16
 refine⟨_,_,_,rfl,?_⟩
 refine⟨d.page,by rw[zKk];exact h2.at_.page,d.fs,h2.at_.flds,d.rs,h2.at_.recs,alB λw6 bx dx=>zQj dx xJi.symm rfl rfl λw7 bQ dg _=>zQf λw8 aV _=>?_⟩
 have gU:Pu w2 w7:=bx.andNew dg λi hi=>by rw[show i=w2.heap.size from hi];exact Nat.le_refl _
 have rO:=gU.trans aV
 have dz:=aV.blk bQ
 have h8:=h2.pu rO
 refine⟨λy=>Pu w8 y,Pu.refl _,d.fs,λy hy=>cl (hy.blk dz) 1,d.rs,λy hy=>cl (hy.blk dz) 2,(yZd (h8.at_.fld hI.vf) (by omega)).mono ?_⟩
 rintro e w9 ⟨qf,rfl,hqf,hqn,bR⟩
 have h9:=h8.pu bR
 refine⟨qf,rfl,bR,(zJN (h9.at_.rdR hI) (by omega) λr hr=>by have h1:=zQ2 (hI.gr r hr);have e:(zQa d val).flds.length=d.flds.length:=rfl;omega).mono ?_⟩
 rintro e au ⟨qr,hs,rfl,hN,cZ⟩
 have qa:=cZ.blk (bR.blk dz)
 have z2:=h2.fr.size
 have zp:w2.heap.size<=w8.heap.size:=rO.size
 have z6:w2.heap.size<w6.heap.size:=zQy dx
 have z7:=dg.size
 have z8:=aV.size
 have z9:=bR.size
 refine⟨qr,rfl,?_⟩
 rw[zQc]
 refine zQt qa (by show 0+1<3;omega) λav gJ bK=>?_
 rw[zQc]
 refine zQt bK (by show 0+2<3;omega) λao jQ bL=>?_
 have cQ:Fr (·=w2.heap.size) au ao:=by
  refine(show Fr (·=w2.heap.size) au av by rw[gJ];exact Fr.cell au _ _ _).trans (show Fr (·=w2.heap.size) av ao by rw[jQ];exact Fr.cell av _ _ _) λi hi _=>hi
 have n7:∀{b:Nat},w8.heap.size<=b->¬b=w2.heap.size:=λ{b} hb e=>by omega
 refine⟨_,cl bL 0,qf,cl bL 1,qr,cl bL 2,zQj (((rO.trans bR).trans cZ).andNew cQ (λi hi=>by rw[show i=w2.heap.size from hi];exact Nat.le_refl _) |>.blk ag) xJi.symm rfl rfl λaE jR dp _=>?_⟩
 have jN:Pu w2 ao:=((rO.trans bR).trans cZ).andNew cQ λi hi=>by rw[show i=w2.heap.size from hi];exact Nat.le_refl _
 have qY:=h2.pu jN
 have h13:yQ4 w aE d val:=⟨qY.at_.fr dp λb hb e=>hb (by rw[show b=w.heap.size from e];exact ho),qY.fr.trans dp λi hi hlt=>by have hi:i=w.heap.size:=hi;omega⟩
 have hvb:∀b ∈ vB hs,w9.heap.size<=b:=λb hb=>(hN.vnew b hb).1
 refine h13.left λaI hL pt _=>?_
 have hS14:Fr (·=d.S) w aI:=((((Fr.pu al:Fr (·=d.S) w w1).trans dh λi hi _=>hi).trans (Fr.pu jN:Fr (·=d.S) w2 ao) λi hi _=>hi).trans dp λi hi hlt=>by have hi:i=w.heap.size:=hi;omega).trans pt λi hi _=>hi
 have gH:=pt.blk jR nS
 have nS2:∀{b:Nat},w8.heap.size<=b->¬b=d.S:=λ{b} hb e=>by have:=h8.at_.bd.out hb;rw[e,h.bd.oS]at this;cases this
 refine⟨_,cl gH 0,qf,cl gH 1,qr,cl gH 2,qf,qr,hs,rfl,?_,λb hb=>?_,⟨?_,λb hb=>?_,?_,λb hb=>⟨?_,(hN.vnew b hb).2⟩,hN.nd⟩,hL,hS14⟩
 ·exact(((hqf.pu cZ).fr cQ λb hb=>n7 (hqn b hb)).fr dp λb hb e=>by have:=hqn b hb;have e:b=w.heap.size:=e;omega).fr pt λb hb=>nS2 (hqn b hb)
 ·have:=hqn b hb;omega
 ·exact((hN.row.fr cQ λb hb=>n7 (by have:=hN.new b hb;omega)).fr dp λb hb e=>by have:=hN.new b hb;have e:b=w.heap.size:=e;omega).fr pt λb hb=>nS2 (by have:=hN.new b hb;omega)
 ·have:=hN.new b hb;omega
 ·exact((hN.recs.fr cQ λb hb=>n7 (by have:=hvb b hb;omega)).fr dp λb hb e=>by have:=hvb b hb;have e:b=w.heap.size:=e;omega).fr pt λb hb=>nS2 (by have:=hvb b hb;omega)
 ·have:=hvb b hb;omega
theorem xJO (h:zQg w d 0 val) (hI:Inv (zQa d val)) :
  Calls prog 24 #[d.ptr] w λe w'=>∃f r:SV,e=.returned (zY2 (zQa d val).tbl f r)/\RdT w' (zQa d val).tbl f r/\zQB w w' d d 0 val/\Fr (·=d.S) w w':=by
 refine(yZo h hI).mono ?_
 rintro e w' ⟨f,r,hs,rfl,h1,-,h3,h4,h5⟩
 have dA:d.flds.length<=16:=hI.f16
 exact⟨f,r,rfl,⟨yQF h1 (by show d.flds.length<=_;omega),yVh h3.row h3.recs λr hr=>by have h1:=zQ2 (hI.gr r hr);have e:(zQa d val).flds.length=d.flds.length:=rfl;omega⟩,h4,h5⟩
theorem yKg {mu0:Int} (h:zQg w d mu0 val) (h':zQg w' d mu0 val) (hf:Fr (·=d.S) w w'):Pu w w':=
 ⟨hf.os,hf.tape,hf.output,hf.size,λi hi=>by
  by_cases e:i=d.S
  ·rw[e,h.st,h'.st]
  ·exact hf.block i hi e⟩
end Go.Proofs.YtcihcbfcgjepfaaGreatDoor
/- Desks: a change written into a record. No condition but those stated. -/
namespace Go.Proofs.YtcihcbfcgjepfaaGreatDoor
open Go.Sh Go.RowKit Tryz
variable {w w' : World} {d d' : zQs} {val : Nat -> List Val} {mu : Int}
theorem mix0(b l:List Val):zJc [] b l=l:=by cases b <;> cases l <;> rfl
theorem yQT:∀{a b l:List Val} {k:Nat},(zJc (a.take k) (b.take k) l)[k]?=l[k]?
 | [],b,l,k=>by cases l <;> simp[zJc]
 | x :: a,[],l,k=>by cases k <;> cases l <;> simp[zJc]
 | x :: a,y :: b,[],k=>by cases k <;> simp[zJc]
 | x :: a,y :: b,z :: l,0=>by simp[zJc]
 | x :: a,y :: b,z :: l,k+1=>by
  simp only[List.take_succ_cons,zJc,List.getElem?_cons_succ]
  exact yQT
theorem zKw:∀{a b l:List Val} {k:Nat} {x y z:Val},a[k]?=some x->b[k]?=some y->l[k]?=some z->zJc (a.take (k+1)) (b.take (k+1)) l=(zJc (a.take k) (b.take k) l).set k (if x=y then z else y)
 | [],b,l,k,x,y,z,h,_,_=>by simp at h
 | _ :: a,[],l,k,x,y,z,_,h,_=>by simp at h
 | _ :: a,_ :: b,[],k,x,y,z,_,_,h=>by simp at h
 | p :: a,q :: b,r :: l,0,x,y,z,h1,h2,h3=>by
  simp at h1 h2 h3;subst h1;subst h2;subst h3
  simp[zJc]
 | p :: a,q :: b,r :: l,k+1,x,y,z,h1,h2,h3=>by
  simp only[List.take_succ_cons,zJc,List.set_cons_succ]
  rw[zKw (by simpa using h1) (by simpa using h2) (by simpa using h3)]
theorem zKd{α:Type}:∀{l:List α} {k:Nat} {x:α},l[k]?=some x->l.set k x=l
 | [],k,x,h=>by simp at h
 | y :: l,0,x,h=>by simp at h;simp[h]
 | y :: l,k+1,x,h=>by rw[List.set_cons_succ,zKd (by simpa using h)]
theorem yVv{α:Type}(f:α->α)(b:α):∀(l:List α) (k:Nat),(l.set k b).modify k f=l.set k (f b)
 | [],k=>by simp
 | y :: l,0=>rfl
 | y :: l,k+1=>by rw[List.set_cons_succ,List.modify_succ_cons,yVv,List.set_cons_succ]
theorem zWw{u:Nat}{rh':List zQx}:d.gen u d.o d.rs rh' (d.asv u) (d.ah u) (d.cs u) (d.ch u) (d.C u)={ d with rh:=rh' }:=by
 have e:∀{α:Type} (f:Nat->α),(λv=>if v=u then f u else f v)=f:=λf=>by funext v;by_cases e:v=u <;> simp[e]
 simp only[zQs.gen,e]
abbrev RV(d:zQs):Nat->Prop:=λb=>d.o b=some .R∨d.o b=some .V
theorem setRh (h:zQg w d 1 val) {i:Nat} {x y:zQx} (hx:d.rh[i]?=some x) (hs:x.s=y.s) (hf:Fr (· ∈ zQb d.rs) w w') (hrow:zQl w' 77 2 d.rs ((d.rh.set i y).flatMap zJR)):zQg w' { d with rh:=d.rh.set i y } 1 val:=by
 have own:∀b ∈ zQb d.rs,d.o b=some .R:=h.bd.oR
 have hu:0<4:=by decide
 have hm:x ∈ zQX d:=zQJ (List.mem_of_getElem? hx)
 have ne:∀{b:Nat} {κ:zXx},d.o b=some κ->κ ≠ .R->¬b ∈ zQb d.rs:=λ{b κ} hb hk e=>by rw[own b e]at hb;exact hk (Option.some.inj hb).symm
 have hbd:zQE w' (d.gen 0 d.o d.rs (d.rh.set i y) (d.asv 0) (d.ah 0) (d.cs 0) (d.ch 0) (d.C 0)) val:=by
  refine h.bd.gen hu hf (λb κ hb _ hk _ _=>⟨ne hb hk,hb⟩) h.bd.oS hrow own ((h.bd.aw 0 hu).fr hf λb hb=>ne (h.bd.oA 0 hu b hb) (by simp)) (h.bd.oA 0 hu) (λe=>⟨(h.bd.mp e 0 hu).fr hf (ne (h.bd.oC e 0 hu) (by simp)),h.bd.oC e 0 hu⟩) (λe=>⟨(h.bd.ml e 0 hu).fr hf λb hb=>ne (h.bd.oK e 0 hu b hb) (by simp),h.bd.oK e 0 hu⟩) (λz hz=>?_) ?_ (λb hb=>Nat.lt_of_lt_of_le (h.bd.lt b hb) hf.size)
  ·left
   simp only[List.mem_append]at hz
   rcases hz with(hz|hz)|hz
   ·exact⟨z,zZr hu (List.mem_append_left _ hz),rfl⟩
   ·exact⟨z,zXj hu hz,rfl⟩
   ·rcases List.mem_or_eq_of_mem_set hz with hz|rfl
    ·exact⟨z,zQJ hz,rfl⟩
    ·exact⟨x,hm,hs.symm⟩
  ·have hnd:=(yXi hu).1 h.bd.nd
   have e:zXa d 0=d.rh ++ (zXa d 0).drop d.rh.length:=by simp[zXa]
   rw[e]at hnd
   unfold zKO
   rw[zQp,zQp (d.rh.set _ _),zWD (y:=y) hx hs,←zQp,←zQp]
   exact hnd
 rw[zWw]at hbd
 exact⟨hf.blk h.st (ne h.bd.oS (by simp)),hbd,h.sd⟩
theorem xKh (h:zQg w d 1 val) {c:zQx × zQx} (m1:c.1 ∈ zQX d) (m2:c.2 ∈ zQX d) {i:Nat} {x:zQx} (hx:d.rh[i]?=some x) (n1:∀b ∈ zQb x.s,b ∉ zQb c.1.s) (n2:∀b ∈ zQb x.s,b ∉ zQb c.2.s)
  (l1:(hv val c.1).length=(hv val c.2).length) (l2:(hv val x).length=(hv val c.2).length) (lb:(hv val c.2).length<=1000000) (lp:0<(hv val c.2).length) {a:Addr} (ha:d.rs.a=some a) :
  Calls prog 115 #[chV c,.pointer (some (a.add (i * 2)))] w λe w'=>e=.returned (.tuple #[])/\∃(y:zQx) (val':Nat->List Val),y.s=x.s/\zQg w' { d with rh:=d.rh.set i y } 1 val'/\Fr (RV d) w w'/\
   zQa { d with rh:=d.rh.set i y } val'={ zQa d val with recs:=(zQa d val).recs.modify i (zZZ (toR val c.1,toR val c.2)) }:=by
 have hm:x ∈ zQX d:=zQJ (List.mem_of_getElem? hx)
 have hi:i<d.rh.length:=(List.getElem?_eq_some_iff.1 hx).1
 refine yZN _ _ _ _ _ w _ (alB λw1 al ay=>?_)
 have h1:=h.pu al
 refine⟨_,cl0 ay,_,cl ay 2,?_⟩
 have z1:w.heap.size<w1.heap.size:=zQy ay
 have nR:d.o w.heap.size=none:=h.bd.out (Nat.le_refl _)
 have eX:(zQa d val).recs[i]?=some (toR val x):=by show(d.rh.map (toR val))[i]?=_;rw[List.getElem?_map,hx];rfl
 have q1:zQl w 28 3 c.1.s ((hv val c.1).flatMap zXJ):=h.bd.vr _ m1
 have q2:zQl w 28 3 c.2.s ((hv val c.2).flatMap zXJ):=h.bd.vr _ m2
 have o1:∀b ∈ zQb c.1.s,d.o b=some .V:=λb hb=>h.bd.oV b (zQN m1 hb)
 have o2:∀b ∈ zQb c.2.s,d.o b=some .V:=λb hb=>h.bd.oV b (zQN m2 hb)
 have ox:∀b ∈ zQb x.s,d.o b=some .V:=λb hb=>h.bd.oV b (zQN hm hb)
 have oR:=h.bd.oR
 obtain⟨ab,hab⟩:=zX8 (i:=0) (h.bd.vr x hm) (by omega)
 -- the values
 have vals:∀(w3:World) (y:zQx),y.s=x.s->y.g=(if c.1.g=c.2.g then x.g else c.2.g)->zQg w3 { d with rh:=d.rh.set i y } 1 val->Fr (RV d) w w3->zQl w3 28 3 c.1.s ((hv val c.1).flatMap zXJ)->zQl w3 28 3 c.2.s ((hv val c.2).flatMap zXJ)->
   w3.heap[w.heap.size]?=some (.cells #[.bool c.1.g,.slice c.1.s.a c.1.s.len c.1.s.cap,.bool c.2.g,.slice c.2.s.a c.2.s.len c.2.s.cap] 133)->
   yQv (λe w'=>e=.returned (.tuple #[])/\∃(y:zQx) (val':Nat->List Val),y.s=x.s/\zQg w' { d with rh:=d.rh.set i y } 1 val'/\Fr (RV d) w w'/\
   zQa { d with rh:=d.rh.set i y } val'={ zQa d val with recs:=(zQa d val).recs.modify i (zZZ (toR val c.1,toR val c.2)) }) (some (a.add (i * 2))) (some ⟨w.heap.size,0,none⟩) c.2.s ((c.2.s.len:Nat):Int) 0 [] w3:=λw3 y hys hyg h3 bP k1 k2 aH=>by
  have hy:(d.rh.set i y)[i]?=some y:=by rw[List.getElem?_set_self hi]
  have hym:y ∈ zQX { d with rh:=d.rh.set i y }:=zQJ (d:={ d with rh:=d.rh.set i y }) (List.mem_of_getElem? hy)
  have hvy:hv val y=hv val x:=by rw[hv,hv,hys]
  have r0:zQl w3 28 3 x.s ((hv val x).flatMap zXJ):=by have:=h3.bd.vr y hym;rwa [hvy,hys]at this
  have s1:=k1.len zQF (by decide)
  have s2:=k2.len zQF (by decide)
  have s3:=r0.len zQF (by decide)
  obtain⟨aR,haR,_,hcl⟩:=h3.bd.rw_.elem zQk hy (o:=1) (v:=.slice x.s.a x.s.len x.s.cap) (by rw[←hys];rfl)
  have haR:d.rs.a=some aR:=haR
  rw[ha]at haR;cases haR
  have mixl:∀k,(zJc ((hv val c.1).take k) ((hv val c.2).take k) (hv val x)).length=(hv val x).length:=λk=>zWr _ _ _
  refine zQ1 (hv val c.2).length (λk t w'=>t=(k:Int)/\zQl w' 28 3 x.s ((zJc ((hv val c.1).take k) ((hv val c.2).take k) (hv val x)).flatMap zXJ)/\Fr (· ∈ zQb x.s) w3 w') ⟨rfl,by rw[List.take_zero,List.take_zero,mix0];exact r0,Fr.refl _ _⟩ ?_
  rintro k J t w4 hk ⟨ht,hr4,bp⟩ hJ
  obtain rfl:t=(k:Int):=ht
  refine Br.of (λd1=>?_) (λd1=>?_)
  ·have ak:k<(hv val c.2).length:=by have:=zQm d1;omega
   obtain⟨u,hu⟩:=zXe (l:=hv val c.1) (k:=k) (by omega)
   obtain⟨v,hvk⟩:=zXe ak
   obtain⟨z,hz⟩:=zXe (l:=hv val x) (k:=k) (by omega)
   have k14:=k1.fr bp λb hb ag=>n1 b ag hb
   have k24:=k2.fr bp λb hb ag=>n2 b ag hb
   have V2:RdV w4 c.2.s (hv val c.2):=zZ8.rd (w0:={ w with heap:=#[] }) ⟨k24,λ_ _=>Nat.zero_le _⟩ (by omega)
   obtain⟨p,hp,c0,c1,c2⟩:=V2.get k v hvk
   refine⟨p,hp,by omega,by omega,_,c0,_,c1,_,c2,alB λw5 aB aP=>zQj aP zWp.symm rfl rfl λw6 dx bb _=>zQf λw7 bU _=>?_⟩
   have m8:Pu w4 w6:=aB.andNew bb λi hi=>by rw[show i=w4.heap.size from hi];exact Nat.le_refl _
   have fm:=m8.trans bU
   have bQ:=bU.blk dx
   have V1:RdV w7 c.1.s (hv val c.1):=zZ8.rd (w0:={ w with heap:=#[] }) ⟨k14.pu fm,λ_ _=>Nat.zero_le _⟩ (by omega)
   obtain⟨q,hq,e0,e1,e2⟩:=V1.get k u hu
   have nX:¬w.heap.size ∈ zQb x.s:=λe=>by rw[ox _ e]at nR;cases nR
   have aZ:=bp.blk aH nX
   refine⟨c.1.s,cl (fm.blk aZ) 1,q,hq,by omega,by omega,_,e0,_,e1,_,e2,_,cl bQ 0,_,cl bQ 1,_,cl bQ 2,_,λw=>yW7 _ _ u v w,?_⟩
   have vw:=hr4.pu fm
   refine Br.of (λd2=>zQf λw8 aV _=>?_) (λd2=>?_)
   ·have d2:u ≠ v:=by simpa using d2
    have dz:=aV.blk bQ
    have hr8:=vw.pu aV
    obtain⟨b,hb,hst⟩:=hr8.stElem (P:=prog) (t:=28) zQF (by decide) (i:=k) (by rw[mixl];omega) v zWp.symm rfl (K:=λw'=>J (IntKind.i64.wrap ((k:Int)+1)) w') λw9 hr9 jX hs9=>by
     rw[zQd (by omega) (by omega)]
     refine hJ _ _ ak ⟨by omega,?_,((bp.trans (Fr.pu (fm.trans aV):Fr (· ∈ zQb x.s) w4 w8) λi hi _=>hi).trans jX λi hi _=>hi)⟩
     rw[zKw hu hvk hz,if_neg d2]
     exact hr9
    have hcl8:w8.cell? ((a.add (i * 2)).add 1)=some (.slice x.s.a x.s.len x.s.cap):=by
     have hf38:Fr (· ∈ zQb x.s) w3 w8:=bp.trans (Fr.pu (fm.trans aV):Fr (· ∈ zQb x.s) w4 w8) λi hi _=>hi
     have:=(h3.bd.rw_.fr hf38 λb hb e=>by have h5:=oR b hb;rw[ox b e]at h5;cases h5)
     obtain⟨aR,haR,_,gW⟩:=this.elem zQk hy (o:=1) (v:=.slice x.s.a x.s.len x.s.cap) (by rw[←hys];rfl)
     have haR:d.rs.a=some aR:=haR
     rw[ha]at haR;cases haR
     exact gW
    exact⟨x.s,hcl8,_,cl dz 0,_,cl dz 1,_,cl dz 2,b,hb,by omega,by omega,hst⟩
   ·have d2:u=v:=by simpa using d2
    rw[zQd (by omega) (by omega)]
    refine hJ _ _ ak ⟨by omega,?_,bp.trans (Fr.pu fm:Fr (· ∈ zQb x.s) w4 w7) λi hi _=>hi⟩
    rw[zKw hu hvk hz,if_pos d2,zKd (by rw[yQT];exact hz)]
    exact vw
  ·have ak:k=(hv val c.2).length:=by have:=zQh d1;omega
   subst ak
   rw[List.take_length,List.take_of_length_le (by omega)]at hr4
   have hby:y.s.a=some ab:=by rw[hys];exact hab
   have hD:=h3.setVal hym hby (l':=zJc (hv val c.1) (hv val c.2) (hv val x)) (by rw[hys];exact bp) (by rw[hys];exact hr4)
   refine⟨rfl,y,_,hys,hD,bP.trans bp λi hi _=>.inr (ox i hi),?_⟩
   rw[zZP h3.bd.nd h3.bd.low hy hby]
   have e1:zQa { d with rh:=d.rh.set i y } val={ zQa d val with recs:=(zQa d val).recs.set i (toR val y) }:=by
    simp only[zQa,List.map_set]
    rfl
   rw[e1]
   show({ zQa d val with recs:=_ }:Dsk)=_
   rw[yVv,←zXY eX]
   have e2:zZZ (toR val c.1,toR val c.2) (toR val x)=⟨y.g,zJc (hv val c.1) (hv val c.2) (hv val x)⟩:=by
    rw[hyg];rfl
   rw[e2];rfl
 have nM:¬w.heap.size ∈ zQb d.rs:=λe=>by rw[oR _ e]at nR;cases nR
 refine Br.of (λd0=>⟨_,cl ay 2,?_⟩) (λd0=>?_)
 ·have d0:c.1.g ≠ c.2.g:=by simpa using d0
  obtain⟨a1,dm,hst⟩:=h1.bd.rw_.stField (i:=i) (o:=0) zQk hi (by decide) { x with g:=c.2.g } (.bool c.2.g) (λy hy=>by rw[hx]at hy;cases hy;rfl) (K:=λw3=>∃cI:SV,w3.cell? (((⟨w.heap.size,0,none⟩:Addr).add 2).add 1)=some (.slice cI.a cI.len cI.cap)/\
   yQv (λe w'=>e=.returned (.tuple #[])/\∃(y:zQx) (val':Nat->List Val),y.s=x.s/\zQg w' { d with rh:=d.rh.set i y } 1 val'/\Fr (RV d) w w'/\
   zQa { d with rh:=d.rh.set i y } val'={ zQa d val with recs:=(zQa d val).recs.modify i (zZZ (toR val c.1,toR val c.2)) }) (some (a.add (i * 2))) (some ⟨w.heap.size,0,none⟩) cI ((cI.len:Nat):Int) 0 [] w3) λw3 jM bP pL=>by
   have aH:=bP.blk ay nM
   have hF:Fr (RV d) w w3:=(Fr.pu al:Fr (RV d) w w1).trans bP λi hi _=>.inl (oR i hi)
   refine⟨c.2.s,by rw[zQc,zQc,zQq aH];rfl,vals w3 { x with g:=c.2.g } rfl (by rw[if_neg d0]) (setRh h1 hx rfl bP jM) hF ((q1.pu al).fr bP λb hb e=>?_) ((q2.pu al).fr bP λb hb e=>?_) aH⟩
   ·have:=oR b e;rw[o1 b hb]at this;cases this
   ·have:=oR b e;rw[o2 b hb]at this;cases this
  rw[ha]at dm;cases dm
  rw[zKk]at hst
  exact hst
 ·have d0:c.1.g=c.2.g:=by simpa using d0
  have e:d.rh.set i x=d.rh:=zKd hx
  refine⟨c.2.s,by rw[zQc,zQc,zQq ay];rfl,vals w1 x rfl (by rw[if_pos d0]) (by rw[e];exact h1) (Fr.pu al) (q1.pu al) (q2.pu al) ay⟩
end Go.Proofs.YtcihcbfcgjepfaaGreatDoor
/- Desks: the end of store: what was appended becomes part of the table. No condition but those stated. -/
namespace Go.Proofs.YtcihcbfcgjepfaaGreatDoor
open Go.Sh Go.RowKit Tryz
variable {w w' : World} {d d' : zQs} {val : Nat -> List Val} {mu : Int}
def xQF(u:Nat)(σ:Dsk):Dsk:=let x:=σ.us u
 zXB u ({ σ with recs:=σ.recs ++ x.ap }.setU u { x with at_:=if x.at_<0 then(σ.recs.length:Int) - x.at_ else x.at_ })
theorem zWB(u:Nat)(σ:Dsk):storedS u σ=xQF u { σ with recs:=zXo (σ.us u).ch σ.recs }:=by
 unfold storedS xQF
 simp only[zXv]
theorem zZO{e e':TypeId}{z z':Nat}{s t:SV}{vs ws:List Value}(h:zQl w e z s vs)(k:zQl w e' z' t ws)(hne:e ≠ e'):∀b ∈ zQb s,b ∉ zQb t:=λb hb ag=>by
 obtain⟨_,rfl|⟨g,cur,h3,h4,_⟩⟩:=h
 ·simp[zQb]at hb
 ·obtain⟨_,rfl|⟨g',cur',k3,k4,_⟩⟩:=k
  ·simp[zQb]at ag
  ·simp[zQb,h3]at hb
   simp[zQb,k3]at ag
   subst hb;subst ag
   rw[h4]at k4
   simp at k4
   exact hne k4.2
theorem yQ1 (h:zQg w d 1 val) {u:Nat} (hu:u<4) {w5:World} {rs' t:SV} {out:List Int} (at':Int) (hst:w5.heap[d.S]?=some (.cells (zQR 1 (({ d with rs:=rs' }:zQs).withAt u at')) 93)) (hrow:zQl w5 77 2 rs' ((d.rh ++ d.ah u).flatMap zJR))
  (hb:∀b ∈ zQb rs',b ∈ zQb d.rs∨w.heap.size<=b) (hf:Fr (λb=>b=d.S∨b ∈ zQb d.rs) w w5) (hN:zX6 w w5 t out) :
  Calls prog 116 #[d.ptr,.int .i64 (u:Int),.pointer (some (uA d u))] w5 λe w6=>e=.returned (.tuple #[])/\zX6 w w6 t out/\∃d',zQB w w6 d d' 1 val/\
   zQa d' val=zXB u ({ zQa d val with recs:=(zQa d val).recs ++ ((zQa d val).us u).ap }.setU u { (zQa d val).us u with at_:=at' }):=by
 obtain⟨l,hl,hk⟩:=h.lm
 have hLS:d.L ≠ d.S:=λe=>by have:=h.bd.oL;rw[e,h.bd.oS]at this;cases this
 have oR:=h.bd.oR
 have nL:¬(d.L=d.S∨d.L ∈ zQb d.rs):=λe=>by
  rcases e with e|e
  ·exact hLS e
  ·have:=oR _ e;rw[h.bd.oL]at this;cases this
 refine(zYB (d:=({ d with rs:=rs' }:zQs).withAt u at') hst (hl.fr hf nL) hLS hu).mono ?_
 rintro e w6 ⟨rfl,qc,hm6,bb,l',hl',hk'⟩
 have z5:=hf.size
 have z6:=bb.size
 have hF:Fr (λb=>b=d.S∨b ∈ zQb d.rs∨b=d.L) w w6:=(hf.mono (B':=λb=>b=d.S∨b ∈ zQb d.rs∨b=d.L) λi hi _=>hi.elim .inl λh=>.inr (.inl h)).trans bb λi hi _=>by
  rcases hi with hi|hi
  ·exact .inl hi
  ·exact .inr (.inr hi)
 have zr:=hrow.lt
 have own5:∀{b:Nat},d.o b ≠ none->b<w5.heap.size:=λ{b} hb=>by have:=h.bd.lt b hb;omega
 have nt:∀b ∈ zQb t,¬(b=d.S∨b=d.L):=λb hb e=>by
  have h1:=h.bd.out (hN.2 b hb)
  rcases e with e|e
  ·rw[e,h.bd.oS]at h1;cases h1
  ·rw[e,h.bd.oL]at h1;cases h1
 have ne:∀{b:Nat} {κ:zXx},d.o b=some κ->κ ≠ .S->κ ≠ .L->κ ≠ .R->¬(b=d.S∨b ∈ zQb d.rs∨b=d.L):=λ{b κ} hb h1 h2 h3 e=>by
  rcases e with e|e|e
  ·rw[e,h.bd.oS]at hb;exact h1 (Option.some.inj hb).symm
  ·rw[oR b e]at hb;exact h3 (Option.some.inj hb).symm
  ·rw[e,h.bd.oL]at hb;exact h2 (Option.some.inj hb).symm
 have up:∀{b:Nat} {κ:zXx},d.o b=some κ->κ ≠ .R->(if b=w5.heap.size then some (zXx.C u)else if b ∈ zQb rs' then some .R else d.o b)=some κ:=λ{b κ} hbo hk=>by
  have hlt:b<w5.heap.size:=own5 (by rw[hbo];simp)
  have hlw:b<w.heap.size:=h.bd.lt b (by rw[hbo];simp)
  rw[if_neg (by omega),if_neg λe=>?_]
  ·exact hbo
  ·rcases hb b e with e|e
   ·rw[oR b e]at hbo;exact hk (Option.some.inj hbo).symm
   ·omega
 have nrs:∀b ∈ zQb rs',¬(b=d.S∨b=d.L):=λb ag e=>by
  rcases hb b ag with h1|h1
  ·have h2:=oR b h1
   rcases e with e|e
   ·rw[e,h.bd.oS]at h2;cases h2
   ·rw[e,h.bd.oL]at h2;cases h2
  ·have h2:=h.bd.out h1
   rcases e with e|e
   ·rw[e,h.bd.oS]at h2;cases h2
   ·rw[e,h.bd.oL]at h2;cases h2
 have hbd:=h.bd.genL hu (lk':=λk=>if d.lk k=some (u:Int)then none else d.lk k) (o':=λb=>if b=w5.heap.size then some (.C u)else if b ∈ zQb rs' then some .R else d.o b) (rs':=rs') (rh':=d.rh ++ d.ah u) (as':=⟨none,0,0⟩) (ah':=[]) (cs':=d.cs u) (ch':=[]) (C':=w5.heap.size) hF
  ⟨l',hl',λk=>by
   rw[hk',hk,h.sd]
   split
   ·rfl
   ·cases d.lk k <;> rfl⟩ (up h.bd.oL (by simp)) (λb κ hbo k0 k1 k2 k3 k4=>⟨ne hbo k1 k0 k2,up hbo k2⟩) (up h.bd.oS (by simp)) (hrow.fr bb nrs) (λb ag=>by
   have:=zr b ag
   show(if b=w5.heap.size then _ else if b ∈ zQb rs' then _ else _)=_
   rw[if_neg (by omega),if_pos ag]) (zQl.nil _ _ _) (by simp[zQb]) (λ_=>⟨hm6,if_pos rfl⟩) (λe=>absurd (h.sd.symm.trans e) (by simp)) (λx hx=>by
   simp only[List.append_nil,chH,List.flatMap_nil,List.nil_append,List.mem_append]at hx
   rcases hx with hx|hx
   ·exact .inl ⟨x,zQJ hx,rfl⟩
   ·exact .inl ⟨x,zXj hu hx,rfl⟩) (by
   have hnd:=(yXi hu).1 h.bd.nd
   have e:zXa d u=d.rh ++ (zXa d u).drop d.rh.length:=by simp[zXa]
   rw[e]at hnd
   simp only[zKO,chH,List.flatMap_nil,List.nil_append]
   have p:(d.rh ++ d.ah u ++ (zXa d u).drop d.rh.length).Perm (d.ah u ++ (d.rh ++ (zXa d u).drop d.rh.length)):=by
    rw[List.append_assoc];exact List.perm_append_comm_assoc ..
   refine(zXF p).nodup_iff.2 ?_
   rw[uH,List.append_assoc,zQp]at hnd
   exact(List.nodup_append.1 hnd).2.1) (λb hbo=>by
   by_cases e:b=w5.heap.size
   ·rw[e];exact hm6.lt
   ·rw[if_neg e]at hbo
    by_cases e2:b ∈ zQb rs'
    ·have:=zr b e2;omega
    ·rw[if_neg e2]at hbo
     exact Nat.lt_of_lt_of_le (h.bd.lt b hbo) hF.size)
 refine⟨rfl,hN.fr bb nt,_,⟨⟨qc,hbd.same d.mode (λv=>if v=u then at' else d.at_ v),h.sd⟩,hF.mono λi hi _=>?_,λb hbo=>?_,rfl⟩,?_⟩
 ·rcases hi with rfl|hi|rfl
  ·rw[h.bd.oS];simp
  ·rw[oR i hi];simp
  ·rw[h.bd.oL];simp
 ·have hbo:(if b=w5.heap.size then some (zXx.C u)else if b ∈ zQb rs' then some .R else d.o b) ≠ none:=hbo
  by_cases e:b=w5.heap.size
  ·right;omega
  ·rw[if_neg e]at hbo
   by_cases e2:b ∈ zQb rs'
   ·rcases hb b e2 with h1|h1
    ·left;rw[oR b h1];simp
    ·right;exact h1
   ·rw[if_neg e2]at hbo;exact .inl hbo
 ·simp only[zQa,zXB,Dsk.setU,List.map_append,Dsk.mk.injEq]
  refine⟨rfl,rfl,by simp[zQs.gen,zZ9],?_,rfl⟩
  funext v
  by_cases e:v=u
  ·subst e;simp[zZ9,zQs.gen]
  ·simp[zZ9,zQs.gen,e]
end Go.Proofs.YtcihcbfcgjepfaaGreatDoor
/- Desks: store: the appended records. No condition but those stated. -/
namespace Go.Proofs.YtcihcbfcgjepfaaGreatDoor
open Go.Sh Go.RowKit Tryz
variable {w w' : World} {d d' : zQs} {val : Nat -> List Val} {mu : Int}
theorem yJd (h:zQg w d 1 val) {u:Nat} (hu:u<4) (hb:d.rh.length+(d.ah u).length<=1000) (hat:-(d.at_ u)<=(d.ah u).length) {R:Rt}
  (hR:∀w' q d',zX6 w w' q (storeL u (zQa d val))->zQB w w' d d' 1 val->zQa d' val=xQF u (zQa d val)->R (.returned (.tuple #[.slice q.a q.len q.cap,.int .i64 0])) w') :
  xKf R (some ⟨d.S,0,none⟩) (u:Int) (some (uA d u)) [] w:=by
 refine⟨d.asv u,h.uAp hu,?_⟩
 have hal:=h.as_len hu
 have hrl:=h.rs_len
 have oR:=h.bd.oR
 have eA:((zQa d val).us u).at_=d.at_ u:=rfl
 have eR:(zQa d val).recs.length=d.rh.length:=by simp[zQa]
 have eP:((zQa d val).us u).ap.length=(d.ah u).length:=zXr
 have eL:storeL u (zQa d val)=(List.range (d.ah u).length).map λ(j:Nat)=>((d.rh.length:Int)+j)+1:=by unfold storeL;rw[eP,eR]
 have d0:zQR 1 { d with rs:=d.rs }=zQR 1 d:=rfl
 refine zQ1 (d.ah u).length (λk t w'=>t.2=(k:Int)/\∃rk:SV,zQl w' 77 2 rk ((d.rh ++ (d.ah u).take k).flatMap zJR)/\(∀b ∈ zQb rk,b ∈ zQb d.rs∨w.heap.size<=b)/\w'.heap[d.S]?=some (.cells (zQR 1 { d with rs:=rk }) 93)/\
  zX6 w w' t.1 ((List.range k).map λ(j:Nat)=>((d.rh.length:Int)+j)+1)/\Fr (λb=>b=d.S∨b ∈ zQb d.rs) w w') ⟨rfl,d.rs,by simpa using h.bd.rw_,λb hb=>.inl hb,h.st,zX6.nil _ _,Fr.refl _ _⟩ ?_
 rintro k J ⟨t,n⟩ w1 hk ⟨hn,rk,hrow,hrb,hst,hN,hf⟩ hJ
 obtain rfl:n=(k:Int):=hn
 dsimp only at hN
 have nA:∀b ∈ zQb (d.asv u),¬(b=d.S∨b ∈ zQb d.rs):=λb hb e=>by
  have h1:=h.bd.oA u hu b hb
  rcases e with e|e
  ·rw[e,h.bd.oS]at h1;cases h1
  ·rw[oR b e]at h1;cases h1
 have hasv:=(h.bd.aw u hu).fr hf nA
 have hkl:=List.length_take_le k (d.ah u)
 have hrlen:=hrow.len zQk (by decide)
 rw[List.length_append]at hrlen
 refine Br.of (λd1=>?_) (λd1=>?_)
 ·have ak:k<(d.ah u).length:=by have:=zQm d1;omega
  have hkt:((d.ah u).take k).length=k:=by rw[List.length_take];omega
  obtain⟨x,hx⟩:=zXe ak
  obtain⟨a,ea,_,g0⟩:=hasv.elem zQk hx (o:=0) (v:=.bool x.g) rfl
  obtain⟨a',ea',_,g1⟩:=hasv.elem zQk hx (o:=1) (v:=.slice x.s.a x.s.len x.s.cap) rfl
  rw[ea]at ea';cases ea'
  refine⟨a,ea,by omega,by omega,x.g,g0,x.s,g1,alB λw2 aj ag=>zQj ag yQk.symm rfl rfl λw3 aH bP pL=>zQf λw4 ar _=>?_⟩
  have aQ:Pu w1 w3:=aj.andNew bP λi hi=>by rw[show i=w1.heap.size from hi];exact Nat.le_refl _
  have dq:=aQ.trans ar
  have aZ:=ar.blk aH
  have wi:=dq.blk hst
  have rcell:∀y,Pu w4 y->y.cell? (((⟨d.S,0,none⟩:Addr).add 2).add 2)=some (.slice rk.a rk.len rk.cap):=λy hy=>by rw[zQc,zQc,zQq (hy.blk wi)];rfl
  refine⟨λy=>Pu w4 y,Pu.refl _,rk,λy hy=>rcell y hy,x.g,λy hy=>cl (hy.blk aZ) 0,x.s,λy hy=>cl (hy.blk aZ) 1,alB λw5 aB aP=>⟨aB,?_⟩⟩
  have aT:=dq.trans aB
  have pv:=hrow.pu aT
  obtain⟨r',w6,hra,iE,bb,dM,_⟩:=zQ6 (P:=prog) (ty:=23) xZy zJd rfl (by omega) pv (A:=some ⟨w4.heap.size,0,none⟩) (m:=1) (c:=1) (news:=[.bool x.g,.slice x.s.a x.s.len x.s.cap]) rfl (λj y hy=>⟨_,rfl,by rw[cl aP];simpa using hy⟩) (λy hy=>by simp at hy;rcases hy with rfl|rfl <;> rfl) (by show(rk.len+1) * (32+1)<=_;omega)
  refine⟨r',w6,hra,?_⟩
  have z1:=hf.size
  have z5:=aT.size
  have nS:∀b ∈ zQb rk,¬b=d.S:=λb hb e=>by
   rcases hrb b hb with h1|h1
   ·have:=oR b h1;rw[e,h.bd.oS]at this;cases this
   ·have:=h.bd.out h1;rw[e,h.bd.oS]at this;cases this
  have qc:=bb.blk (aT.blk hst) (λe=>nS _ e rfl)
  rw[zQn,zQc,zQc]
  refine zQt qc (by show 0+2+2<22;omega) λw7 uG bQ=>?_
  have dg:Fr (·=d.S) w6 w7:=by rw[uG];exact Fr.cell w6 _ _ _
  have bQ:w7.heap[d.S]?=some (.cells (zQR 1 { d with rs:=r' }) 93):=bQ
  have nS':∀b ∈ zQb r',¬b=d.S:=λb hb e=>by
   rcases dM b hb with h1|h1
   ·exact nS b h1 e
   ·have h2:=h.bd.lt d.S (by rw[h.bd.oS];simp)
    omega
  have px:=iE.fr dg nS'
  refine⟨r',by rw[zQc,zQc,zQq bQ];rfl,alB λw8 aV dz=>?_⟩
  have er:r'.len=rk.len+1:=by
   have h1:=px.1
   simp only[List.length_append,zQ0 zQk,List.length_cons,List.length_nil]at h1
   omega
  have eint:((r'.len:Nat):Int)=((d.rh.length:Int)+k)+1:=by rw[er,hrlen,hkt];omega
  rw[eint]at dz
  -- the row of numbers
  have hNt:zX6 w w5 t _:=hN.pu aT
  have ap1:∀b ∈ zQb t,b ∉ zQb rk:=zZO hNt.1 pv (by decide)
  have uM:=((hNt.fr bb ap1).fr dg λb hb e=>by have h1:=h.bd.out (hN.2 b hb);rw[e,h.bd.oS]at h1;cases h1).pu aV
  have z6:=bb.size
  have z7:=dg.size
  have z8:=aV.size
  obtain⟨t',w9,hra9,hN9,jX⟩:=uM.push (by omega) dz (by simp;omega)
  refine⟨t',w9,hra9,?_⟩
  rw[zQd (by omega) (by omega)]
  have py:=px.pu aV
  have ap2:∀b ∈ zQb r',b ∉ zQb t:=zZO py uM.1 (by decide)
  refine hJ _ _ ak ⟨by simp,r',?_,λb hb=>?_,jX.blk (aV.blk bQ) (λe=>by have h1:=h.bd.out (hN.2 _ e);rw[h.bd.oS]at h1;cases h1),?_,?_⟩
  ·rw[zQP hx,←List.append_assoc,List.flatMap_append,List.flatMap_singleton]
   exact py.fr jX ap2
  ·rcases dM b hb with h1|h1
   ·exact hrb b h1
   ·right;omega
  ·rw[List.range_succ,List.map_append];exact hN9
  ·have q1:Fr (λb=>b=d.S∨b ∈ zQb d.rs) w w6:=(hf.trans (Fr.pu aT:Fr (λb=>b=d.S∨b ∈ zQb d.rs) w1 w5) λi hi _=>hi).trans bb λi hi hlt=>by
    rcases hrb i hi with h1|h1
    ·exact .inr h1
    ·omega
   exact((q1.trans dg λi hi _=>.inl hi).trans (Fr.pu aV:Fr (λb=>b=d.S∨b ∈ zQb d.rs) w7 w8) λi hi _=>hi).trans jX λi hi hlt=>by have:=hN.2 i hi;omega
 ·have ak:k=(d.ah u).length:=by have:=zQh d1;omega
  subst ak
  rw[List.take_length]at hrow
  have eU:w1.cell? ((uA d u).add 1)=some (.int .i64 (d.at_ u)):=by rw[zQc,zQq hst];exact zKN (d:={ d with rs:=rk }) hu
  refine⟨_,eU,Br.of (λc=>?_) (λc=>?_)⟩
  ·have c:=zQm c
   have ew:IntKind.i64.wrap ((IntKind.i64.wrap (0 - d.at_ u)) - 1)=-d.at_ u - 1:=by rw[zQd (n:=0 - d.at_ u) (by omega) (by omega),zQd (by omega) (by omega)];omega
   have hlt:(-d.at_ u - 1).toNat<(d.ah u).length:=by omega
   have hNl:=hN.len
   simp only[List.length_map,List.length_range]at hNl
   obtain⟨a,ha,hc,_⟩:=hN.1.cell (j:=(-d.at_ u - 1).toNat) (v:=.int .i64 ((d.rh.length:Int) - d.at_ u)) (by
    rw[List.getElem?_map,List.getElem?_map,List.getElem?_range hlt]
    simp only[Option.map_some,Option.some.injEq]
    congr 1;omega)
   refine⟨_,eU,a,ha,?_⟩
   rw[ew]
   refine⟨by omega,by show -d.at_ u - 1<((t.len:Nat):Int);omega,(d.rh.length:Int) - d.at_ u,by rw[Nat.mul_one];exact hc,?_⟩
   rw[zQn,zQc]
   refine zQt hst (by show 5+u * 4+1<22;omega) λw2 qX ag=>?_
   have dh:Fr (·=d.S) w1 w2:=by rw[qX];exact Fr.cell w1 _ _ _
   rw[zJD hu]at ag
   have nS:∀b ∈ zQb rk,¬b=d.S:=λb hb e=>by
    rcases hrb b hb with h1|h1
    ·have:=oR b h1;rw[e,h.bd.oS]at this;cases this
    ·have:=h.bd.out h1;rw[e,h.bd.oS]at this;cases this
   refine(yQ1 h hu _ ag (hrow.fr dh nS) hrb (hf.trans dh λi hi _=>.inl hi) (hN.fr dh λb hb e=>by have h1:=h.bd.out (hN.2 b hb);rw[e,h.bd.oS]at h1;cases h1)).mono ?_
   rintro e w3 ⟨rfl,re,d',hL,habs⟩
   refine⟨rfl,hR w3 t d' (by rw[eL];exact re) hL ?_⟩
   rw[habs]
   simp only[xQF,eA,eR]
   rw[if_pos c]
  ·have c:=zQh c
   have e1:zQR 1 { d with rs:=rk }=zQR 1 (({ d with rs:=rk }:zQs).withAt u (d.at_ u)):=by
    have e:(λv=>if v=u then d.at_ u else d.at_ v)=d.at_:=by funext v;by_cases e:v=u <;> simp[e]
    simp only[zQs.withAt,e]
   rw[e1]at hst
   refine(yQ1 h hu _ hst hrow hrb hf hN).mono ?_
   rintro e w3 ⟨rfl,re,d',hL,habs⟩
   refine⟨rfl,hR w3 t d' (by rw[eL];exact re) hL ?_⟩
   rw[habs]
   simp only[xQF,eA,eR]
   rw[if_neg c]
end Go.Proofs.YtcihcbfcgjepfaaGreatDoor
/- Desks: store. No condition but those stated. -/
namespace Go.Proofs.YtcihcbfcgjepfaaGreatDoor
open Go.Sh Go.RowKit Tryz
variable {w w' : World} {d d' : zQs} {val : Nat -> List Val} {mu : Int}
def zZF (ch:List (Int × (Rec × Rec))) (todo:List Chg) (l:List Rec):List Rec:=l.mapIdx λi r=>if (AL.get todo ((i:Int)+1)).isSome then r else match AL.get ch ((i:Int)+1)with
 | some c=>zZZ c r
 | none=>r
theorem zVH (ch:List (Int × (Rec × Rec))) (l:List Rec):zZF ch [] l=zXo ch l:=by
 unfold zZF zXo
 congr 1
theorem zVR(val:Nat->List Val)(ch:List Chg)(l:List Rec):zZF (ch.map (toC val)) ch l=l:=by
 unfold zZF
 refine List.ext_getElem? λj=>?_
 rw[List.getElem?_mapIdx]
 cases l[j]? with
 | none=>rfl
 | some r=>
  simp only[Option.map_some,Option.some.injEq]
  rw[zXM]
  cases AL.get ch ((j:Int)+1) <;> rfl
theorem zVK (ch:List (Int × (Rec × Rec))) (todo:List Chg) (l:List Rec):(zZF ch todo l).length=l.length:=by simp[zZF]
theorem zVN {ch:List (Int × (Rec × Rec))} {todo:List Chg} {l:List Rec} {i:Nat} {k:Int} (hk:(i:Int)+1=k) {v:zQx × zQx} (hg:AL.get todo k=some v):(zZF ch todo l)[i]?=l[i]?:=by
 unfold zZF
 rw[List.getElem?_mapIdx,hk,hg]
 cases l[i]? <;> rfl
theorem zWI {ch:List (Int × (Rec × Rec))} {todo:List Chg} {l:List Rec} {i:Nat} {k:Int} (hk:(i:Int)+1=k) (hn:(todo.map Prod.fst).Nodup) {v:zQx × zQx} (hg:AL.get todo k=some v) {C:Rec × Rec} (hc:AL.get ch k=some C) :
  (zZF ch todo l).modify i (zZZ C)=zZF ch (AL.del todo k) l:=by
 refine List.ext_getElem? λj=>?_
 rw[List.getElem?_modify]
 unfold zZF
 rw[List.getElem?_mapIdx,List.getElem?_mapIdx]
 cases l[j]? with
 | none=>rfl
 | some r=>
  simp only[Option.map_some,Option.some.injEq]
  rw[AL.get_del hn]
  by_cases e:i=j
  ·subst e
   simp[hk,hg,hc]
  ·simp[e,show ¬k=(j:Int)+1 by omega]
theorem yXs(k:Int)(c:zQx × zQx)(K:Int->Bool->SV->Bool->SV->Prop):(yQc .i64 (zQM k) λn=>yX5 (chV c) λq0=>dHd q0 λx0 q1=>dBl x0 λb0=>dHd q1 λx1 q2=>dSl x1 λl1=>dHd q2 λx2 q3=>dBl x2 λb2=>dHd q3 λx3 q4=>dSl x3 λl3=>yZE q4 (K n b0 l1 b2 l3))=K k c.1.g c.1.s c.2.g c.2.s:=rfl
theorem yXp (h:zQg w d 1 val) (hI:Inv (zQa d val)) {u:Nat} (hu:u<4) {R:Rt}
  (hR:∀w' q d' val',zX6 w w' q (storeL u (zQa d val))->zQB w w' d d' 1 val'->zQa d' val'=storedS u (zQa d val)->R (.returned (.tuple #[.slice q.a q.len q.cap,.int .i64 0])) w') :
  xJK R (some ⟨d.S,0,none⟩) (u:Int) (some (uA d u)) [] w:=by
 have vv:=hI.chl hu
 have fG:=hI.ah hu
 have jM:=hI.rh
 have hat:=hI.at_ u hu
 have eA:((zQa d val).us u).at_=d.at_ u:=rfl
 rw[eA,zXr]at hat
 have dA:d.flds.length<=16:=hI.f16
 have nf:0<d.flds.length:=List.length_pos_iff.2 (zQG hI.vf).1
 have hrl:=h.rs_len
 obtain⟨w0,hrun,hi0,hp0,hs0⟩:=(h.mp hu).range (P:=prog) yJQ
 refine⟨some (d.C u),h.uCh hu,_,w0,hrun,?_⟩
 have nr:d.o w.heap.size=none:=h.bd.out (Nat.le_refl _)
 have oC:=h.bd.oC h.sd u hu
 have eCh:((zQa d val).us u).ch=(d.ch u).map (toC val):=rfl
 have nRV:¬RV d (d.C u):=λe=>by rw[RV,oC]at e;rcases e with e|e <;> cases e
 have nRV2:¬RV d w.heap.size:=λe=>by rw[RV,nr]at e;rcases e with e|e <;> cases e
 refine zJC (d.ch u).length (λm _ w'=>∃(todo:List Chg) (rhk:List zQx) (valk:Nat->List Val),todo.length=m/\zQS w' zQM chV w.heap.size (d.C u) (d.ch u) todo/\zQg w' { d with rh:=rhk } 1 valk/\Fr (λb=>RV d b∨b=w.heap.size) w w'/\
  zQa { d with rh:=rhk } valk={ zQa d val with recs:=zZF ((zQa d val).us u).ch todo (zQa d val).recs }/\(∀k v,AL.get todo k=some v->AL.get (d.ch u) k=some v))
  ⟨d.ch u,d.rh,val,rfl,hi0,h.pu hp0,Fr.pu hp0,by rw[eCh,zVR],λ_ _ h=>h⟩ ?_
 rintro m J s w1 ⟨todo,rhk,valk,hm,hi,hD,hf,habs,hT⟩ hJ
 have erl:rhk.length=d.rh.length:=by
  have:=congrArg (λσ:Dsk=>σ.recs.length) habs
  simp only[zVK]at this
  simpa[zQa] using this
 have eus:∀p ∈ d.ch u,toC valk p=toC val p:=by
  have h1:=congrArg (λσ:Dsk=>(σ.us u).ch) habs
  exact List.map_inj_left.1 h1
 rcases hi.next (P:=prog) 0 with⟨h0,hr⟩|⟨p,hp,w2,hr,dh,fC,wj,hen⟩
 ·left
  refine⟨w1,hr,?_⟩
  rw[h0,zVH]at habs
  refine yJd hD hu (by show rhk.length+(d.ah u).length<=1000;omega) (by show -(d.at_ u)<=((d.ah u).length:Int);omega) λw' q d' hN hL ha=>?_
  have hL1:zQB w w1 d { d with rh:=rhk } 1 valk:=⟨hD,hf.mono λi hi hlt=>by
   rcases hi with(hi|hi)|hi
   ·rw[hi];simp
   ·rw[hi];simp
   ·omega,λb hb=>.inl hb,rfl⟩
  refine hR w' q d' valk ?_ (hL1.trans hL) ?_
  ·have e:storeL u (zQa { d with rh:=rhk } valk)=storeL u (zQa d val):=by
    rw[habs];unfold storeL;simp only[zXv]
   rw[e]at hN
   exact hN.low hf.size
  ·rw[ha,habs,zWB]
 ·right
  have hg:AL.get todo p.1=some p.2:=AL.get_of_mem hi.nodup hp
  have hgc:=hT _ _ hg
  have hpm:p ∈ d.ch u:=AL.get_mem hgc
  have hxr:=(hI.gc u hu (toC val p) (List.mem_map.2 ⟨p,hpm,rfl⟩))
  have hkr:1<=p.1/\p.1<=d.rh.length:=by simpa[toC,zQa] using hxr.2
  have hD2:zQg w2 { d with rh:=rhk } 1 valk:=hD.fr dh λb hb e=>hb (by rw[show b=w.heap.size from e];exact nr)
  refine⟨_,_,w2,hr,_,_,w2,hen,?_⟩
  rw[yXs]
  refine alB λw3 am aH=>zQj aH zYQ.symm rfl rfl λw4 aZ bp se=>zQf λw5 aB _=>?_
  have gK:Pu w2 w4:=am.andNew bp λi hi=>by rw[show i=w2.heap.size from hi];exact Nat.le_refl _
  have kw:=gK.trans aB
  have aP:=aB.blk aZ
  have hD5:=hD2.pu kw
  have hlt:(p.1 - 1).toNat<rhk.length:=by omega
  obtain⟨x,hx⟩:=zXe hlt
  obtain⟨a,ea,_,_⟩:=hD5.bd.rw_.elem zQk hx (o:=0) (v:=.bool x.g) rfl
  have ea:d.rs.a=some a:=ea
  refine⟨_,cl aP 0,p.2.1.s,cl aP 1,_,cl aP 2,p.2.2.s,cl aP 3,d.rs,hD5.recs,a,ea,?_⟩
  rw[zQd (n:=p.1 - 1) (by omega) (by omega)]
  refine⟨by omega,by omega,?_⟩
  have mc:=zXA (d:={ d with rh:=rhk }) hu (c:=p) hpm
  have hap:=(zWv hD5.bd.nd hD5.bd.low).2 u
  have hxv:∀b ∈ zQb x.s,b ∈ vB rhk:=λb hb=>zQN (List.mem_of_getElem? hx) hb
  have hcv:∀z,z=p.2.1∨z=p.2.2->∀b ∈ zQb z.s,b ∈ vB (uH d u):=λz hz b hb=>zQN (List.mem_append_left _ (List.mem_flatMap.2 ⟨p,hpm,by rcases hz with rfl|rfl <;> simp⟩)) hb
  have ep:=eus p hpm
  have e1:hv valk p.2.1=hv val p.2.1:=congrArg (λz:Int × (Rec × Rec)=>z.2.1.v) ep
  have e2:hv valk p.2.2=hv val p.2.2:=congrArg (λz:Int × (Rec × Rec)=>z.2.2.v) ep
  have k1:(hv val p.2.1).length=d.flds.length:=zQ2 hxr.1.1
  have k2:(hv val p.2.2).length=d.flds.length:=zQ2 hxr.1.2
  have exr:toR valk x=(zQa d val).recs.getD (p.1 - 1).toNat default/\(hv valk x).length=d.flds.length:=by
   have h1:=congrArg (λσ:Dsk=>σ.recs[(p.1 - 1).toNat]?) habs
   simp only[zVN (i:=(p.1 - 1).toNat) (k:=p.1) (by omega) hg]at h1
   have h2:(rhk.map (toR valk))[(p.1 - 1).toNat]?=(zQa d val).recs[(p.1 - 1).toNat]?:=h1
   rw[List.getElem?_map,hx]at h2
   refine⟨by rw[List.getD_eq_getElem?_getD,←h2];rfl,?_⟩
   have h3:=hI.gr (toR valk x) (List.mem_of_getElem? h2.symm)
   exact zQ2 h3
  refine(xKh hD5 (c:=p.2) mc.1 mc.2 hx (λb hb ag=>hap b (hxv b hb) (hcv _ (.inl rfl) b ag)) (λb hb ag=>hap b (hxv b hb) (hcv _ (.inr rfl) b ag)) (by rw[e1,e2,k1,k2]) (by rw[e2,k2,exr.2]) (by rw[e2,k2];omega) (by rw[e2,k2];exact nf) ea).mono ?_
  rintro e w6 ⟨rfl,y,val',hys,hD6,bb,uN⟩
  refine⟨rfl,?_⟩
  have bb:Fr (RV d) w5 w6:=bb
  have hlen:=AL.length_del hp hi.nodup
  have z1:=hf.size
  refine hJ (m - 1) _ _ (by omega) ⟨AL.del todo p.1,rhk.set (p.1 - 1).toNat y,val',by omega,(wj.fr (Fr.pu kw:Fr (RV d) w2 w5) nRV2 nRV).fr bb nRV2 nRV,hD6,?_,?_,λk v hk=>?_⟩
  ·exact((hf.trans dh λi hi _=>.inr hi).trans (Fr.pu kw:Fr (λb=>RV d b∨b=w.heap.size) w2 w5) λi hi _=>hi).trans bb λi hi _=>.inl hi
  ·have e3:(toR valk p.2.1,toR valk p.2.2)=(toR val p.2.1,toR val p.2.2):=congrArg Prod.snd ep
   have h7:zQa { d with rh:=rhk.set (p.1 - 1).toNat y } val'={ zQa { d with rh:=rhk } valk with recs:=(zQa { d with rh:=rhk } valk).recs.modify (p.1 - 1).toNat (zZZ (toR valk p.2.1,toR valk p.2.2)) }:=uN
   rw[h7,habs,e3]
   have h8:=zWI (l:=(zQa d val).recs) (ch:=((zQa d val).us u).ch) (i:=(p.1 - 1).toNat) (k:=p.1) (by omega) hi.nodup hg (C:=(toR val p.2.1,toR val p.2.2)) (by rw[eCh,zXM,hgc];rfl)
   simp only[h8]
  ·rw[AL.get_del hi.nodup]at hk
   by_cases e:p.1=k
   ·rw[if_pos e]at hk;cases hk
   ·rw[if_neg e]at hk;exact hT k v hk
end Go.Proofs.YtcihcbfcgjepfaaGreatDoor
/- Desks: Store, and leaving a row. No condition but those stated. -/
namespace Go.Proofs.YtcihcbfcgjepfaaGreatDoor
open Go.Sh Go.RowKit Tryz
variable {w w' : World} {d d' : zQs} {val : Nat -> List Val} {mu : Int}
def zWZ(d:zQs)(u:Nat)(k:Int):Bool:=match d.lk k with
 | some v=>!decide (v=(u:Int))
 | none=>false
theorem zW2(d:zQs)(val:Nat->List Val)(u:Nat):busyB (zQa d val) u=(d.ch u).any λc=>zWZ d u c.1:=by
 show((d.ch u).map (toC val)).any _=_
 rw[List.any_map];rfl
def StP(w:World)(d:zQs)(val:Nat->List Val)(u:Nat)(force:Bool):Rt:=λe w'=>∃q:SV,e=.returned (.tuple #[.slice q.a q.len q.cap,.int .i64 (storeC u force (zQa d val))])/\
 zX6 w w' q (if storeC u force (zQa d val)=0 then storeL u (zQa d val)else [])/\∃d' val',zQB w w' d d' 1 val'/\zQa d' val'=storeS u force (zQa d val)
theorem StP.bad (h:zQg w d 1 val) {u:Nat} {force:Bool} {w1:World} (hp:Pu w w1) {n:Int} (hn:storeC u force (zQa d val)=n) (h0:n ≠ 0):StP w d val u force (.returned (.tuple #[.slice none 0 0,.int .i64 n])) w1:=
 ⟨⟨none,0,0⟩,by rw[hn],by rw[hn,if_neg h0];exact zX6.nil _ _,d,val,zQB.pu h hp,by rw[storeS,hn,if_neg h0]⟩
theorem zVD (h:zQg w d 1 val) (hI:Inv (zQa d val)) {u:Nat} (hu:u<4) {force:Bool} (hc:¬(force=false/\clashK (zQa d val) u ≠ [])) {w1:World} (al:Pu w w1) :
  ∃qM:Option Nat,w1.cell? ((uA d u).add 2)=some (.map qM)/\∃qL:Option Addr,∃oG:World,(Instr.range 88 (.map qM)).run prog w1=.ok (.pointer qL) oG/\yXz (StP w d val u force) (some ⟨d.S,0,none⟩) (u:Int) (some (uA d u)) qL [] oG:=by
 have h1:=h.pu al
 obtain⟨w2,hrun,wj,aj,fC⟩:=(h1.mp hu).range (P:=prog) yJQ
 refine⟨some (d.C u),h1.uCh hu,_,w2,hrun,?_⟩
 have eC:storeC u force (zQa d val)=if busyB (zQa d val) u=true then 12 else 0:=by rw[storeC,if_neg hc]
 obtain⟨l,hl,hk⟩:=h1.lm
 have zC:=(h1.mp hu).lt
 have zL:=hl.lt
 refine zJC (d.ch u).length (λm _ w'=>∃todo:List Chg,todo.length=m/\zQS w' zQM chV w1.heap.size (d.C u) (d.ch u) todo/\Pu w1 w'/\(∀k v,AL.get todo k=some v->AL.get (d.ch u) k=some v)/\(∀p ∈ d.ch u,(AL.get todo p.1).isSome=true∨zWZ d u p.1=false))
  ⟨d.ch u,rfl,wj,aj,λ_ _ h=>h,λp hp=>.inl (by rw[AL.get_of_mem (h1.mp hu).nodup (v:=p.2) hp];rfl)⟩ ?_
 rintro m J s w3 ⟨todo,hm,hi,am,hT,hB⟩ hJ
 rcases hi.next (P:=prog) 0 with⟨h0,hr⟩|⟨p,hp,w4,hr,bp,se,hi4,hen⟩
 ·left
  refine⟨w3,hr,?_⟩
  have hb:busyB (zQa d val) u=false:=by
   rw[zW2,List.any_eq_false]
   intro p hp
   rcases hB p hp with h2|h2
   ·rw[h0]at h2;cases h2
   ·rw[h2];simp
  rw[hb]at eC
  have eC:storeC u force (zQa d val)=0:=eC
  refine yXp (h1.pu am) hI hu λw' q d' val' hN hL habs=>?_
  exact⟨q,by rw[eC],by rw[eC,if_pos rfl];exact hN.low (al.trans am).size,d',val',(zQB.pu h (al.trans am)).trans hL,by rw[habs,storeS,eC,if_pos rfl]⟩
 ·right
  have hg:AL.get todo p.1=some p.2:=AL.get_of_mem hi.nodup hp
  have hpm:p ∈ d.ch u:=AL.get_mem (hT _ _ hg)
  have dq:Pu w1 w4:=am.andNew bp λi hi=>by rw[show i=w1.heap.size from hi];exact Nat.le_refl _
  have hlen:=AL.length_del hp hi.nodup
  refine⟨_,_,w4,hr,_,_,w4,hen,some d.L,(h1.pu dq).locks,_,_,w4,zYd (hl.pu dq) p.1,?_⟩
  have goOn:zWZ d u p.1=false->J () w4:=λhb=>by
   refine hJ (m - 1) _ _ (by omega) ⟨AL.del todo p.1,by omega,hi4,dq,λk v hk=>?_,λq hq=>?_⟩
   ·rw[AL.get_del hi.nodup]at hk
    by_cases e:p.1=k
    ·rw[if_pos e]at hk;cases hk
    ·rw[if_neg e]at hk;exact hT k v hk
   ·rw[AL.get_del hi.nodup]
    by_cases e:p.1=q.1
    ·right;rw[←e];exact hb
    ·rw[if_neg e];exact hB q hq
  refine Br.of (λc1=>?_) (λc1=>?_)
  ·obtain⟨v,hv⟩:=Option.isSome_iff_exists.1 c1
   have hv':=hv
   rw[hk]at hv'
   rw[hv]
   refine Br.of (λc2=>?_) (λc2=>?_)
   ·have c2:v ≠ (u:Int):=zQ4 c2
    have hb:busyB (zQa d val) u=true:=by
     rw[zW2,List.any_eq_true]
     exact⟨p,hpm,by unfold zWZ;rw[hv'];simp[c2]⟩
    rw[hb]at eC
    exact StP.bad h (al.trans dq) (n:=12) eC (by decide)
   ·have c2:v=(u:Int):=zQu c2
    exact goOn (by unfold zWZ;rw[hv'];simp[c2])
  ·have hv:AL.get l p.1=none:=by simpa using c1
   rw[hk]at hv
   exact goOn (by unfold zWZ;rw[hv])
theorem yWj (h:zQg w d 1 val) (hI:Inv (zQa d val)) {u:Nat} (hu:u<4) (force:Bool) :
  Calls prog 55 #[d.ptr,.int .i64 (u:Int),.pointer (some (uA d u)),.bool force] w (StP w d val u force):=by
 refine yKd _ _ _ _ w _ (Br.of (λc=>?_) (λc=>?_))
 ·have c:force=false:=by simpa using c
  refine(zVL h hI hu).mono ?_
  rintro e w1 ⟨q,rfl,hN,al⟩
  have hql:=hN.len
  rw[List.length_map]at hql
  refine⟨q,rfl,Br.of (λc1=>?_) (λc1=>?_)⟩
  ·have c1:=zQm c1
   have hne:clashK (zQa d val) u ≠ []:=List.length_pos_iff.1 (by omega)
   exact StP.bad h al (n:=13) (by rw[storeC,if_pos ⟨c,hne⟩]) (by decide)
  ·have c1:=zQh c1
   have he:clashK (zQa d val) u=[]:=List.eq_nil_of_length_eq_zero (by omega)
   exact zVD h hI hu (λe=>e.2 he) al
 ·have c:force=true:=by simpa using c
  exact zVD h hI hu (λe=>by rw[c]at e;cases e.1) (Pu.refl w)
theorem zYz (h:zQg w d 0 val) (hI:Inv (zQa d val)) (u:Int) (force:Bool) :
  Calls prog 17 #[d.ptr,.int .i64 u,.bool force] w λe w'=>∃q:SV,e=.returned (.tuple #[.slice q.a q.len q.cap,.int .i64 (storeE u force (zQa d val))])/\zX6 w w' q (storeEL u force (zQa d val))/\∃d' val',zQB w w' d d' 0 val'/\zQa d' val'=storeES u force (zQa d val):=by
 refine yKm _ u force w _ ((zQU h (Pu.refl w) u).mono ?_)
 rintro e w2 ⟨rfl,h2,dh,fC⟩
 refine⟨_,_,_,rfl,Br.of (λc=>?_) (λc=>?_)⟩
 ·have hu:=zJZ c
  have e1:uC u=1:=by rw[uC,if_neg hu]
  have e2:storeE u force (zQa d val)=1:=by rw[storeE,if_neg hu]
  exact h2.left λw' hL _ _=>⟨⟨none,0,0⟩,by rw[e1,e2],by rw[storeEL,e2,if_neg (by decide)];exact zX6.nil _ _,d,val,hL,by rw[storeES,if_neg hu]⟩
 have hu:=zKs c
 obtain⟨n,rfl,hn⟩:=zQY hu
 rw[zWf hn]
 refine(yWj h2.at_ hI hn force).mono ?_
 rintro e w3 ⟨q,rfl,hN,d',val',hL,habs⟩
 refine⟨q,_,rfl,?_⟩
 have LL:=h2.dl.trans hL
 have hN0:zX6 w w3 q _:=hN.low h2.fr.size
 have e2:storeE (n:Int) force (zQa d val)=storeC n force (zQa d val):=by rw[storeE,if_pos hu,zQI]
 rw[←show d'.ptr=d.ptr by unfold zQs.ptr;rw[hL.ptr]]
 refine zXg LL λw' hL' hf _=>⟨q,by rw[e2],?_,d',val',hL',by rw[habs,storeES,if_pos hu,zQI]⟩
 rw[storeEL,e2,zQI]
 exact hN0.fr hf λb hb e=>by
  have h1:=h.bd.out (hN0.2 b hb)
  have h3:d'.S=d.S:=hL.ptr
  rw[show b=d'.S from e,h3,h.bd.oS]at h1;cases h1
theorem yZf (h:zQg w d 1 val) (hI:Inv (zQa d val)) {u:Nat} (hu:u<4) :
  Calls prog 50 #[d.ptr,.int .i64 (u:Int),.pointer (some (uA d u))] w λe w'=>e=.returned (.int .i64 (leaveC u (zQa d val)))/\∃d' val',zQB w w' d d' 1 val'/\zQa d' val'=leaveS u (zQa d val):=by
 have no:((zQa d val).us u).rows=false∨((zQa d val).us u).emp=true->Ending.returned (.int .i64 0)=.returned (.int .i64 (leaveC u (zQa d val)))/\∃d' val',zQB w w d d' 1 val'/\zQa d' val'=leaveS u (zQa d val):=λhc=>
  ⟨by rw[leaveC,if_pos hc],d,val,zQB.refl h,by rw[leaveS,if_pos hc]⟩
 refine yKe _ _ _ w _ (Calls.mono (yYZ h hu) ?_)
 rintro e w1 ⟨rfl,rfl⟩
 refine⟨_,rfl,Br.of (λc=>?_) (λc=>?_)⟩
 ·exact no (.inl (by simpa using c))
 have c:((zQa d val).us u).rows=true:=by simpa using c
 refine Calls.mono (zY5 h hu) ?_
 rintro e w2 ⟨rfl,rfl⟩
 refine⟨_,rfl,Br.of (λc1=>?_) (λc1=>?_)⟩
 ·exact no (.inr c1)
 have hno:¬(((zQa d val).us u).rows=false∨((zQa d val).us u).emp=true):=by rw[c,c1];simp
 refine Calls.mono (yWj h hI hu false) ?_
 rintro e w3 ⟨q,rfl,hN,d',val',hL,habs⟩
 exact⟨q,_,rfl,by rw[leaveC,if_neg hno],d',val',hL,by rw[habs,leaveS,if_neg hno]⟩
end Go.Proofs.YtcihcbfcgjepfaaGreatDoor
