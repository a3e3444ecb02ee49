import Derived.Test.YtaeecpjhfmcliaaGreatDoorLgOwJ
import Derived.Test.YtaeecpjhfmcliaaGreatDoorLgPrC
import Derived.Test.YtaeecpjhfmcliaaGreatDoorShThirteen
/- The log: a store and the reference side by side; an act of a script. No condition but those stated. -/
set_option maxRecDepth 100000
set_option linter.unusedVariables false
set_option linter.unusedSimpArgs false
noncomputable section
namespace Go.Proofs.YtaeecpjhfmcliaaGreatDoor
open Go.Sh Go.RowKit Tryz
variable {w0 w w' : World} {X : Nat -> Prop} {S Sr n m : Nat} {p : Int} {f : List Fld} {F : Fls} {d d' : Dat} {σ σ' : Sto} {L L' : SL} {R R' : RL} {x : zZd} {s : ScV}
structure Duo(w0 w:World)(S Sr:Nat)(p:Int)(f:List Fld)(F:Fls)(n:Nat)(d:Dat)(σ:Sto)(L:SL)(R:RL):Prop where
 S:L.S=S
 Sr:R.S=Sr
 st:zQJ R.own w L d 0
 rf:zQT L.own w R σ
 dj:∀b,L.own b->¬R.own b
 inv:Inv p f d
 sz:Sz F n d
 pu:Pu w0 w
 ol:∀b,L.own b->w0.heap.size<=b
 or_:∀b,R.own b->w0.heap.size<=b
theorem Duo.on(h:Duo w0 w S Sr p f F n d σ L R)(hp:Pu w w'):Duo w0 w' S Sr p f F n d σ L R:=⟨h.S,h.Sr,h.st.pu hp,h.rf.pu hp,h.dj,h.inv,h.sz,h.pu.trans hp,h.ol,h.or_⟩
theorem Duo.ptr(h:Duo w0 w S Sr p f F n d σ L R):Value.pointer (some ⟨S,0,none⟩)=L.ptr:=by rw[←h.S]
theorem Duo.ptrR(h:Duo w0 w S Sr p f F n d σ L R):Value.pointer (some ⟨Sr,0,none⟩)=R.ptr:=by rw[←h.Sr]
theorem zQT.side(h:zQT L.own w R σ)(hl:zZi w w' L L')(hd:∀b,L.own b->¬R.own b)(hL:∀b,L'.own b->b<w'.heap.size):zQT L'.own w' R σ where
 st:=hl.fr.blk h.st λe=>hd _ e (.inl rfl)
 cm:=h.cm.fr hl.fr λb hb e=>hd b e (.inr (.inl hb))
 op:=h.op.fr hl.fr λb hb e=>hd b e (.inr (.inr hb))
 cln:=h.cln
 oln:=h.oln
 dj:=h.dj
 xl:=hL
 kp:=λw2 h2=>h.kp w2 ((hl.fr.mono λb hb _=>.inr hb).trans h2 λb hb hlt=>hb.imp id λhb=>(hl.own b hb).resolve_right (by omega))
theorem zQJ.side(h:zQJ R.own w L d 0)(hl:zXu w w' R R')(hd:∀b,L.own b->¬R.own b)(hR:∀b,R'.own b->b<w'.heap.size):zQJ R'.own w' L d 0:=
 have hn:∀b,L.own b->¬R.own b:=hd
 {
  st:=hl.fr.blk h.st (hn _ (.inl rfl))
  lv:=h.lv.fr hl.fr λb hb=>hn b (.inr (.inl hb))
  dn:=h.dn.fr hl.fr λb hb=>hn b (.inr (.inr (.inl hb)))
  wr:=h.wr.fr hl.fr λb hb=>hn b (.inr (.inr (.inr (.inl hb))))
  pt:=h.pt.fr hl.fr λb hb=>hn b (.inr (.inr (.inr (.inr (.inl hb)))))
  now:=h.now.fr hl.fr λb hb=>hn b (.inr (.inr (.inr (.inr (.inr ⟨_,List.mem_cons_self,hb⟩)))))
  ll:=h.ll
  dl:=h.dl
  wl:=h.wl
  lvs:=λi x t h1 h2=>(h.lvs i x t h1 h2).fr hl.fr λb hb=>hn b (.inr (.inr (.inr (.inr (.inr ⟨_,List.mem_cons_of_mem _ (List.mem_of_getElem? h1),hb⟩)))))
  ld:=h.ld
  dj:=h.dj
  djl:=h.djl
  xl:=hR
  kp:=λw2 h2=>h.kp w2 ((hl.fr.mono λb hb _=>.inr hb).trans h2 λb hb hlt=>hb.imp id λhb=>(hl.own b hb).resolve_right (by omega)) }
theorem Duo.act1 (h:Duo w0 w S Sr p f F n d σ L R) {i:Nat} {v:Value} {args:Array Value} (hc:Calls prog i args w (yXr R.own w L v d')) (hi:Inv p f d') (hz:Sz F m d'):Calls prog i args w λe w'=>e=.returned v/\Fr L.own w w'/\∃L',Duo w0 w' S Sr p f F m d' σ L' R:=by
 refine hc.mono ?_
 rintro e w2 ⟨rfl,L2,h2,hl⟩
 have qm:=h.pu.size
 refine⟨rfl,hl.fr,L2,hl.ptr.trans h.S,h.Sr,h2,h.rf.side hl h.dj λb hb=>h2.own_lt hb,λb hb hr=>?_,hi,hz,h.pu.andNew hl.fr h.ol,λb hb=>(hl.own b hb).elim (h.ol b) λhb=>by omega,h.or_⟩
 rcases hl.own b hb with hb|hb
 ·exact h.dj b hb hr
 ·have:=h.rf.own_lt hr;omega
theorem Duo.act2 (h:Duo w0 w S Sr p f F n d σ L R) {i:Nat} {v:Value} {args:Array Value} (hc:Calls prog i args w (zJI L.own w R v σ')):Calls prog i args w λe w'=>e=.returned v/\Fr R.own w w'/\∃R',Duo w0 w' S Sr p f F n d σ' L R':=by
 refine hc.mono ?_
 rintro e w2 ⟨rfl,R2,h2,hl⟩
 have qm:=h.pu.size
 refine⟨rfl,hl.fr,R2,h.S,hl.ptr.trans h.Sr,h.st.side hl h.dj λb hb=>h2.own_lt hb,h2,λb hb hr=>?_,h.inv,h.sz,h.pu.andNew hl.fr h.or_,h.ol,λb hb=>(hl.own b hb).elim (h.or_ b) λhb=>by omega⟩
 rcases hl.own b hr with hr|hr
 ·exact h.dj b hb hr
 ·have:=h.st.own_lt hb;omega
def zKn(x:zZd)(a:Act)(d:Dat):Dat:=
 if a.op=0 then d.begin else if a.op=1 then d.end_ else if a.op=2 then d.back else if a.op=3 then d.app (zVy x a.b)else if a.op=4 then d.put a.a (zVy x a.b)else if a.op=5 then d.mark a.a (a.c != 0)else if a.op=6 then d.set a.a a.s (zWB x a.b)else d.clean
theorem xZS(h:Duo w0 w S Sr p f F n d d.σ L R)(hx:xQ4 w0 x s)(hF:F.1.length<=400000000/\F.2.length<=400000000)(hn:n<=99)(a:Act) :
  Calls prog 17 #[.pointer (some ⟨S,0,none⟩),.pointer (some ⟨Sr,0,none⟩),scA x s,actA a] w λe w'=>e=.returned (.bool true)/\∃L' R',Duo w0 w' S Sr p f F (n+1) (zKn x a d) (zKn x a d).σ L' R':=by
 have hfit:=h.sz.fit h.inv hF (by omega)
 have hdn:d.σ.done.length<=1000000:=by have:=h.sz.dn;omega
 have tH:=h.inv.l8
 refine yY0 _ _ _ _ _ _ _ _ _ _ _ _ _ _ w _ (alB λw1 aq aB=>alB λw2 ar aM=>⟨a.op,cl0 aM,?_⟩)
 have aG:=aq.trans ar
 have b6:=ar.blk aB
 have h2:=h.on aG
 have xZ:∀{b:Nat},w.heap.size<=b->¬L.own b:=λhb ho=>by have:=h.st.own_lt ho;omega
 refine Br.of (λc=>?_) (λc0=>Br.of (λc=>?_) (λc1=>Br.of (λc=>?_) (λc2=>Br.of (λc=>?_) (λc3=>Br.of (λc=>?_) (λc4=>Br.of (λc=>?_) (λc5=>Br.of (λc=>?_) (λc6=>?_)))))))
 ·have c:a.op=0:=by simpa using c
  have eP:zKn x a d=d.begin:=by unfold zKn;rw[if_pos c]
  rw[eP,h2.ptr]
  refine(h2.act1 (yJI h2.st h2.inv.toInvW) (zYW h2.inv) h2.sz.begin).mono ?_
  rintro e w3 ⟨rfl,_,L3,h3⟩
  refine⟨_,rfl,?_⟩
  rw[h3.ptrR]
  refine(h3.act2 (xZJ h3.rf h.inv.t.ok)).mono ?_
  rintro e w4 ⟨rfl,_,R4,h4⟩
  exact⟨_,rfl,by simp,L3,R4,h4⟩
 ·have c:a.op=1:=by simpa using c
  have c0:¬a.op=0:=by simpa using c0
  have eP:zKn x a d=d.end_:=by unfold zKn;rw[if_neg c0,if_pos c]
  rw[eP,h2.ptr]
  refine(h2.act1 (end_c h2.st h2.inv hfit) (xQx h2.inv) h2.sz.end_).mono ?_
  rintro e w3 ⟨rfl,_,L3,h3⟩
  refine⟨_,rfl,?_⟩
  rw[h3.ptrR]
  refine(h3.act2 (rend_c h3.rf h.inv.t.ok h.inv.ne hdn (by omega))).mono ?_
  rintro e w4 ⟨rfl,_,R4,h4⟩
  refine⟨_,rfl,by simp,L3,R4,?_⟩
  rw[Dat.end_σ];exact h4
 ·have c:a.op=2:=by simpa using c
  have c0:¬a.op=0:=by simpa using c0
  have c1:¬a.op=1:=by simpa using c1
  have eP:zKn x a d=d.back:=by unfold zKn;rw[if_neg c0,if_neg c1,if_pos c]
  rw[eP,h2.ptr]
  refine(h2.act1 (xVb h2.st h2.inv.l8) (yKd h2.inv) h2.sz.back).mono ?_
  rintro e w3 ⟨rfl,_,L3,h3⟩
  refine⟨_,rfl,?_⟩
  rw[h3.ptrR]
  refine(h3.act2 (xYs h3.rf (by omega))).mono ?_
  rintro e w4 ⟨rfl,_,R4,h4⟩
  exact⟨_,rfl,by simp,L3,R4,h4⟩
 ·have c:a.op=3:=by simpa using c
  have eP:zKn x a d=d.app (zVy x a.b):=by unfold zKn;rw[c];rfl
  rw[eP]
  refine⟨_,cl b6 0,s.f,cl b6 1,s.r,cl b6 2,s.rs,cl b6 3,s.vs,cl b6 4,s.ac,cl b6 5,a.b,cl aM 2,(yXC hx h2.pu a.b).mono ?_⟩
  rintro e w3 ⟨q,rfl,hq,ax⟩
  refine⟨_,q,rfl,?_⟩
  have h3:=h2.on ax
  have keep:∀{wz:World},Pu w0 wz->∀{B:Nat->Prop},(∀b,B b->w0.heap.size<=b)->∀w2,Fr B wz w2->zX7 w2 q (zVy x a.b).v:=λhz B hB w2 h2=>hq.pu (hz.andNew h2 hB)
  rw[h3.ptr]
  refine(h3.act1 (app_c h3.st h3.inv hfit (keep h3.pu h3.ol)) (xYo h3.inv _) (h3.sz.app _)).mono ?_
  rintro e w4 ⟨rfl,gR,L4,h4⟩
  have rj:=gR.blk (ax.blk b6) (xZ (Nat.le_refl _))
  have x6:=gR.blk (ax.blk aM) (xZ aq.size)
  refine⟨_,_,rfl,_,cl rj 0,s.f,cl rj 1,s.r,cl rj 2,s.rs,cl rj 3,s.vs,cl rj 4,s.ac,cl rj 5,a.b,cl x6 2,(yXC hx h4.pu a.b).mono ?_⟩
  rintro e w5 ⟨q',rfl,hq',aT⟩
  have h5:=h4.on aT
  refine⟨_,q',rfl,?_⟩
  rw[h5.ptrR]
  refine(h5.act2 (rapp_c h5.rf h.inv hdn (hq'.pu h5.pu))).mono ?_
  rintro e w6 ⟨rfl,_,R6,h6⟩
  refine⟨_,_,rfl,Br.of (λ_=>⟨by simp,L4,R6,?_⟩) (λc=>by simp at c)⟩
  rw[Dat.app_σ];exact h6
 ·have c:a.op=4:=by simpa using c
  have eP:zKn x a d=d.put a.a (zVy x a.b):=by unfold zKn;rw[c];rfl
  rw[eP]
  refine zQb λw9 cG _=>?_
  have x7:=cG.blk b6
  have sR:=cG.blk aM
  have h9:=h2.on cG
  refine⟨λu=>u.heap[w.heap.size]?=some (.cells (scC x s).toArray 41)/\u.heap[w1.heap.size]?=some (.cells a.vals.toArray 48),⟨x7,sR⟩,a.a,λu hu=>cl hu.2 1,x.t.page,λu hu=>cl hu.1 0,s.f,λu hu=>cl hu.1 1,s.r,λu hu=>cl hu.1 2,s.rs,λu hu=>cl hu.1 3,s.vs,λu hu=>cl hu.1 4,s.ac,λu hu=>cl hu.1 5,a.b,λu hu=>cl hu.2 2,a.a,λu hu=>cl hu.2 1,x.t.page,λu hu=>cl hu.1 0,s.f,λu hu=>cl hu.1 1,s.r,λu hu=>cl hu.1 2,s.rs,λu hu=>cl hu.1 3,s.vs,λu hu=>cl hu.1 4,s.ac,λu hu=>cl hu.1 5,a.b,λu hu=>cl hu.2 2,(yXC hx h9.pu a.b).mono ?_⟩
  rintro e w3 ⟨q,rfl,hq,ax⟩
  have h3:=h9.on ax
  refine⟨_,q,rfl,⟨ax.blk x7,ax.blk sR⟩,?_⟩
  rw[h3.ptr]
  refine(h3.act1 (put_c h3.st h3.inv hfit a.a (λw2 h2=>hq.pu (h3.pu.andNew h2 h3.ol))) (xYm h3.inv _ _) (h3.sz.put _ _)).mono ?_
  rintro e w4 ⟨rfl,gR,L4,h4⟩
  have rj:=gR.blk (ax.blk x7) (xZ (Nat.le_refl _))
  have x6:=gR.blk (ax.blk sR) (xZ aq.size)
  refine⟨_,rfl,⟨rj,x6⟩,(yXC hx h4.pu a.b).mono ?_⟩
  rintro e w5 ⟨q',rfl,hq',aT⟩
  have h5:=h4.on aT
  refine⟨_,q',rfl,⟨aT.blk rj,aT.blk x6⟩,?_⟩
  rw[h5.ptrR]
  refine(h5.act2 (xY7 h5.rf h.inv hdn a.a (hq'.pu h5.pu))).mono ?_
  rintro e w6 ⟨rfl,_,R6,h6⟩
  refine⟨_,rfl,by simp,L4,R6,?_⟩
  rw[Dat.put_σ];exact h6
 ·have c:a.op=5:=by simpa using c
  have eP:zKn x a d=d.mark a.a (a.c != 0):=by unfold zKn;rw[c];rfl
  rw[eP]
  refine zQb λw9 cG _=>?_
  have sR:=cG.blk aM
  have h9:=h2.on cG
  refine⟨λu=>u.heap[w1.heap.size]?=some (.cells a.vals.toArray 48),sR,a.a,λu hu=>cl hu 1,a.c,λu hu=>cl hu 3,a.a,λu hu=>cl hu 1,a.c,λu hu=>cl hu 3,?_⟩
  rw[h9.ptr]
  refine(h9.act1 (mark_c h9.st h9.inv hfit a.a (a.c != 0)) (xZF h9.inv _ _) (h9.sz.mark _ _)).mono ?_
  rintro e w4 ⟨rfl,gR,L4,h4⟩
  refine⟨_,rfl,gR.blk sR (xZ aq.size),?_⟩
  rw[h4.ptrR]
  refine(h4.act2 (xYG h4.rf h.inv hdn a.a (a.c != 0))).mono ?_
  rintro e w6 ⟨rfl,_,R6,h6⟩
  refine⟨_,rfl,by simp,L4,R6,?_⟩
  rw[Dat.mark_σ];exact h6
 ·have c:a.op=6:=by simpa using c
  have eP:zKn x a d=d.set a.a a.s (zWB x a.b):=by unfold zKn;rw[c];rfl
  rw[eP]
  refine zQb λw9 cG _=>?_
  have x7:=cG.blk b6
  have sR:=cG.blk aM
  have h9:=h2.on cG
  refine⟨λu=>u.heap[w.heap.size]?=some (.cells (scC x s).toArray 41)/\u.heap[w1.heap.size]?=some (.cells a.vals.toArray 48),⟨x7,sR⟩,a.a,λu hu=>cl hu.2 1,a.s,λu hu=>cl hu.2 4,x.t.page,λu hu=>cl hu.1 0,s.f,λu hu=>cl hu.1 1,s.r,λu hu=>cl hu.1 2,s.rs,λu hu=>cl hu.1 3,s.vs,λu hu=>cl hu.1 4,s.ac,λu hu=>cl hu.1 5,a.b,λu hu=>cl hu.2 2,a.a,λu hu=>cl hu.2 1,a.s,λu hu=>cl hu.2 4,x.t.page,λu hu=>cl hu.1 0,s.f,λu hu=>cl hu.1 1,s.r,λu hu=>cl hu.1 2,s.rs,λu hu=>cl hu.1 3,s.vs,λu hu=>cl hu.1 4,s.ac,λu hu=>cl hu.1 5,a.b,λu hu=>cl hu.2 2,(xXt hx h9.pu a.b).mono ?_⟩
  rintro e w3 ⟨rfl,ax⟩
  have h3:=h9.on ax
  refine⟨_,_,_,rfl,⟨ax.blk x7,ax.blk sR⟩,?_⟩
  rw[h3.ptr]
  refine(h3.act1 (xY8 h3.st h3.inv hfit a.a a.s (zWB x a.b)) (yJ2 h3.inv _ _ _) (h3.sz.set _ _ _)).mono ?_
  rintro e w4 ⟨rfl,gR,L4,h4⟩
  have rj:=gR.blk (ax.blk x7) (xZ (Nat.le_refl _))
  have x6:=gR.blk (ax.blk sR) (xZ aq.size)
  refine⟨_,rfl,⟨rj,x6⟩,(xXt hx h4.pu a.b).mono ?_⟩
  rintro e w5 ⟨rfl,aT⟩
  have h5:=h4.on aT
  refine⟨_,_,_,rfl,⟨aT.blk rj,aT.blk x6⟩,?_⟩
  rw[h5.ptrR]
  refine(h5.act2 (rset_c h5.rf h.inv hdn a.a a.s (zWB x a.b))).mono ?_
  rintro e w6 ⟨rfl,_,R6,h6⟩
  refine⟨_,rfl,by simp,L4,R6,?_⟩
  rw[Dat.set_σ];exact h6
 ·have c0:¬a.op=0:=by simpa using c0
  have c1:¬a.op=1:=by simpa using c1
  have c2:¬a.op=2:=by simpa using c2
  have c3:¬a.op=3:=by simpa using c3
  have c4:¬a.op=4:=by simpa using c4
  have c5:¬a.op=5:=by simpa using c5
  have c6:¬a.op=6:=by simpa using c6
  have eP:zKn x a d=d.clean:=by unfold zKn;rw[if_neg c0,if_neg c1,if_neg c2,if_neg c3,if_neg c4,if_neg c5,if_neg c6]
  rw[eP,h2.ptr]
  refine(h2.act1 (xYk h2.st h2.inv hfit) (xZb h2.inv) (h2.sz.clean h2.inv)).mono ?_
  rintro e w3 ⟨rfl,_,L3,h3⟩
  refine⟨_,rfl,?_⟩
  rw[h3.ptrR]
  refine(xJz h3.rf).mono ?_
  rintro e w4 ⟨rfl,aK⟩
  refine⟨_,rfl,by simp,L3,R,?_⟩
  rw[Dat.clean_σ];exact h3.on aK
end Go.Proofs.YtaeecpjhfmcliaaGreatDoor
/- The log: a script is begun, and played. No condition but those stated. -/
namespace Go.Proofs.YtaeecpjhfmcliaaGreatDoor
open Go.Sh Go.RowKit Tryz
variable {w0 w w' : World} {X : Nat -> Prop} {S Sr n m : Nat} {p : Int} {f : List Fld} {F : Fls} {d d' : Dat} {σ σ' : Sto} {L L' : SL} {R R' : RL} {x : zZd} {s : ScV} {mu : Int}
theorem zQJ.reX{Y:Nat->Prop}(h:zQJ X w L d mu)(hp:Pu w w')(hY:∀b,Y b->b<w'.heap.size)(hk:∀b,Y b->b<w.heap.size->X b):zQJ Y w' L d mu:=
 let h1:=h.pu hp
 {
  st:=h1.st,lv:=h1.lv,dn:=h1.dn,wr:=h1.wr,pt:=h1.pt,now:=h1.now,ll:=h1.ll,dl:=h1.dl,wl:=h1.wl,lvs:=h1.lvs,ld:=h1.ld,dj:=h1.dj,djl:=h1.djl,xl:=hY
  kp:=λw2 h2=>h.kp w2 ((Fr.pu hp:Fr (λb=>L.own b∨X b) w w').trans h2 λb hb hlt=>hb.imp id λhb=>hk b hb hlt) }
theorem Duo.alone(h:Duo w0 w S Sr p f F n d σ L R):KnS (λ_=>False) w0 w S p f F n d L:=⟨h.S,h.st.reX (Pu.refl _) (λb hb=>hb.elim) (λb hb=>hb.elim),h.inv,h.sz,h.pu,h.ol⟩
theorem yZn{t:Tbl}(hv:zQg t=0):(zQj t,([]:List UInt8)).1.length<=400000000/\(zQj t,([]:List UInt8)).2.length<=400000000:=⟨by have:=zJh (zJj.of hv);show(zQj t).length<=_;omega,by show 0<=_;omega⟩
def BegR(w:World)(x:zZd):Rt:=λe w'=>Pu w w'/\((zQg x.t ≠ 0/\e=.returned (.tuple #[.pointer none,.pointer none,.bool true]))∨zQg x.t=0/\∃S Sr L R,e=.returned (.tuple #[.pointer (some ⟨S,0,none⟩),.pointer (some ⟨Sr,0,none⟩),.bool true])/\
 Duo w w' S Sr x.t.page x.t.fields (zQj x.t,[]) 0 (Dat.new x.t (zQj x.t,[])) (Dat.new x.t (zQj x.t,[])).σ L R)
theorem xYV {t:Tbl} {f r:SV} {w1 w2:World} (hv:zQg t=0) (h1:zQJ (λ_=>False) w1 L (Dat.new t (zQj t,[])) 0) (ho:∀b,L.own b->w.heap.size<=b) (hp:Pu w w1) (ar:Pu w1 w2) (h2:zQT L.own w2 R (Sto.new t)) (hR:∀b,R.own b->w1.heap.size<=b) :
  Duo w w2 L.S R.S t.page t.fields (zQj t,[]) 0 (Dat.new t (zQj t,[])) (Dat.new t (zQj t,[])).σ L R:=
 ⟨rfl,rfl,h1.reX ar (λb hb=>h2.own_lt hb) (λb hb hlt=>by have:=hR b hb;omega),h2,λb hb hr=>by have:=h1.own_lt hb;have:=hR b hr;omega,yXW hv (yXy hv),Sz.new _ _,hp.trans ar,ho,λb hb=>by have:=hR b hb;have:=hp.size;omega⟩
theorem xYl(h:xQ4 w x s)(hl:Lim.ok x.t.fields):Calls prog 16 #[scA x s] w (BegR w x):=by
 refine yYw _ _ _ _ _ _ w _ (alB λw1 aq aB=>⟨_,cl aB 0,s.f,cl aB 1,s.r,cl aB 2,(new_c (X:=λ_=>False) (h.t.pu aq) hl λb hb=>hb.elim).mono ?_⟩)
 rintro e w2 ⟨ar,⟨hv,rfl⟩|⟨hv,q,rfl,L,rfl,h2,ho⟩⟩
 ·have b2:=ar.blk aB
  refine⟨_,_,rfl,_,cl b2 0,s.f,cl b2 1,s.r,cl b2 2,(xVd (X:=λ_=>False) (h.t.pu (aq.trans ar)) λb hb=>hb.elim).mono ?_⟩
  rintro e w3 ⟨ax,⟨_,rfl⟩|⟨hv',_⟩⟩
  ·have hne:(true == (zQg x.t != 0))=true:=by simp[hv]
   exact⟨_,_,rfl,Br.of (λc=>by simp at c) λ_=>⟨true,w3,zXW xYp _ _ none w3,Br.of (λc=>by rw[hne]at c;cases c) λ_=>⟨(aq.trans ar).trans ax,.inl ⟨hv,rfl⟩⟩⟩⟩
  ·exact absurd hv' hv
 ·have b2:=ar.blk aB
  refine⟨_,_,rfl,_,cl b2 0,s.f,cl b2 1,s.r,cl b2 2,(xVd (X:=L.own) (h.t.pu (aq.trans ar)) λb hb=>h2.own_lt hb).mono ?_⟩
  rintro e w3 ⟨ax,⟨hv',_⟩|⟨_,q,rfl,R,rfl,h3,hR⟩⟩
  ·exact absurd hv hv'
  ·refine⟨_,_,rfl,Br.of (λc=>by cases c) λ_=>⟨false,w3,zXW xYp _ _ (some _) w3,Br.of (λc=>by cases c) λ_=>⟨(aq.trans ar).trans ax,.inr ⟨hv,L.S,R.S,L,R,rfl,?_⟩⟩⟩⟩
   exact xYV (f:=s.f) (r:=s.r) hv h2 (λb hb=>by have:=ho b hb;have:=aq.size;omega) (aq.trans ar) ax h3 hR
def ToR(w:World)(x:zZd):Rt:=λe w'=>Pu w w'/\((zQg x.t ≠ 0/\e=.returned (.tuple #[.pointer none,.bool true]))∨zQg x.t=0/\∃S L d,e=.returned (.tuple #[.pointer (some ⟨S,0,none⟩),.bool true])/\
 KnS (λ_=>False) w w' S x.t.page x.t.fields (zQj x.t,[]) x.acts.length d L)
theorem xZd(h:xQ4 w x s)(hl:Lim.ok x.t.fields)(h80:x.acts.length<=80):Calls prog 31 #[scA x s] w (ToR w x):=by
 have hal:=h.ac.len
 refine xQi _ _ _ _ _ _ w _ (alB λw1 aq aB=>⟨_,cl aB 0,s.f,cl aB 1,s.r,cl aB 2,s.rs,cl aB 3,s.vs,cl aB 4,s.ac,cl aB 5,(xYl (h.pu aq) hl).mono ?_⟩)
 have z1:=aq.size
 rintro e w2 ⟨ar,⟨hv,rfl⟩|⟨hv,S,Sr,L,R,rfl,hD⟩⟩
 ·exact⟨_,_,_,rfl,Br.of (λc=>by cases c) λ_=>⟨true,w2,zXW xYp _ _ none w2,Br.of (λ_=>⟨aq.trans ar,.inl ⟨hv,rfl⟩⟩) λc=>by cases c⟩⟩
 ·refine⟨_,_,_,rfl,Br.of (λc=>by cases c) λ_=>⟨false,w2,zXW xYp _ _ (some _) w2,Br.of (λc=>by cases c) λ_=>?_⟩⟩
  refine zQx x.acts.length (λk u w'=>u=(k:Int)/\∃L R d,Duo w1 w' S Sr x.t.page x.t.fields (zQj x.t,[]) k d d.σ L R) ⟨rfl,L,R,_,hD⟩ ?_
  rintro k J u wa hk ⟨hu,La,Ra,da,hDa⟩ hJ
  obtain rfl:u=(k:Int):=hu
  have ba:=hDa.pu.blk aB
  refine⟨s.ac,cl ba 5,Br.of (λc=>zQb λwb hpb _=>?_) (λc=>?_)⟩
  ·have hkn:k<x.acts.length:=by have:=zQk c;omega
   obtain⟨a,ha⟩:=zQL hkn
   have hDb:=hDa.on hpb
   have bb:=hpb.blk ba
   obtain⟨ad,had,hadl,_,c0,c1,c2,c3,c4,c5⟩:=actAt (h.ac.pu (aq.trans hDb.pu)) ha
   refine⟨_,cl bb 0,s.f,cl bb 1,s.r,cl bb 2,s.rs,cl bb 3,s.vs,cl bb 4,s.ac,cl bb 5,s.ac,cl bb 5,ad,had,by omega,by omega,?_⟩
   rw[zXf]
   refine⟨_,c0,_,c1,_,c2,_,c3,_,c4,_,c5,(xZS hDb (h.pu aq) (yZn hv) (by omega) a).mono ?_⟩
   rintro e wc ⟨rfl,L',R',hDc⟩
   refine⟨_,rfl,Br.of (λc=>by cases c) λ_=>?_⟩
   rw[zQa (by omega) (by omega)]
   exact hJ _ _ hkn ⟨rfl,L',R',_,hDc⟩
  ·have hkn:k=x.acts.length:=by have:=zQe c;omega
   subst hkn
   have hK:=hDa.alone
   exact⟨aq.trans hDa.pu,.inr ⟨hv,S,La,da,rfl,hK.S,hK.at_,hK.inv,hK.sz,aq.trans hK.pu,λb hb=>by have:=hK.own b hb;omega⟩⟩
end Go.Proofs.YtaeecpjhfmcliaaGreatDoor
/- The log: what a fall leaves. No condition but those stated. -/
namespace Go.Proofs.YtaeecpjhfmcliaaGreatDoor
open Go.Sh Go.RowKit Tryz
variable {w0 w w' : World} {X : Nat -> Prop} {S n m : Nat} {p : Int} {f : List Fld} {F : Fls} {d d' : Dat} {L L' : SL}
theorem zV3.at_ {q:SV} {l:List Int} (hq:zV3 w0 w q l) {k:Nat} {v:Int} (hv:l[k]?=some v):∃a,q.a=some a/\w.cell? (a.add (k * 1))=some (.int .i64 v):=by
 have h1:=hq.1
 rw[show l.map yWR=l.flatMap (λv=>[yWR v])by clear hv h1 hq;induction l with|nil=>rfl|cons a l ih=>rw[List.map_cons,List.flatMap_cons,ih];rfl]at h1
 obtain⟨a,ha,_,c0⟩:=h1.elem (cells:=λv=>[yWR v]) (l:=l) (λ_=>rfl) hv (o:=0) rfl
 exact⟨a,ha,by rw[yKR]at c0;exact c0⟩
end Go.Proofs.YtaeecpjhfmcliaaGreatDoor
/- The law of what is opened, walked. No condition. -/
namespace Go.Proofs.YtaeecpjhfmcliaaGreatDoor
open Go.Sh Go.RowKit Tryz
variable {w w' : World}
theorem zV2(F:Fls):1<=(zQO F).length:=by
 have h:∀(l:List Wr) (acc:List Fls),1<=acc.length->1<=(l.foldl (λl x=>l ++ [zQw (l.getLast?.getD F) x]) acc).length:=by
  intro l
  induction l with
  | nil=>intro acc h;exact h
  | cons x l ih=>
   intro acc h
   rw[List.foldl_cons]
   exact ih _ (by rw[List.length_append];omega)
 exact h _ _ (by simp)
end Go.Proofs.YtaeecpjhfmcliaaGreatDoor
/- The law of one fall, walked. No condition. -/
namespace Go.Proofs.YtaeecpjhfmcliaaGreatDoor
open Go.Sh Go.RowKit Tryz
variable {w0 w w' : World} {S n m : Nat} {p : Int} {f : List Fld} {F : Fls} {d d' : Dat} {L L' : SL} {x : zZd} {s : ScV}
def yVy(w:World):Rt:=λe w'=>e=.returned (.bool true)/\Pu w w'
theorem yYS(hp:Pu w0 w):Calls prog 10 #[] w λe w1=>∃b:Bool,e=.returned (.bool b)/\zQc prog [] w1 λw2=>yVy w0 (.returned (.bool b)) w2:=by
 refine(xYJ w).mono ?_
 rintro e w1 ⟨rfl,aq⟩
 exact⟨_,rfl,rfl,hp.trans aq⟩
theorem KnS.small (h:KnS (λ_=>False) w0 w S x.t.page x.t.fields (zQj x.t,[]) n d L) (hv:zQg x.t=0) (hn:n<=100):Small d:=h.sz.small h.inv (yZn hv) hn
theorem KnS.pts (h:KnS (λ_=>False) w0 w S p f F n d L) (hn:n<=100):d.pts.length<=1000000:=by
 have:=h.inv.hist.len
 have:=h.sz.dn
 omega
end Go.Proofs.YtaeecpjhfmcliaaGreatDoor
/- The law of recoveries, walked. No condition. -/
namespace Go.Proofs.YtaeecpjhfmcliaaGreatDoor
open Go.Sh Go.RowKit Tryz
variable {w0 w1 w w' : World} {X Y : Nat -> Prop} {S n m : Nat} {p : Int} {f : List Fld} {F G : Fls} {d d' : Dat} {L L' : SL} {x : zZd} {s : ScV} {q : SV} {ps : List (SV × SV)} {t : Tbl}
theorem xXG(h:G ∈ zQO F):∃k,G=((zQ8 F).take k).foldl zQw F:=by
 have key:∀k,k<=(zQ8 F).length->∀G ∈ zZb F k,∃k',G=((zQ8 F).take k').foldl zQw F:=by
  intro k
  induction k with
  | zero=>
   intro _ G hG
   have hG:G ∈ [F]:=hG
   exact⟨0,by rw[List.mem_singleton.1 hG];rfl⟩
  | succ k ih=>
   intro hk G hG
   obtain⟨y,hy⟩:=zQL (l:=zQ8 F) (k:=k) (by omega)
   rw[zWj hy,List.mem_append]at hG
   rcases hG with hG|hG
   ·exact ih (by omega) G hG
   ·refine⟨k+1,?_⟩
    rw[List.mem_singleton.1 hG,zQE hy,List.foldl_append];rfl
 have e:zQO F=zZb F (zQ8 F).length:=by unfold zZb zQO;rw[List.take_length]
 rw[e]at h
 exact key _ (Nat.le_refl _) G h
theorem yXm(F:Fls):(zQ8 F).length<=4:=by
 unfold zQ8
 rw[List.length_append]
 have h1:(if (zQ9 F).2.1=[]then([]:List Wr)else [⟨1,F.2.length - (zQ9 F).2.1.length,[]⟩]).length<=1:=by split <;> simp
 have h2:(if (zQ9 F).2.2 then [⟨0,0,[]⟩,⟨0,0,zQC ((zQ9 F).1.getD yJ6)⟩,(⟨1,0,[]⟩:Wr)]else []).length<=3:=by split <;> simp
 omega
theorem yXn(hF:F.1.length<=770000000/\F.2.length<=770000000)(h:G ∈ zQO F):G.1.length<=800000000/\G.2.length<=800000000:=by
 obtain⟨k,rfl⟩:=xXG h
 have h1:=zKt (F:=F) (W:=(zQ8 F).take k) (c:=770000000) hF λy hy=>(zJO (List.mem_of_mem_take hy)).2.2
 have h2:((zQ8 F).take k).length<=4:=by rw[List.length_take];have:=yXm F;omega
 omega
theorem zZa.at_ (h:zZa w0 w q ps (zQO F)) (hF:F.1.length<=770000000/\F.2.length<=770000000) {i:Nat} (hi:(zQO F)[i]?=some G):∃(a:Addr) (y:SV × SV),q.a=some a/\q.len=(zQO F).length/\w.cell? ((a.add (i * 2)).add 0)=some (slV y.1)/\w.cell? ((a.add (i * 2)).add 1)=some (slV y.2)/\ByV w y.1 G.1/\ByV w y.2 G.2:=by
 have hl:=h.row.len zZX (by decide)
 have hpl:=h.len
 have hlt:=(List.getElem?_eq_some_iff.1 hi).1
 obtain⟨y,hy⟩:=zQL (l:=ps) (k:=i) (by omega)
 obtain⟨a,ha,_,c0⟩:=h.row.elem zZX hy (o:=0) rfl
 obtain⟨a',ha',_,c1⟩:=h.row.elem zZX hy (o:=1) rfl
 rw[ha]at ha';cases ha'
 obtain⟨n0,n1⟩:=h.each i y G hy hi
 have hle:=yXn hF (List.mem_of_getElem? hi)
 exact⟨a,y,ha,by omega,c0,c1,n0.by (by omega),n1.by (by omega)⟩
structure kQa (w0 w:World) (F:Fls) (t:Tbl) (q:SV) (ps:List (SV × SV)) (Lo:SL):Prop where
 pu:Pu w0 w
 tb:(zQ9 F).1=some t
 le:F.1.length<=770000000/\F.2.length<=770000000
 st:zQJ (λ_=>False) w Lo (Dat.new t (zKb F)) 0
 ps:zZa w0 w q ps (zQO F)
theorem kQa.on{Lo:SL}(h:kQa w0 w F t q ps Lo)(hp:Pu w w'):kQa w0 w' F t q ps Lo:=⟨h.pu.trans hp,h.tb,h.le,h.st.pu hp,h.ps.pu hp⟩
theorem xZR{Lo:SL}(h:kQa w0 w F t q ps Lo):F7_1 (yVy w0) (some ⟨Lo.S,0,none⟩) q [] w:=by
 have hv:zQg t=0:=zJd h.tb
 have hM:=kQb h.tb hv
 have hpos:=zV2 F
 refine zQb λwb hpb _=>?_
 have hb:=h.on hpb
 have hlast:=hM.end_
 rw[List.getLast?_eq_getElem?]at hlast
 obtain⟨a,y,ha,hql,c0,c1,b0,b1⟩:=hb.ps.at_ hb.le hlast
 have hle:=yXn hb.le (List.mem_of_getElem? hlast)
 have hK:=yXm F
 have hsl:(zQO F).length<=5:=by
  have e:zQO F=zZb F (zQ8 F).length:=by unfold zZb zQO;rw[List.take_length]
  rw[e]
  have:=zJE F (zQ8 F).length
  omega
 have hwr:IntKind.i64.wrap (((q.len:Nat):Int) - 1)=((((zQO F).length - 1:Nat)):Int):=by rw[zQa (by omega) (by omega)];omega
 refine⟨a,ha,?_⟩
 rw[hwr,zXf]
 refine⟨by omega,by omega,by decide,by decide,y.1,c0,a,ha,by omega,by omega,by decide,by decide,y.2,c1,(yYC b0 b1 hle.1 hle.2).mono ?_⟩
 have hnone:zQ8 (zKb F)=[]:=yWw hM.last
 have hone:zQO (zKb F)=[zKb F]:=by unfold zQO;rw[hnone];rfl
 rintro e w2 ⟨ar,⟨hN,_⟩|⟨t2,hT2,q2,ps2,rfl,hP2⟩⟩
 ·have hN:(zQ9 (zKb F)).1=none:=hN
  rw[hM.last]at hN;cases hN
 have hP2:zZa wb w2 q2 ps2 (zQO (zKb F)):=hP2
 have pA:=hP2.row.len zZX (by decide)
 have hpl2:=hP2.len
 rw[hone]at hpl2
 have qM:q2.len=1:=by rw[pA,hpl2];rfl
 refine⟨q2,_,rfl,zQb λw3 ax _=>?_⟩
 have iY:=ar.trans ax
 have h3:=hb.on iY
 refine⟨a,ha,?_⟩
 refine⟨by omega,by omega,by decide,by decide,y.1,iY.cell c0,a,ha,by omega,by omega,by decide,by decide,y.2,iY.cell c1,(xZl (X:=λ_=>False) (b0.pu iY) (b1.pu iY) hle.1 hle.2 λb hb=>hb.elim).mono ?_⟩
 rintro e w4 ⟨aK,⟨hN,_⟩|⟨t4,_,tJ,rfl,L4,rfl,h4,_⟩⟩
 ·have hN:(zQ9 (zKb F)).1=none:=hN
  rw[hM.last]at hN;cases hN
 have tJ:(zQ9 (zKb F)).1=some t4:=tJ
 rw[hM.last]at tJ
 cases tJ
 have sP:=h3.on aK
 refine⟨_,_,rfl,Br.of (λ_=>Br.of (λ_=>Br.of (λ_=>?_) λc=>by cases c) λc=>by rw[qM]at c;cases c) λc=>by cases c⟩
 refine(zZA h4 (show zQg t=0 from hv)).mono ?_
 rintro e w5 ⟨z,rfl,hz,aT⟩
 have hz:zKW w4 w5 t z:=hz
 have kK:=sP.on aT
 refine⟨z.page,z.f,z.r,rfl,(zZA kK.st (show zQg t=0 from hv)).mono ?_⟩
 rintro e w6 ⟨z2,rfl,qm,bn⟩
 have qm:zKW w5 w6 t z2:=qm
 have sQ:=kK.on bn
 refine⟨z2.page,z2.f,z2.r,rfl,?_⟩
 rw[hz.tab.page,qm.tab.page]
 refine(zY7 ((hz.pu bn).rd hv) (qm.rd hv)).mono ?_
 rintro e w7 ⟨rfl,ck⟩
 rw[decide_eq_true rfl]
 exact⟨_,rfl,Br.of (λ_=>yYS (sQ.pu.trans ck)) λc=>by cases c⟩
theorem kQj{Lo:SL}(h:kQa w0 w F t q ps Lo):zVh (yVy w0) (some ⟨Lo.S,0,none⟩) q false [] w:=by
 have hv:zQg t=0:=zJd h.tb
 have hM:=kQb h.tb hv
 have hpos:=zV2 F
 have hl:=h.ps.row.len zZX (by decide)
 have hpl:=h.ps.len
 have hK:=yXm F
 have hsl:(zQO F).length<=5:=by
  have e:zQO F=zZb F (zQ8 F).length:=by unfold zZb zQO;rw[List.take_length]
  rw[e]
  have:=zJE F (zQ8 F).length
  omega
 refine Br.of (λc=>by cases c) λ_=>⟨rfl,by decide,?_⟩
 have e1:IntKind.i64.wrap (IntKind.i64.wrap (((q.len:Nat):Int).tdiv 120)+1)=1:=by
  have e2:((q.len:Nat):Int).tdiv 120=0:=by rw[Int.tdiv_eq_ediv_of_nonneg (by omega)];omega
  rw[e2];rfl
 rw[e1]
 refine zQx (zQO F).length (λk u w'=>u=(k:Int)/\kQa w0 w' F t q ps Lo) ⟨rfl,h⟩ ?_
 rintro k J u wa hk ⟨hu,ha⟩ hJ
 obtain rfl:u=(k:Int):=hu
 refine Br.of (λc=>zQb λwb hpb _=>?_) (λc=>xZR ha)
 have hkn:k<(zQO F).length:=by have:=zQk c;omega
 obtain⟨G,hG⟩:=zQL hkn
 have hb:=ha.on hpb
 obtain⟨a,y,haq,hql,c0,c1,b0,b1⟩:=hb.ps.at_ hb.le hG
 have hle:=yXn hb.le (List.mem_of_getElem? hG)
 have hGt:=hM.each G (List.mem_of_getElem? hG)
 refine⟨a,haq,by omega,by omega,by decide,by decide,y.1,by rw[zXf];exact c0,a,haq,by omega,by omega,by decide,by decide,y.2,by rw[zXf];exact c1,(xZl (X:=λ_=>False) b0 b1 hle.1 hle.2 λb hb=>hb.elim).mono ?_⟩
 rintro e w4 ⟨aK,⟨hN,_⟩|⟨t4,_,tJ,rfl,L4,rfl,h4,_⟩⟩
 ·have hN:(zQ9 G).1=none:=hN
  rw[hGt]at hN;cases hN
 have tJ:(zQ9 G).1=some t4:=tJ
 rw[hGt]at tJ
 cases tJ
 have sP:=hb.on aK
 refine⟨_,_,rfl,Br.of (λc=>by cases c) λ_=>(zZA h4 (show zQg t=0 from hv)).mono ?_⟩
 rintro e w5 ⟨z,rfl,hz,aT⟩
 have hz:zKW w4 w5 t z:=hz
 have kK:=sP.on aT
 refine⟨z.page,z.f,z.r,rfl,(zZA kK.st (show zQg t=0 from hv)).mono ?_⟩
 rintro e w6 ⟨z2,rfl,qm,bn⟩
 have qm:zKW w5 w6 t z2:=qm
 have sQ:=kK.on bn
 refine⟨z2.page,z2.f,z2.r,rfl,?_⟩
 rw[hz.tab.page,qm.tab.page]
 refine(zY7 ((hz.pu bn).rd hv) (qm.rd hv)).mono ?_
 rintro e w7 ⟨rfl,ck⟩
 rw[decide_eq_true rfl]
 refine⟨_,rfl,Br.of (λc=>by cases c) λ_=>?_⟩
 rw[zQa (n:=(k:Int)+1) (by omega) (by omega)]
 exact hJ _ _ hkn ⟨by omega,sQ.on ck⟩
end Go.Proofs.YtaeecpjhfmcliaaGreatDoor
/- The law of recoveries: all of it. No condition. -/
namespace Go.Proofs.YtaeecpjhfmcliaaGreatDoor
open Go.Sh Go.RowKit Tryz
variable {w0 w w' : World} {S n m : Nat} {F G : Fls} {d d' : Dat} {L L' : SL} {x : zZd} {s : ScV} {q l0 l1 : SV} {ps : List (SV × SV)} {t : Tbl}
theorem xYi{Lo:SL}(h:kQa w0 w F t q ps Lo)(h0:ByV w l0 F.1)(h1:ByV w l1 F.2):F7_6 (yVy w0) l0 l1 0 (some ⟨Lo.S,0,none⟩) 0 q 0 [] w:=by
 have hv:zQg t=0:=zJd h.tb
 have hM:=kQb h.tb hv
 have hpos:=zV2 F
 have hl:=h.ps.row.len zZX (by decide)
 have hpl:=h.ps.len
 refine zQb λwb hpb _=>?_
 have hb:=h.on hpb
 have k0:=h0.pu hpb
 have k1:=h1.pu hpb
 have hhead:(zQO F)[0]?=some F:=by rw[←List.head?_eq_getElem?];exact hM.head
 obtain⟨a,y,haq,hql,c0,c1,b0,b1⟩:=hb.ps.at_ hb.le hhead
 rw[Nat.zero_mul,yKR]at c0 c1
 have e0:=zWr b0
 have e1:=zWr b1
 have f0:=zWr k0
 have f1:=zWr k1
 have fin:zVh (yVy w0) (some ⟨Lo.S,0,none⟩) q (!((bs F.2).toList == (bs F.2).toList)) [] wb:=by
  rw[beq_self_eq_true];exact kQj hb
 have hz:((((q.len:Nat):Int) == 0))=false:=by
  have:q.len ≠ 0:=by omega
  simpa using this
 have yq:a.add ((0:Int).toNat * 2)=a:=by show a.add 0=a;exact yKR a
 refine⟨λu=>Pu wb u,Pu.refl _,Br.of (λc=>by cases c) λ_=>Br.of (λc=>by cases c) λ_=>Br.of (λc=>by cases c) λ_=>Br.of (λc=>by rw[hz]at c;cases c) λ_=>⟨a,haq,by omega,by omega,by decide,by decide,y.1,λu hu=>by rw[yq];exact hu.cell c0,?_⟩⟩
 have r93:∀w',Pu wb w'->w'.cell? ((a.add ((0:Int).toNat * 2)).add ((1:Int).toNat * 1))=some (slV y.2):=λu hu=>by rw[yq];exact hu.cell c1
 refine⟨⟨_,wb,e0,Pu.refl _,_,wb,f0,Pu.refl _,Br.of (λc=>by simp at c) λ_=>⟨a,haq,by omega,by omega,by decide,by decide,y.2,r93,⟨_,wb,e1,_,wb,f1,fin⟩,⟨_,wb,f1,Pu.refl _,_,wb,e1,fin⟩⟩⟩,⟨_,wb,f0,Pu.refl _,_,wb,e0,Pu.refl _,Br.of (λc=>by simp at c) λ_=>⟨a,haq,by omega,by omega,by decide,by decide,y.2,r93,⟨_,wb,e1,_,wb,f1,fin⟩,⟨_,wb,f1,Pu.refl _,_,wb,e1,fin⟩⟩⟩⟩
theorem yXo(w:World)(x:zZd)(s:ScV)(h:xQ4 w x s)(hl:Lim.ok x)(n:Int)(_:zZV n)(k:Int)(_:zZV k):Calls prog 7 #[scA x s,.int .i64 n,.int .i64 k] w λe w'=>e=.returned (.bool true)/\Pu w w':=by
 refine xJf _ _ _ _ _ _ n k w (yVy w) (alB λw1 aq aB=>⟨_,cl aB 0,s.f,cl aB 1,s.r,cl aB 2,s.rs,cl aB 3,s.vs,cl aB 4,s.ac,cl aB 5,(over_c (h.pu aq)).mono ?_⟩)
 rintro e w2 ⟨b,rfl,ar,hov⟩
 have aG:=aq.trans ar
 have b2:=ar.blk aB
 refine⟨b,rfl,Br.of (λ_=>yYS aG) λc=>⟨_,cl b2 0,s.f,cl b2 1,s.r,cl b2 2,s.rs,cl b2 3,s.vs,cl b2 4,s.ac,cl b2 5,(xZd (h.pu aG) hl.1.1 (hov c).1).mono ?_⟩⟩
 have h80:=(hov c).1
 rintro e w3 ⟨ax,⟨hv,rfl⟩|⟨hv,S,L,d,rfl,hK⟩⟩
 ·exact⟨_,_,rfl,true,w3,zXW xYp _ _ none w3,Br.of (λ_=>Br.of (λ_=>yYS (aG.trans ax)) λc=>by cases c) λc=>by cases c⟩
 ·have yC:KnS (λ_=>False) w w3 S x.t.page x.t.fields (zQj x.t,[]) x.acts.length d L:=⟨hK.S,hK.at_,hK.inv,hK.sz,aG.trans hK.pu,λb hb=>by have:=hK.own b hb;have:=aG.size;omega⟩
  have hs:=yC.small hv (by omega)
  refine⟨_,_,rfl,false,w3,zXW xYp _ _ (some _) w3,Br.of (λc=>by cases c) λ_=>⟨_,w3,yXf _ _ _ _ _ _,?_⟩⟩
  rw[yC.ptr]
  refine(xZ0 yC.at_).mono ?_
  rintro e w4 ⟨rfl,aK⟩
  have hK4:=yC.on aK
  obtain⟨m,hm,hmw⟩:∃m:Nat,min (max n 0) ((d.wr.length:Nat):Int)=(m:Int)/\m<=d.wr.length:=⟨(min (max n 0) ((d.wr.length:Nat):Int)).toNat,by omega,by omega⟩
  obtain⟨k',hk',fj⟩:∃k',k'=max k 0/\0<=k':=⟨_,rfl,by omega⟩
  refine⟨_,rfl,_,w4,yXp _ _ _ _ _ _,_,w4,yXf _ _ _ _ _ _,?_⟩
  rw[hm,←hk']
  refine(xYX hK4.at_ hs m k').mono ?_
  rintro e w5 ⟨r0,r1,rfl,n0,n1,aT⟩
  have eC:zYZ d (m:Int) k'=0:=by unfold zYZ;rw[if_neg (by omega)]
  have eG:zWc d (m:Int) k'=zVc d.first d.wr m k':=by unfold zWc;rw[if_neg (by omega),zXf]
  rw[eG]at n0 n1
  rw[eC]
  have hfl:=hs.fall m k'
  obtain⟨t,j,hT,_⟩:=hK4.inv.hist.fall hmw k'
  have y0:=n0.by (by omega)
  have y1:=n1.by (by omega)
  refine⟨r0,r1,_,rfl,(xZl (X:=λ_=>False) y0 y1 (by omega) (by omega) λb hb=>hb.elim).mono ?_⟩
  rintro e w6 ⟨bn,⟨hN,_⟩|⟨t',_,hT',rfl,Lo,rfl,ho,_⟩⟩
  ·exact absurd hN (by rw[hT];simp)
  obtain rfl:t=t':=by
   have hT':(zQ9 (zVc d.first d.wr m k')).1=some t':=hT'
   rw[hT]at hT';exact Option.some.inj hT'
  refine⟨_,_,rfl,(yYC (y0.pu bn) (y1.pu bn) (by omega) (by omega)).mono ?_⟩
  rintro e w7 ⟨ck,⟨hN,_⟩|⟨t2,_,q,ps,rfl,hP⟩⟩
  ·exact absurd hN (by rw[hT];simp)
  have hpw:Pu w w6:=(hK4.pu.trans aT).trans bn
  have hz:=hpw.size
  have hP0:zZa w w7 q ps (zQO (zVc d.first d.wr m k')):=⟨hP.row,λb hb=>by have:=hP.rn b hb;omega,hP.len,λi x F hx hF=>⟨(hP.each i x F hx hF).1.low hz,(hP.each i x F hx hF).2.low hz⟩⟩
  exact⟨q,_,rfl,xYi (t:=t) ⟨hpw.trans ck,hT,⟨by omega,by omega⟩,ho.pu ck,hP0⟩ ((y0.pu bn).pu ck) ((y1.pu bn).pu ck)⟩
end Go.Proofs.YtaeecpjhfmcliaaGreatDoor
