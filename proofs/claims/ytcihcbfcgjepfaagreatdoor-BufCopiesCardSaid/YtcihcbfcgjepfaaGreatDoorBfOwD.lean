import Derived.Test.YtcihcbfcgjepfaaGreatDoorBfOwC
import Derived.Test.YtcihcbfcgjepfaaGreatDoorBfPrB
import Derived.Test.YtcihcbfcgjepfaaGreatDoorShEleven
import Derived.RangeFuncBox
import Derived.RangeFuncLeaves
import Derived.RangeFuncBound
import Derived.RangeFuncNested
import Derived.Shelf.Abstract
import Derived.WalkKit
import Derived.OwnWalkIn
import Derived.TacticsInMore
import Derived.LoopNIn
import Derived.LoopIn
import Derived.Maps.AppendAt
import Derived.Sort.MapsRangeIn
import Derived.Sort.OwnSortedInts
import Derived.Test.YtcihcbfcgjepfaaGreatDoorBfSortI
import Derived.Test.YtcihcbfcgjepfaaGreatDoorBfPrA
import Derived.Test.YtcihcbfcgjepfaaGreatDoorShSeventeen
/- Desks: the lock of a record; what Set and Mark do with the record at which a user is. No condition but those stated. -/
set_option maxRecDepth 100000
set_option linter.unusedVariables false
set_option linter.unusedSimpArgs false
namespace Go.Proofs.YtcihcbfcgjepfaaGreatDoor
open Go.Sh Go.RowKit Tryz
variable {w w' : World} {d d' : zQs} {val : Nat -> List Val} {mu : Int}
theorem zQg.lks (h:zQg w d mu val) {lk':Int->Option Int} {l:List (Int × Int)} (hf:Fr (·=d.L) w w') (hl:zQ3 w' zQM zQM d.L l) (he:∀k,AL.get l k=lk' k):zQg w' { d with lk:=lk' } mu val:=
 ⟨hf.blk h.st λe=>(by
  have:=h.bd.oS
  rw[show d.S=d.L from e,h.bd.oL]at this
  cases this),h.bd.lks hf hl λk=>(by rw[he,h.sd];cases lk' k <;> rfl),h.sd⟩
theorem yX7(lk':Int->Option Int):zQa { d with lk:=lk' } val={ zQa d val with lk:=lk' }:=rfl
theorem lock_c(h:zQg w d 1 val){u:Nat}(hu:u<4) :
  Calls prog 113 #[d.ptr,.int .i64 (u:Int),.pointer (some (uA d u)),.int .i64 (d.at_ u)] w λe w'=>e=.returned (.int .i64 (lockC u (zQa d val)))/\
   ∃lk',zQg w' { d with lk:=lk' } 1 val/\Fr (·=d.L) w w'/\w'.heap.size=w.heap.size/\{ zQa d val with lk:=lk' }=if lockC u (zQa d val)=0 then lockS u (zQa d val)else zQa d val:=by
 have eM:((zQa d val).us u).mode=d.mode u:=rfl
 have eA:((zQa d val).us u).at_=d.at_ u:=rfl
 have eK:(zQa d val).lk=d.lk:=rfl
 have stay:∀n:Int,lockC u (zQa d val)=n->(n=0->lockS u (zQa d val)=zQa d val)->Ending.returned (.int .i64 n)=.returned (.int .i64 (lockC u (zQa d val)))/\
   ∃lk',zQg w { d with lk:=lk' } 1 val/\Fr (·=d.L) w w/\w.heap.size=w.heap.size/\{ zQa d val with lk:=lk' }=if lockC u (zQa d val)=0 then lockS u (zQa d val)else zQa d val:=λn hn h0=>by
  refine⟨by rw[hn],d.lk,h,Fr.refl _ _,rfl,?_⟩
  rw[hn]
  split
  ·rw[h0 ‹_›];rfl
  ·rfl
 refine yJ8 _ _ _ _ w _ ⟨_,h.uMode hu,Br.of (λc=>?_) (λc=>⟨_,h.uMode hu,Br.of (λc1=>?_) (λc1=>Br.of (λc2=>?_) (λc2=>?_))⟩)⟩
 ·have c:=zQA c
  exact stay 0 (by simp only[lockC,eM,eA];rw[if_pos (.inl c)]) λ_=>by simp only[lockS,eM,eA];rw[if_pos (.inl c)]
 ·have c1:=zQA c1
  exact stay 0 (by simp only[lockC,eM,eA];rw[if_pos (.inr (.inl c1))]) λ_=>by simp only[lockS,eM,eA];rw[if_pos (.inr (.inl c1))]
 ·have c2:=zQm c2
  exact stay 0 (by simp only[lockC,eM,eA];rw[if_pos (.inr (.inr c2))]) λ_=>by simp only[lockS,eM,eA];rw[if_pos (.inr (.inr (.inl c2)))]
 have c:=zQo c
 have c1:=zQo c1
 have c2:=zQh c2
 have eC:lockC u (zQa d val)=match d.lk (d.at_ u)with|some v=>if v=(u:Int)then 0 else 12|none=>0:=by
  simp only[lockC,eM,eA,eK];rw[if_neg (by omega)];rfl
 obtain⟨l,hl,hk⟩:=h.lm
 refine⟨some d.L,h.locks,_,_,w,zYd hl _,?_⟩
 have take:lockC u (zQa d val)=0->∃lC:Int,w.cell? (uA d u)=some (.int .i64 lC)/\Br (lC != 0) (zQi (some ⟨d.S,0,none⟩) λa3=>∃xP:Option Nat,w.cell? (a3.add 21)=some (.map xP)/\doE prog (Instr.mapUpdate 80 (.map xP) (.int .i64 (d.at_ u)) (.int .i64 (u:Int))) w λw4=>zQe prog [] w4 λw5=>
   Ending.returned (.int .i64 0)=.returned (.int .i64 (lockC u (zQa d val)))/\∃lk',zQg w5 { d with lk:=lk' } 1 val/\Fr (·=d.L) w w5/\w5.heap.size=w.heap.size/\{ zQa d val with lk:=lk' }=if lockC u (zQa d val)=0 then lockS u (zQa d val)else zQa d val)
   (zQe prog [] w λw6=>Ending.returned (.int .i64 0)=.returned (.int .i64 (lockC u (zQa d val)))/\∃lk',zQg w6 { d with lk:=lk' } 1 val/\Fr (·=d.L) w w6/\w6.heap.size=w.heap.size/\{ zQa d val with lk:=lk' }=if lockC u (zQa d val)=0 then lockS u (zQa d val)else zQa d val):=λh0=>by
  refine⟨_,h.uMode hu,Br.of (λc3=>?_) (λc3=>?_)⟩
  ·have c3:=zQ4 c3
   obtain⟨w4,hrun,rJ,bp,se⟩:=hl.upd (P:=prog) zWJ yYh (d.at_ u) (u:Int)
   refine⟨some d.L,h.locks,w4,hrun,by rw[h0],λk=>if k=d.at_ u then some (u:Int)else d.lk k,h.lks bp rJ λk=>?_,bp,se,?_⟩
   ·rw[AL.get_put]
    by_cases e:d.at_ u=k
    ·rw[if_pos e,if_pos e.symm]
    ·rw[if_neg e,if_neg (Ne.symm e),hk]
   ·rw[if_pos h0]
    simp only[lockS,eM,eA,eK];rw[if_neg (by omega)]
  ·have c3:=zQu c3
   exact stay 0 h0 λ_=>by simp only[lockS,eM,eA];rw[if_pos (.inr (.inr (.inr c3)))]
 refine Br.of (λc3=>?_) (λc3=>?_)
 ·obtain⟨v,hv⟩:=Option.isSome_iff_exists.1 c3
  have hv':=hv
  rw[hk]at hv'
  rw[hv']at eC
  rw[hv]
  refine Br.of (λc4=>?_) (λc4=>?_)
  ·have c4:v ≠ (u:Int):=zQ4 c4
   exact stay 12 (by rw[eC];simp[c4]) λe=>by cases e
  ·have c4:v=(u:Int):=zQu c4
   exact take (by rw[eC];simp[c4])
 ·have hv:AL.get l (d.at_ u)=none:=by simpa using c3
  rw[hk]at hv
  rw[hv]at eC
  exact take eC
inductive Do1
 | set (i:Nat) (v:Val)
 | mark (g:Bool)
def Do1.f:Do1->Rec->Rec
 | .set i v=>setVal i v
 | .mark g=>zZX g
def zZS(A:Do1)(f:Nat)(cap:Array Value)(w:World)(D:Nat->Prop):Prop:=match A with
 | .set i v=>f=54/\∃r s:Nat,cap=#[.pointer (some ⟨r,0,none⟩),.pointer (some ⟨s,0,none⟩)]/\w.heap[r]?=some (.cells #[.int .i64 v.kind,.int .i64 v.n,.string v.s] 28)/\w.heap[s]?=some (.cells #[.int .i64 (i:Int)] 3)/\¬D r/\¬D s
 | .mark g=>f=57/\∃r:Nat,cap=#[.pointer (some ⟨r,0,none⟩)]/\w.heap[r]?=some (.cells #[.bool g] 4)/\¬D r
theorem zZS.fr{A:Do1}{f:Nat}{cap:Array Value}{D B:Nat->Prop}(h:zZS A f cap w D)(hf:Fr B w w')(hb:∀b,b<w.heap.size->B b->D b):zZS A f cap w' D:=by
 cases A with
 | set i v=>
  obtain⟨h1,r,s,h2,h3,h4,h5,h6⟩:=h
  exact⟨h1,r,s,h2,hf.blk h3 λe=>h5 (hb _ (zQy h3) e),hf.blk h4 λe=>h6 (hb _ (zQy h4) e),h5,h6⟩
 | mark g=>
  obtain⟨h1,r,h2,h3,h5⟩:=h
  exact⟨h1,r,h2,hf.blk h3 λe=>h5 (hb _ (zQy h3) e),h5⟩
theorem zZS.body{A:Do1}{f:Nat}{cap:Array Value}{D:Nat->Prop}(h:zZS A f cap w D):zXD prog f=true:=by
 cases A with
 | set i v=>obtain⟨rfl,_⟩:=h;kernel_rfl
 | mark g=>obtain⟨rfl,_⟩:=h;kernel_rfl
theorem yWT {a:Addr} {s:SV} {l:List Val} {r7 rl i:Nat} {v:Val} (hs:w.cell? (a.add 1)=some (.slice s.a s.len s.cap)) (hrow:zQl w 28 3 s (l.flatMap zXJ)) (hi:i<l.length)
  (h7:w.heap[r7]?=some (.cells #[.int .i64 v.kind,.int .i64 v.n,.string v.s] 28)) (qY:w.heap[rl]?=some (.cells #[.int .i64 (i:Int)] 3)) :
  Calls prog 54 #[.pointer (some a),.pointer (some ⟨r7,0,none⟩),.pointer (some ⟨rl,0,none⟩)] w λe w'=>e=.returned (.tuple #[])/\zQl w' 28 3 s ((l.set i v).flatMap zXJ)/\Fr (· ∈ zQb s) w w'/\w'.heap.size=w.heap.size:=by
 refine yYe _ _ _ w _ (zQf λw1 al hh1=>?_)
 have hz:w1.heap.size=w.heap.size:=by rw[hh1]
 have hrow1:=hrow.pu al
 obtain⟨a5,ha5,hst⟩:=hrow1.stElem (P:=prog) (t:=28) zQF (by decide) hi v zWp.symm rfl (K:=λw'=>Ending.returned (.tuple #[])=.returned (.tuple #[])/\zQl w' 28 3 s ((l.set i v).flatMap zXJ)/\Fr (· ∈ zQb s) w w'/\w'.heap.size=w.heap.size) λw' g1 g2 g3=>⟨rfl,g1,(Fr.pu al:Fr (· ∈ zQb s) w w1).trans g2 λi hi _=>hi,by rw[g3,hz]⟩
 have hl:=hrow.len zQF (by decide)
 refine⟨s,al.cell hs,(i:Int),cl0 (al.blk qY),_,cl (al.blk h7) 0,_,cl (al.blk h7) 1,_,cl (al.blk h7) 2,a5,ha5,by omega,by omega,?_⟩
 rw[zQI]
 exact hst
theorem yQZ {a:Addr} {r:Nat} {g:Bool} {R:Rt} (hr:w.heap[r]?=some (.cells #[.bool g] 4)) (h:st1 a (.bool g) w λw'=>R (.returned (.tuple #[])) w'):Calls prog 57 #[.pointer (some a),.pointer (some ⟨r,0,none⟩)] w R:=
 yV2 _ _ w _ ⟨g,cl0 hr,h⟩
theorem zXZ{α:Type}{f g:α->α}:∀{l:List α} {i:Nat} {x:α},l[i]?=some x->f x=g x->l.modify i f=l.modify i g
 | [],i,x,h,_=>by simp at h
 | y :: l,0,x,h,e=>by simp at h;subst h;simp[e]
 | y :: l,i+1,x,h,e=>by simp only[List.modify_succ_cons];rw[zXZ (by simpa using h) e]
theorem zXY{α:Type}{f:α->α}:∀{l:List α} {i:Nat} {x:α},l[i]?=some x->l.set i (f x)=l.modify i f
 | [],i,x,h=>by simp at h
 | y :: l,0,x,h=>by simp at h;subst h;rfl
 | y :: l,i+1,x,h=>by simp only[List.modify_succ_cons,List.set_cons_succ];rw[zXY (by simpa using h)]
theorem zWD:∀{l:List zQx} {i:Nat} {x y:zQx},l[i]?=some x->x.s=y.s->vB (l.set i y)=vB l
 | [],i,x,y,h,_=>by simp at h
 | z :: l,0,x,y,h,e=>by simp at h;subst h;simp[vB,e]
 | z :: l,i+1,x,y,h,e=>by
  rw[List.set_cons_succ,zXl,zXl,zWD (by simpa using h) e]
theorem zWH{u:Nat}{o':Nat->Option zXx}{rh' ah':List zQx}{cs':SV}{ch':List Chg}:zQR mu (d.gen u o' d.rs rh' (d.asv u) ah' cs' ch' (d.C u))=zQR mu d:=by
 have e1:(λv=>if v=u then d.asv u else d.asv v)=d.asv:=by funext v;by_cases e:v=u <;> simp[e]
 have e2:(λv=>if v=u then d.C u else d.C v)=d.C:=by funext v;by_cases e:v=u <;> simp[e]
 have e3:(d.gen u o' d.rs rh' (d.asv u) ah' cs' ch' (d.C u)).asv=d.asv:=e1
 have e4:(d.gen u o' d.rs rh' (d.asv u) ah' cs' ch' (d.C u)).C=d.C:=e2
 simp only[zQR,e3,e4]
 rfl
theorem zQg.setVal (h:zQg w d mu val) {x:zQx} (hx:x ∈ zQX d) {a:Addr} (ha:x.s.a=some a) {l':List Val} (hf:Fr (· ∈ zQb x.s) w w') (hrow:zQl w' 28 3 x.s (l'.flatMap zXJ)):zQg w' d mu (zXE val a.block l'):=by
 have hb:a.block ∈ zQb x.s:=by simp[zQb,ha]
 have hV:d.o a.block=some .V:=h.bd.oV _ (zQN hx hb)
 have hf':Fr (·=a.block) w w':=hf.mono λi hi _=>by simpa[zQb,ha] using hi
 exact⟨hf'.blk h.st λe=>(by rw[←show d.S=a.block from e,h.bd.oS]at hV;cases hV),h.bd.setVal hx ha hf' hrow,h.sd⟩
theorem zX8 {s:SV} {l:List Val} {i:Nat} (h:zQl w 28 3 s (l.flatMap zXJ)) (hi:i<l.length):∃a,s.a=some a:=by
 obtain⟨v,hv⟩:=zXe hi
 obtain⟨a,ha,_⟩:=h.elem zQF hv (o:=0) rfl
 exact⟨a,ha⟩
abbrev Own(d:zQs):Nat->Prop:=λb=>d.o b ≠ none
theorem do_ap (h:zQg w d 1 val) {u:Nat} (hu:u<4) {A:Do1} {f:Nat} {cap:Array Value} (hc:zZS A f cap w (Own d)) {i:Nat} {x:zQx} (hx:(d.ah u)[i]?=some x) (hA:∀j v,A=.set j v->j<(hv val x).length) {a:Addr} (ha:(d.asv u).a=some a) :
  Calls prog f (([.pointer (some (a.add (i * 2)))]:List Value) ++ cap.toList).toArray w λe w'=>e=.returned (.tuple #[])/\∃d' val',zQg w' d' 1 val'/\Fr (Own d) w w'/\d'.o=d.o/\d'.S=d.S/\
   zQa d' val'=(zQa d val).setU u { (zQa d val).us u with ap:=((zQa d val).us u).ap.modify i A.f }:=by
 have hm:x ∈ zQX d:=zXj hu (List.mem_of_getElem? hx)
 have hap:((zQa d val).us u).ap[i]?=some (toR val x):=by show((d.ah u).map (toR val))[i]?=_;rw[List.getElem?_map,hx];rfl
 cases A with
 | set j v=>
  obtain⟨rfl,r,s,rfl,h3,h4,_,_⟩:=hc
  obtain⟨a1,dm,_,hcl⟩:=(h.bd.aw u hu).elem zQk hx (o:=1) (v:=.slice x.s.a x.s.len x.s.cap) rfl
  rw[ha]at dm;cases dm
  have hj:=hA j v rfl
  obtain⟨b,hb⟩:=zX8 (h.bd.vr x hm) hj
  show Calls prog 54 #[.pointer (some (a.add (i * 2))),.pointer (some ⟨r,0,none⟩),.pointer (some ⟨s,0,none⟩)] w _
  refine Calls.mono (yWT hcl (h.bd.vr x hm) hj h3 h4) ?_
  rintro e w1 ⟨rfl,jY,bo,iJ⟩
  refine⟨rfl,d,_,h.setVal hm hb bo jY,bo.mono λc hc _=>by rw[Own,h.bd.oV c (zQN hm hc)];simp,rfl,rfl,?_⟩
  rw[zVy h.bd.nd h.bd.low hu hx hb]
  rw[zXZ (f:=λr=>{ r with v:=(hv val x).set j v }) (g:=(Do1.set j v).f) hap rfl]
 | mark g=>
  obtain⟨rfl,r,rfl,h3,_⟩:=hc
  have hi:i<(d.ah u).length:=(List.getElem?_eq_some_iff.1 hx).1
  show Calls prog 57 #[.pointer (some (a.add (i * 2))),.pointer (some ⟨r,0,none⟩)] w _
  refine yQZ h3 ?_
  obtain⟨a1,dm,hst⟩:=(h.bd.aw u hu).stField (i:=i) (o:=0) zQk hi (by decide) { x with g:=g } (.bool g) (λy hy=>by rw[hx]at hy;cases hy;rfl) (K:=λw1=>Ending.returned (.tuple #[])=.returned (.tuple #[])/\∃d' val',zQg w1 d' 1 val'/\Fr (Own d) w w1/\d'.o=d.o/\d'.S=d.S/\
   zQa d' val'=(zQa d val).setU u { (zQa d val).us u with ap:=((zQa d val).us u).ap.modify i (Do1.mark g).f }) λw1 jY bo iJ=>by
   have own:∀b ∈ zQb (d.asv u),d.o b=some (.A u):=h.bd.oA u hu
   have hbd:zQE w1 (d.gen u d.o d.rs d.rh (d.asv u) ((d.ah u).set i { x with g:=g }) (d.cs u) (d.ch u) (d.C u)) val:=by
    have ne:∀{b:Nat} {κ:zXx},d.o b=some κ->κ ≠ .A u->¬b ∈ zQb (d.asv u):=λ{b κ} hb hk e=>by rw[own b e]at hb;exact hk (Option.some.inj hb).symm
    refine h.bd.gen hu bo (λb κ hb _ _ hk _=>⟨ne hb hk,hb⟩) h.bd.oS (h.bd.rw_.fr bo λb hb=>ne (h.bd.oR b hb) (by simp)) h.bd.oR jY own (λe=>⟨(h.bd.mp e u hu).fr bo (ne (h.bd.oC e u hu) (by simp)),h.bd.oC e u hu⟩) (λe=>⟨(h.bd.ml e u hu).fr bo λb hb=>ne (h.bd.oK e u hu b hb) (by simp),h.bd.oK e u hu⟩) (λy hy=>?_) ?_ (λb hb=>Nat.lt_of_lt_of_le (h.bd.lt b hb) bo.size)
    ·left
     simp only[List.mem_append]at hy
     rcases hy with(hy|hy)|hy
     ·exact⟨y,zZr hu (List.mem_append_left _ hy),rfl⟩
     ·rcases List.mem_or_eq_of_mem_set hy with hy|rfl
      ·exact⟨y,zXj hu hy,rfl⟩
      ·exact⟨x,hm,rfl⟩
     ·exact⟨y,zQJ hy,rfl⟩
    ·have hnd:=(yXi hu).1 h.bd.nd
     have e:zXa d u=d.rh ++ (zXa d u).drop d.rh.length:=by simp[zXa]
     rw[e]at hnd
     unfold zKO
     rw[zQp,zQp,zWD (y:={ x with g:=g }) hx rfl,←zQp,←zQp]
     exact hnd
   refine⟨rfl,_,val,⟨?_,hbd,h.sd⟩,bo.mono λc hc _=>by rw[Own,own c hc];simp,rfl,rfl,?_⟩
   ·rw[zWH]
    exact bo.blk h.st λe=>by have:=own _ e;rw[show(d.gen u d.o d.rs d.rh (d.asv u) ((d.ah u).set i { x with g:=g }) (d.cs u) (d.ch u) (d.C u)).S=d.S from rfl,h.bd.oS]at this;cases this
   ·rw[zK8,List.map_set]
    have e1:toR val { x with g:=g }=zZX g (toR val x):=rfl
    rw[e1,show(d.ah u).map (toR val)=((zQa d val).us u).ap from rfl,zXY hap]
    rfl
  rw[ha]at dm;cases dm
  rw[zKk]at hst
  exact hst
theorem do_rec (h:zQg w d 1 val) {A:Do1} {f:Nat} {cap:Array Value} (hc:zZS A f cap w (Own d)) {i:Nat} {x:zQx} (hx:d.rh[i]?=some x) (hA:∀j v,A=.set j v->j<(hv val x).length) {a:Addr} (ha:d.rs.a=some a) :
  Calls prog f (([.pointer (some (a.add (i * 2)))]:List Value) ++ cap.toList).toArray w λe w'=>e=.returned (.tuple #[])/\∃d' val',zQg w' d' 1 val'/\Fr (Own d) w w'/\d'.o=d.o/\d'.S=d.S/\
   zQa d' val'={ zQa d val with recs:=(zQa d val).recs.modify i A.f }:=by
 have hm:x ∈ zQX d:=zQJ (List.mem_of_getElem? hx)
 have hu:0<4:=by decide
 have hap:(zQa d val).recs[i]?=some (toR val x):=by show(d.rh.map (toR val))[i]?=_;rw[List.getElem?_map,hx];rfl
 cases A with
 | set j v=>
  obtain⟨rfl,r,s,rfl,h3,h4,_,_⟩:=hc
  obtain⟨a1,dm,_,hcl⟩:=h.bd.rw_.elem zQk hx (o:=1) (v:=.slice x.s.a x.s.len x.s.cap) rfl
  rw[ha]at dm;cases dm
  have hj:=hA j v rfl
  obtain⟨b,hb⟩:=zX8 (h.bd.vr x hm) hj
  show Calls prog 54 #[.pointer (some (a.add (i * 2))),.pointer (some ⟨r,0,none⟩),.pointer (some ⟨s,0,none⟩)] w _
  refine Calls.mono (yWT hcl (h.bd.vr x hm) hj h3 h4) ?_
  rintro e w1 ⟨rfl,jY,bo,iJ⟩
  refine⟨rfl,d,_,h.setVal hm hb bo jY,bo.mono λc hc _=>by rw[Own,h.bd.oV c (zQN hm hc)];simp,rfl,rfl,?_⟩
  rw[zZP h.bd.nd h.bd.low hx hb]
  rw[zXZ (f:=λr=>{ r with v:=(hv val x).set j v }) (g:=(Do1.set j v).f) hap rfl]
 | mark g=>
  obtain⟨rfl,r,rfl,h3,_⟩:=hc
  have hi:i<d.rh.length:=(List.getElem?_eq_some_iff.1 hx).1
  show Calls prog 57 #[.pointer (some (a.add (i * 2))),.pointer (some ⟨r,0,none⟩)] w _
  refine yQZ h3 ?_
  obtain⟨a1,dm,hst⟩:=h.bd.rw_.stField (i:=i) (o:=0) zQk hi (by decide) { x with g:=g } (.bool g) (λy hy=>by rw[hx]at hy;cases hy;rfl) (K:=λw1=>Ending.returned (.tuple #[])=.returned (.tuple #[])/\∃d' val',zQg w1 d' 1 val'/\Fr (Own d) w w1/\d'.o=d.o/\d'.S=d.S/\
   zQa d' val'={ zQa d val with recs:=(zQa d val).recs.modify i (Do1.mark g).f }) λw1 jY bo iJ=>by
   have own:∀b ∈ zQb d.rs,d.o b=some .R:=h.bd.oR
   have hbd:zQE w1 (d.gen 0 d.o d.rs (d.rh.set i { x with g:=g }) (d.asv 0) (d.ah 0) (d.cs 0) (d.ch 0) (d.C 0)) val:=by
    have ne:∀{b:Nat} {κ:zXx},d.o b=some κ->κ ≠ .R->¬b ∈ zQb d.rs:=λ{b κ} hb hk e=>by rw[own b e]at hb;exact hk (Option.some.inj hb).symm
    refine h.bd.gen hu bo (λb κ hb _ hk _ _=>⟨ne hb hk,hb⟩) h.bd.oS jY own ((h.bd.aw 0 hu).fr bo λb hb=>ne (h.bd.oA 0 hu b hb) (by simp)) (h.bd.oA 0 hu) (λe=>⟨(h.bd.mp e 0 hu).fr bo (ne (h.bd.oC e 0 hu) (by simp)),h.bd.oC e 0 hu⟩) (λe=>⟨(h.bd.ml e 0 hu).fr bo λb hb=>ne (h.bd.oK e 0 hu b hb) (by simp),h.bd.oK e 0 hu⟩) (λy hy=>?_) ?_ (λb hb=>Nat.lt_of_lt_of_le (h.bd.lt b hb) bo.size)
    ·left
     simp only[List.mem_append]at hy
     rcases hy with(hy|hy)|hy
     ·exact⟨y,zZr hu (List.mem_append_left _ hy),rfl⟩
     ·exact⟨y,zXj hu hy,rfl⟩
     ·rcases List.mem_or_eq_of_mem_set hy with hy|rfl
      ·exact⟨y,zQJ hy,rfl⟩
      ·exact⟨x,hm,rfl⟩
    ·have hnd:=(yXi hu).1 h.bd.nd
     have e:zXa d 0=d.rh ++ (zXa d 0).drop d.rh.length:=by simp[zXa]
     rw[e]at hnd
     unfold zKO
     rw[zQp,zQp (d.rh.set _ _),zWD (y:={ x with g:=g }) hx rfl,←zQp,←zQp]
     exact hnd
   refine⟨rfl,_,val,⟨?_,hbd,h.sd⟩,bo.mono λc hc _=>by rw[Own,own c hc];simp,rfl,rfl,?_⟩
   ·have e:zQR 1 (d.gen 0 d.o d.rs (d.rh.set i { x with g:=g }) (d.asv 0) (d.ah 0) (d.cs 0) (d.ch 0) (d.C 0))=zQR 1 d:=zWH
    rw[e]
    exact bo.blk h.st λe=>by have:=own _ e;rw[show(d.gen 0 d.o d.rs (d.rh.set i { x with g:=g }) (d.asv 0) (d.ah 0) (d.cs 0) (d.ch 0) (d.C 0)).S=d.S from rfl,h.bd.oS]at this;cases this
   ·rw[zK8,List.map_set]
    have e1:toR val { x with g:=g }=zZX g (toR val x):=rfl
    rw[e1,show d.rh.map (toR val)=(zQa d val).recs from rfl,zXY hap]
    simp only[Dsk.setU,Dsk.mk.injEq,true_and,and_true]
    refine⟨rfl,?_⟩
    funext v
    by_cases e:v=0
    ·rw[if_pos e,e];rfl
    ·rw[if_neg e]
  rw[ha]at dm;cases dm
  rw[zKk]at hst
  exact hst
end Go.Proofs.YtcihcbfcgjepfaaGreatDoor
/- Desks: a change of a record in a buffer; alter. No condition but those stated. -/
namespace Go.Proofs.YtcihcbfcgjepfaaGreatDoor
open Go.Sh Go.RowKit Tryz
variable {w w' : World} {d d' : zQs} {val : Nat -> List Val} {mu : Int}
theorem zZQ(p:Chg)(l:List Chg):chH (p :: l)=p.2.1 :: p.2.2 :: chH l:=by simp[chH]
theorem zJ5:∀(l:List Chg) (k:Int) (c:zQx × zQx),(chH (AL.put l k c)).Perm (c.1 :: c.2 :: chH (AL.del l k))
 | [],k,c=>by simp[AL.put,AL.del,chH]
 | (a,b) :: l,k,c=>by
  simp only[AL.put,AL.del]
  by_cases e:a=k
  ·rw[if_pos e,if_pos e,zZQ]
  ·rw[if_neg e,if_neg e,zZQ,zZQ]
   exact(((zJ5 l k c).cons b.2).cons b.1).trans (List.perm_append_comm_assoc [b.1,b.2] [c.1,c.2] _)
theorem yQO:∀{l:List Chg} {k:Int} {x:zQx},x ∈ chH (AL.del l k)->x ∈ chH l
 | [],k,x,h=>h
 | (a,b) :: l,k,x,h=>by
  simp only[AL.del]at h
  by_cases e:a=k
  ·rw[if_pos e]at h
   rw[zZQ];exact List.mem_cons_of_mem _ (List.mem_cons_of_mem _ h)
  ·rw[if_neg e,zZQ]at h
   rw[zZQ]
   rcases List.mem_cons.1 h with rfl|h
   ·exact List.mem_cons_self ..
   ·refine List.mem_cons_of_mem _ ?_
    rcases List.mem_cons.1 h with rfl|h
    ·exact List.mem_cons_self ..
    ·exact List.mem_cons_of_mem _ (yQO h)
theorem zW0:∀{l:List Chg} {k:Int} {c:zQx × zQx},AL.get l k=some c->AL.put l k c=l
 | [],k,c,h=>by cases h
 | (a,b) :: l,k,c,h=>by
  simp only[AL.get]at h
  simp only[AL.put]
  by_cases e:a=k
  ·rw[if_pos e]at h;cases h;rw[if_pos e]
  ·rw[if_neg e]at h;rw[if_neg e,zW0 h]
theorem yWy {val val':Nat->List Val} {c:zQx × zQx} {c':Rec × Rec} {k:Int} (hc:(toR val' c.1,toR val' c.2)=c'):∀{l:List Chg},(∀x ∈ chH (AL.del l k),toR val' x=toR val x)->(AL.put l k c).map (toC val')=AL.put (l.map (toC val)) k c'
 | [],_=>by simp[AL.put,toC,hc]
 | (a,b) :: l,h=>by
  simp only[AL.del]at h
  by_cases e:a=k
  ·rw[if_pos e]at h
   simp only[AL.put,List.map_cons,toC,if_pos e]
   rw[hc]
   congr 1
   refine List.map_congr_left λp hp=>?_
   have h1:p.2.1 ∈ chH l:=List.mem_flatMap.2 ⟨p,hp,by simp⟩
   have h2:p.2.2 ∈ chH l:=List.mem_flatMap.2 ⟨p,hp,by simp⟩
   rw[toC,toC,h _ h1,h _ h2]
  ·rw[if_neg e,zZQ]at h
   simp only[AL.put,List.map_cons,if_neg e]
   rw[show toC val (a,b)=(a,(toR val b.1,toR val b.2))from rfl]
   simp only[AL.put,if_neg e]
   rw[yWy hc λx hx=>h x (List.mem_cons_of_mem _ (List.mem_cons_of_mem _ hx))]
   congr 1
   rw[toC,h b.1 (List.mem_cons_self ..),h b.2 (List.mem_cons_of_mem _ (List.mem_cons_self ..))]
def ApC(d:zQs)(u:Nat)(k:Int)(c:zQx × zQx):Prop:=(vB (c.1 :: c.2 :: (chH (AL.del (d.ch u) k) ++ d.ah u ++ zXa d u))).Nodup
theorem ApC.gen{u:Nat}(hu:u<4){k:Int}{c:zQx × zQx}(h:ApC d u k c){c2:zQx}(hs:c2.s=c.2.s):(vB (zKO d u d.rh (d.ah u) (AL.put (d.ch u) k (c.1,c2)))).Nodup:=by
 have e:zXa d u=d.rh ++ (zXa d u).drop d.rh.length:=by simp[zXa]
 have e2:zKO d u d.rh (d.ah u) (AL.put (d.ch u) k (c.1,c2))=chH (AL.put (d.ch u) k (c.1,c2)) ++ (d.ah u ++ zXa d u):=by rw[zKO,←e,List.append_assoc]
 rw[e2]
 refine(zXF ((zJ5 (d.ch u) k (c.1,c2)).append_right _)).nodup_iff.2 ?_
 unfold ApC at h
 rw[zXl,zXl]at h
 rw[List.cons_append,List.cons_append,zXl,zXl,hs]
 have e3:chH (AL.del (d.ch u) k) ++ (d.ah u ++ zXa d u)=chH (AL.del (d.ch u) k) ++ d.ah u ++ zXa d u:=(List.append_assoc ..).symm
 rw[e3]
 exact h
theorem ApC.far {u:Nat} {k:Int} {c:zQx × zQx} (h:ApC d u k c) {y:zQx} (hy:y=c.1∨y ∈ chH (AL.del (d.ch u) k) ++ d.ah u ++ zXa d u):∀b ∈ zQb c.2.s,b ∉ zQb y.s:=λb hb hyb=>by
 unfold ApC at h
 rw[zXl,zXl]at h
 obtain⟨_,h2,h3⟩:=List.nodup_append.1 h
 rcases hy with rfl|hy
 ·exact h3 b hyb b (List.mem_append_left _ hb) rfl
 ·exact(List.nodup_append.1 h2).2.2 b hb b (zQN hy hyb) rfl
theorem oth_uH{u v:Nat}(hv:v<4)(hne:v ≠ u){x:zQx}(hx:x ∈ uH d v):x ∈ zXa d u:=by
 unfold zXa
 simp only[List.mem_append]
 rcases(by omega:v=0∨v=1∨v=2∨v=3)with rfl|rfl|rfl|rfl
 ·right;left;rw[if_neg (Ne.symm hne)];exact hx
 ·right;right;left;rw[if_neg (Ne.symm hne)];exact hx
 ·right;right;right;left;rw[if_neg (Ne.symm hne)];exact hx
 ·right;right;right;right;rw[if_neg (Ne.symm hne)];exact hx
theorem yQR {u:Nat} {k:Int} {c:zQx × zQx} {c2:zQx} {val':Nat->List Val} {o':Nat->Option zXx} {cs':SV} (hl:Low d) (h:ApC d u k c) (same:∀y:zQx,(∀b ∈ zQb c.2.s,b ∉ zQb y.s)->toR val' y=toR val y) :
  zQa (d.gen u o' d.rs d.rh (d.asv u) (d.ah u) cs' (AL.put (d.ch u) k (c.1,c2)) (d.C u)) val'=(zQa d val).setU u { (zQa d val).us u with ch:=AL.put ((zQa d val).us u).ch k (toR val c.1,toR val' c2) }:=by
 have far:∀{y:zQx},y=c.1∨y ∈ chH (AL.del (d.ch u) k) ++ d.ah u ++ zXa d u->toR val' y=toR val y:=λ{y} hy=>same y (h.far hy)
 have oth:∀{y:zQx},y ∈ zXa d u->toR val' y=toR val y:=λ{y} hy=>far (.inr (List.mem_append_right _ hy))
 rw[zK8]
 have e1:(AL.put (d.ch u) k (c.1,c2)).map (toC val')=AL.put ((d.ch u).map (toC val)) k (toR val c.1,toR val' c2):=yWy (by rw[far (.inl rfl)]) λx hx=>far (.inr (by simp only[List.mem_append];exact .inl (.inl hx)))
 have e2:(d.ah u).map (toR val')=(d.ah u).map (toR val):=List.map_congr_left λx hx=>far (.inr (by simp only[List.mem_append];exact .inl (.inr hx)))
 have e3:d.rh.map (toR val')=d.rh.map (toR val):=List.map_congr_left λx hx=>oth (by unfold zXa;exact List.mem_append_left _ hx)
 rw[e1,e2,e3]
 simp only[zQa,Dsk.setU,Dsk.mk.injEq,true_and,and_true]
 funext v
 by_cases e:v=u
 ·subst e;simp[zZ9]
 ·simp only[if_neg e,zZ9,Usr.mk.injEq,true_and]
  by_cases hv:v<4
  ·have m:∀{x:zQx},x ∈ uH d v->toR val' x=toR val x:=λ{x} hx=>oth (oth_uH hv e hx)
   refine⟨List.map_congr_left λp hp=>?_,List.map_congr_left λx hx=>m (List.mem_append_right _ hx)⟩
   rw[toC,toC,m (List.mem_append_left _ (List.mem_flatMap.2 ⟨p,hp,by simp⟩)),m (List.mem_append_left _ (List.mem_flatMap.2 ⟨p,hp,by simp⟩))]
  ·obtain⟨h1,h2⟩:=hl v (by omega)
   rw[h1,h2];exact⟨rfl,rfl⟩
theorem do_chg(h:zQg w d 1 val){u:Nat}(hu:u<4){A:Do1}{f:Nat}{cap:Array Value}{k:Int}{c:zQx × zQx}{r:Nat}
  (hb:w.heap[r]?=some (.cells #[.bool c.1.g,.slice c.1.s.a c.1.s.len c.1.s.cap,.bool c.2.g,.slice c.2.s.a c.2.s.len c.2.s.cap] 133)) (hr:d.o r=none) (hc:zZS A f cap w (λb=>Own d b∨b=r))
  (r1:zQl w 28 3 c.1.s ((hv val c.1).flatMap zXJ)) (r2:zQl w 28 3 c.2.s ((hv val c.2).flatMap zXJ)) (ho:∀b,b ∈ zQb c.1.s∨b ∈ zQb c.2.s->d.o b=some .V)
  (hfree:c.2 ∈ zQX d∨∀b ∈ zQb c.2.s,b ∉ vB (zQX d)) (nd:ApC d u k c) (hA:∀j v,A=.set j v->j<(hv val c.2).length) :
  Calls prog f (([.pointer (some ((⟨r,0,none⟩:Addr).add 2))]:List Value) ++ cap.toList).toArray w λe w'=>e=.returned (.tuple #[])/\∃(c2:zQx) (val':Nat->List Val),c2.s=c.2.s/\zQg w' d 1 val'/\Fr (λb=>Own d b∨b=r) w w'/\
   w'.heap[r]?=some (.cells #[.bool c.1.g,.slice c.1.s.a c.1.s.len c.1.s.cap,.bool c2.g,.slice c2.s.a c2.s.len c2.s.cap] 133)/\zQl w' 28 3 c.1.s ((hv val' c.1).flatMap zXJ)/\zQl w' 28 3 c2.s ((hv val' c2).flatMap zXJ)/\
   (∀y:zQx,(∀b ∈ zQb c.2.s,b ∉ zQb y.s)->toR val' y=toR val y)/\toR val' c2=A.f (toR val c.2):=by
 cases A with
 | set j v=>
  obtain⟨rfl,r7,s,rfl,h3,h4,n7,ns⟩:=hc
  have hj:=hA j v rfl
  obtain⟨a,ha⟩:=zX8 r2 hj
  have hab:a.block ∈ zQb c.2.s:=by simp[zQb,ha]
  have hblk:∀b ∈ zQb c.2.s,b=a.block:=λb hb=>by simpa[zQb,ha] using hb
  show Calls prog 54 #[.pointer (some ((⟨r,0,none⟩:Addr).add 2)),.pointer (some ⟨r7,0,none⟩),.pointer (some ⟨s,0,none⟩)] w _
  have hcl:w.cell? (((⟨r,0,none⟩:Addr).add 2).add 1)=some (.slice c.2.s.a c.2.s.len c.2.s.cap):=by rw[zQc,zQc,zQq hb];rfl
  refine Calls.mono (yWT hcl r2 hj h3 h4) ?_
  rintro e w1 ⟨rfl,jY,bo,iJ⟩
  have hV:=ho _ (.inr hab)
  have hfar:=nd.far (y:=c.1) (.inl rfl)
  have hD:zQg w1 d 1 (zXE val a.block ((hv val c.2).set j v)):=by
   rcases hfree with hm|hn
   ·exact h.setVal hm ha bo jY
   ·have hf':Fr (·=a.block) w w1:=bo.mono λi hi _=>hblk i hi
    exact⟨hf'.blk h.st λe=>(by rw[←show d.S=a.block from e,h.bd.oS]at hV;cases hV),h.bd.free hV (hn _ hab) hf' _,h.sd⟩
  have e1:hv (zXE val a.block ((hv val c.2).set j v)) c.1=hv val c.1:=zZR λe=>hfar _ hab e
  have e2:hv (zXE val a.block ((hv val c.2).set j v)) c.2=(hv val c.2).set j v:=zZs ha rfl
  refine⟨rfl,c.2,_,rfl,hD,bo.mono λb hb' _=>.inl (by rw[Own,ho b (.inr hb')];simp),bo.blk hb λe=>(by rw[hblk _ e]at hr;rw[hr]at hV;cases hV),?_,?_,λy hy=>zZJ (hy _ hab),?_⟩
  ·rw[e1];exact r1.fr bo λb hb' ag=>hfar b ag hb'
  ·rw[e2];exact jY
  ·rw[toR,e2];rfl
 | mark g=>
  obtain⟨rfl,r5,rfl,h3,n5⟩:=hc
  show Calls prog 57 #[.pointer (some ((⟨r,0,none⟩:Addr).add 2)),.pointer (some ⟨r5,0,none⟩)] w _
  refine yQZ h3 ?_
  rw[zQc]
  refine zQt hb (by show 0+2<4;omega) λw1 gj ay=>?_
  have bo:Fr (·=r) w w1:=by rw[gj];exact Fr.cell w _ _ _
  have no:∀{b:Nat},d.o b ≠ none->¬b=r:=λ{b} hb e=>hb (by rw[e];exact hr)
  refine⟨rfl,{ c.2 with g:=g },val,rfl,h.fr bo λb hb=>no hb,bo.mono λb hb _=>.inr hb,ay,r1.fr bo λb hb=>no (by rw[ho b (.inl hb)];simp),r2.fr bo λb hb=>no (by rw[ho b (.inr hb)];simp),λ_ _=>rfl,rfl⟩
theorem xJj (h:zQg w d 1 val) {u:Nat} (hu:u<4) {k:Int} {c:zQx × zQx} {c2:zQx} (hs:c2.s=c.2.s) (r1:zQl w 28 3 c.1.s ((hv val c.1).flatMap zXJ)) (r2:zQl w 28 3 c2.s ((hv val c2).flatMap zXJ))
  (ho:∀b,b ∈ zQb c.1.s∨b ∈ zQb c.2.s->d.o b=some .V) (nd:ApC d u k c) :
  ∃w1,(Instr.mapUpdate 88 (.map (some (d.C u))) (.int .i64 k) (.agg #[.bool c.1.g,.slice c.1.s.a c.1.s.len c.1.s.cap,.bool c2.g,.slice c2.s.a c2.s.len c2.s.cap])).run prog w=.ok () w1/\
   zQg w1 (d.gen u d.o d.rs d.rh (d.asv u) (d.ah u) (d.cs u) (AL.put (d.ch u) k (c.1,c2)) (d.C u)) 1 val/\Fr (·=d.C u) w w1/\w1.heap.size=w.heap.size:=by
 obtain⟨w1,hrun,hm1,bo,iJ⟩:=(h.mp hu).upd (P:=prog) zWJ yJQ k (c.1,c2)
 have oC:=h.bd.oC h.sd u hu
 have ne:∀{b:Nat} {κ:zXx},d.o b=some κ->κ ≠ .C u->¬b=d.C u:=λ{b κ} hb hk e=>by rw[e,oC]at hb;exact hk (Option.some.inj hb).symm
 refine⟨w1,hrun,⟨?_,?_,h.sd⟩,bo,iJ⟩
 ·rw[zWH]
  exact bo.blk h.st (ne h.bd.oS (by simp))
 ·refine h.bd.gen hu bo (λb κ hb _ _ _ hk=>⟨ne hb hk,hb⟩) h.bd.oS (h.bd.rw_.fr bo λb hb=>ne (h.bd.oR b hb) (by simp)) h.bd.oR ((h.bd.aw u hu).fr bo λb hb=>ne (h.bd.oA u hu b hb) (by simp)) (h.bd.oA u hu)
   (λ_=>⟨hm1,oC⟩) (λe=>absurd (h.sd.symm.trans e) (by simp)) (λx hx=>?_) (nd.gen hu hs) (λb hb=>Nat.lt_of_lt_of_le (h.bd.lt b hb) bo.size)
  simp only[List.mem_append]at hx
  rcases hx with(hx|hx)|hx
  ·have:=(zJ5 (d.ch u) k (c.1,c2)).mem_iff.1 hx
   rcases List.mem_cons.1 this with rfl|this
   ·exact .inr ⟨r1.fr bo λb hb=>ne (ho b (.inl hb)) (by simp),λb hb=>ho b (.inl hb)⟩
   ·rcases List.mem_cons.1 this with rfl|this
    ·exact .inr ⟨r2.fr bo λb hb=>ne (ho b (.inr (by rw[←hs];exact hb))) (by simp),λb hb=>ho b (.inr (by rw[←hs];exact hb))⟩
    ·exact .inl ⟨x,zZr hu (List.mem_append_left _ (yQO this)),rfl⟩
  ·exact .inl ⟨x,zXj hu hx,rfl⟩
  ·exact .inl ⟨x,zQJ hx,rfl⟩
end Go.Proofs.YtcihcbfcgjepfaaGreatDoor
/- Desks: alter. No condition but those stated. -/
namespace Go.Proofs.YtcihcbfcgjepfaaGreatDoor
open Go.Sh Go.RowKit Tryz
variable {w w' : World} {d d' : zQs} {val : Nat -> List Val} {mu : Int}
theorem zZS.up{A:Do1}{f:Nat}{cap:Array Value}{D D':Nat->Prop}(h:zZS A f cap w D)(hd:∀b,b<w.heap.size->D' b->D b):zZS A f cap w D':=by
 cases A with
 | set i v=>
  obtain⟨h1,r,s,h2,h3,h4,h5,h6⟩:=h
  exact⟨h1,r,s,h2,h3,h4,λe=>h5 (hd _ (zQy h3) e),λe=>h6 (hd _ (zQy h4) e)⟩
 | mark g=>
  obtain⟨h1,r,h2,h3,h5⟩:=h
  exact⟨h1,r,h2,h3,λe=>h5 (hd _ (zQy h3) e)⟩
theorem zZS.pu{A:Do1}{f:Nat}{cap:Array Value}{D:Nat->Prop}(h:zZS A f cap w D)(hp:Pu w w'):zZS A f cap w' D:=h.fr (Fr.pu hp:Fr (λ_=>False) w w') λ_ _ e=>e.elim
theorem zVA(h:zQg w d 1 val){u:Nat}(hu:u<4){A:Do1}{f:Nat}{cap:Array Value}{c:zQx × zQx}{r:Nat}
  (hb:w.heap[r]?=some (.cells #[.bool c.1.g,.slice c.1.s.a c.1.s.len c.1.s.cap,.bool c.2.g,.slice c.2.s.a c.2.s.len c.2.s.cap] 133)) (hr:d.o r=none) (hc:zZS A f cap w (λb=>Own d b∨b=r))
  (r1:zQl w 28 3 c.1.s ((hv val c.1).flatMap zXJ)) (r2:zQl w 28 3 c.2.s ((hv val c.2).flatMap zXJ)) (ho:∀b,b ∈ zQb c.1.s∨b ∈ zQb c.2.s->d.o b=some .V)
  (hfree:c.2 ∈ zQX d∨∀b ∈ zQb c.2.s,b ∉ vB (zQX d)) (nd:ApC d u (d.at_ u) c) (hA:∀j v,A=.set j v->j<(hv val c.2).length) {R:Rt}
  (hR:∀w' d' val',zQg w' d' 1 val'->Fr (λb=>Own d b∨b=r) w w'->d'.o=d.o->d'.S=d.S->
   zQa d' val'=(zQa d val).setU u { (zQa d val).us u with ch:=AL.put ((zQa d val).us u).ch (d.at_ u) (toR val c.1,A.f (toR val c.2)) }->R (.returned (.int .i64 0)) w') :
  zXD prog f=true/\Calls prog f (([.pointer (some ((⟨r,0,none⟩:Addr).add 2))]:List Value) ++ cap.toList).toArray w λe cK=>e=.returned (.tuple #[])/\dwE cK λbn=>
   ∃xV:Option Nat,bn.cell? ((uA d u).add 2)=some (.map xV)/\∃xW:Int,bn.cell? ((uA d u).add 1)=some (.int .i64 xW)/\
   ∃fY:Bool,bn.cell? ((⟨r,0,none⟩:Addr).add 0)=some (.bool fY)/\∃bf:SV,bn.cell? ((⟨r,0,none⟩:Addr).add 1)=some (.slice bf.a bf.len bf.cap)/\
   ∃jG:Bool,bn.cell? ((⟨r,0,none⟩:Addr).add 2)=some (.bool jG)/\∃bY:SV,bn.cell? ((⟨r,0,none⟩:Addr).add 3)=some (.slice bY.a bY.len bY.cap)/\
   doE prog (Instr.mapUpdate 88 (.map xV) (.int .i64 xW) (.agg #[.bool fY,.slice bf.a bf.len bf.cap,.bool jG,.slice bY.a bY.len bY.cap])) bn λj6=>R (.returned (.int .i64 0)) j6:=by
 refine⟨hc.body,(do_chg h hu hb hr hc r1 r2 ho hfree nd hA).mono ?_⟩
 rintro e cK ⟨rfl,c2,val',hs,h33,hf33,hb33,q1,q2,same,gW⟩
 refine⟨rfl,zQf λbn m4 _=>?_⟩
 have h34:=h33.pu m4
 have wd:=m4.blk hb33
 obtain⟨j6,hrun,h37,hf37,_⟩:=xJj h34 hu (k:=d.at_ u) (c:=c) hs (q1.pu m4) (q2.pu m4) ho nd
 refine⟨some (d.C u),h34.uCh hu,d.at_ u,h34.uAt hu,_,cl wd 0,c.1.s,cl wd 1,_,cl wd 2,c2.s,cl wd 3,j6,hrun,?_⟩
 refine hR j6 _ val' h37 ((hf33.trans (Fr.pu m4:Fr (λb=>Own d b∨b=r) cK bn) λi hi _=>hi).trans hf37 λi hi _=>.inl (by rw[Own,show i=d.C u from hi,h.bd.oC h.sd u hu];simp)) rfl rfl ?_
 rw[yQR h.bd.low nd same,gW]
theorem yWJ (h:zQg w d 1 val) (hI:Inv (zQa d val)) {u:Nat} (hu:u<4) (h0:d.at_ u ≠ 0) {A:Do1} {f:Nat} {cap:Array Value} (hc:zZS A f cap w (Own d)) (hA:∀j v,A=.set j v->j<d.flds.length) :
  Calls prog 53 #[d.ptr,.int .i64 (u:Int),.pointer (some (uA d u)),.func (.func f) #[] cap] w λe w'=>e=.returned (.int .i64 (lockC u (zQa d val)))/\∃d' val',zQB w w' d d' 1 val'/\zQa d' val'=if lockC u (zQa d val)=0 then alterS u A.f (zQa d val)else zQa d val:=by
 refine yVm _ _ _ _ w _ ⟨_,h.uAt hu,(lock_c h hu).mono ?_⟩
 rintro e w2 ⟨rfl,lk',h2,dh,fC,e2⟩
 have L2:zQB w w2 d { d with lk:=lk' } 1 val:=⟨h2,dh.mono λi hi _=>by rw[show i=d.L from hi,h.bd.oL];simp,λb hb=>.inl hb,rfl⟩
 have eM:((zQa d val).us u).mode=d.mode u:=rfl
 have eA:((zQa d val).us u).at_=d.at_ u:=rfl
 refine⟨_,rfl,Br.of (λc=>?_) (λc=>?_)⟩
 ·have c:lockC u (zQa d val) ≠ 0:=zQ4 c
  rw[if_neg c]at e2
  exact⟨rfl,_,val,L2,by rw[if_neg c];exact e2⟩
 have c:lockC u (zQa d val)=0:=zQu c
 rw[if_pos c]at e2
 have gW:zZS A f cap w2 (Own d):=hc.fr dh λb _ hb=>by rw[Own,show b=d.L from hb,h.bd.oL];simp
 have hat:=hI.at_ u hu
 rw[eA,zXr,show(zQa d val).recs.length=d.rh.length by simp[zQa]]at hat
 have hal:=h.as_len hu
 have hrl:=h.rs_len
 have jM:=hI.rh
 have fG:=hI.ah hu
 have fin:∀{w5 w6:World} {d':zQs} {val':Nat->List Val},Pu w2 w5->zQg w6 d' 1 val'->Fr (Own d) w5 w6->(∀b,d'.o b ≠ none->d.o b ≠ none∨w5.heap.size<=b)->d'.S=d.S->zQa d' val'=alterS u A.f (zQa d val)->
   Ending.returned (.int .i64 0)=.returned (.int .i64 (lockC u (zQa d val)))/\∃d' val',zQB w w6 d d' 1 val'/\zQa d' val'=if lockC u (zQa d val)=0 then alterS u A.f (zQa d val)else zQa d val:=λ{w5 w6 d' val'} hp h6 hf ho hS ha=>
  ⟨by rw[c],d',val',L2.trans ⟨h6,(Fr.pu hp:Fr (Own d) w2 w5).trans hf λi hi _=>hi,λb hb=>(ho b hb).imp id λhz=>Nat.le_trans hp.size hz,hS⟩,by rw[if_pos c];exact ha⟩
 refine⟨_,h2.uAt hu,Br.of (λc1=>zQf λw5 aB _=>?_) (λc1=>⟨_,h2.uMode hu,Br.of (λc2=>zQf λw5 aB _=>?_) (λc2=>zQf λw5 aB _=>?_)⟩)⟩
 ·have c1:d.at_ u<0:=zQm c1
  have h5:=h2.pu aB
  have hlt:(-d.at_ u - 1).toNat<(d.ah u).length:=by omega
  obtain⟨x,hx⟩:=zXe hlt
  obtain⟨a,ea,_,_⟩:=(h5.bd.aw u hu).elem zQk hx (o:=0) (v:=.bool x.g) rfl
  have ew:IntKind.i64.wrap ((IntKind.i64.wrap (0 - d.at_ u)) - 1)=-d.at_ u - 1:=by rw[zQd (n:=0 - d.at_ u) (by omega) (by omega),zQd (by omega) (by omega)];omega
  refine⟨d.asv u,h5.uAp hu,d.at_ u,h5.uAt hu,a,ea,?_⟩
  rw[ew]
  refine⟨by show 0<=-d.at_ u - 1;omega,by show -d.at_ u - 1<(((d.asv u).len:Nat):Int);omega,gW.body,(do_ap h5 hu (gW.pu aB) hx (λj v e=>by rw[(h.read hI (zXj hu (List.mem_of_getElem? hx))).2];exact hA j v e) ea).mono ?_⟩
  rintro e w6 ⟨rfl,d',val',h6,bb,ho6,hS6,habs⟩
  refine⟨rfl,fin aB h6 bb (λb hb=>.inl (by rw[ho6]at hb;exact hb)) hS6 ?_⟩
  rw[habs,yX7,e2]
  have e3:lockS u (zQa d val)=zQa d val:=by simp only[lockS,eM,eA];rw[if_pos (.inr (.inr (.inl c1)))]
  rw[e3]
  simp only[alterS,eA]
  rw[if_pos c1]
 ·have c1:¬d.at_ u<0:=zQh c1
  have c2:d.mode u=0:=zQA c2
  have h5:=h2.pu aB
  have hlt:(d.at_ u - 1).toNat<d.rh.length:=by omega
  obtain⟨x,hx⟩:=zXe hlt
  obtain⟨a,ea,_,_⟩:=h5.bd.rw_.elem zQk hx (o:=0) (v:=.bool x.g) rfl
  refine⟨d.rs,h5.recs,d.at_ u,h5.uAt hu,a,ea,?_⟩
  rw[zQd (by omega) (by omega)]
  refine⟨by show 0<=d.at_ u - 1;omega,by show d.at_ u - 1<((d.rs.len:Nat):Int);omega,gW.body,(do_rec h5 (gW.pu aB) hx (λj v e=>by rw[(h.read hI (zQJ (List.mem_of_getElem? hx))).2];exact hA j v e) ea).mono ?_⟩
  rintro e w6 ⟨rfl,d',val',h6,bb,ho6,hS6,habs⟩
  refine⟨rfl,fin aB h6 bb (λb hb=>.inl (by rw[ho6]at hb;exact hb)) hS6 ?_⟩
  rw[habs,yX7,e2]
  have e3:lockS u (zQa d val)=zQa d val:=by simp only[lockS,eM,eA];rw[if_pos (.inr (.inr (.inr c2)))]
  rw[e3]
  simp only[alterS,eM,eA]
  rw[if_neg c1,if_pos c2]
 ·have c1:¬d.at_ u<0:=zQh c1
  have c2:d.mode u ≠ 0:=zQo c2
  have h5:=h2.pu aB
  have hlt:(d.at_ u - 1).toNat<d.rh.length:=by omega
  obtain⟨x,hx⟩:=zXe hlt
  have hxm:x ∈ zQX d:=zQJ (List.mem_of_getElem? hx)
  have hlen:=(h.read hI hxm).2
  have hl16:d.flds.length<=16:=hI.f16
  have nf:d.flds ≠ []:=(zQG hI.vf).1
  have nf:0<d.flds.length:=List.length_pos_iff.2 nf
  have ew:IntKind.i64.wrap (d.at_ u - 1)=d.at_ u - 1:=zQd (by omega) (by omega)
  have recE:recK (zQa d val) (d.at_ u)=toR val x:=by
   unfold recK
   show(d.rh.map (toR val)).getD _ _=_
   rw[List.getD_eq_getElem?_getD,List.getElem?_map,hx];rfl
  refine⟨λy=>Pu w5 y,Pu.refl _,some (d.C u),λy hy=>(h5.pu hy).uCh hu,d.at_ u,λy hy=>(h5.pu hy).uAt hu,_,(chG (d.ch u) (d.at_ u)).1.s,_,(chG (d.ch u) (d.at_ u)).2.s,_,λy hy=>zYa ((h5.pu hy).mp hu) _,alB λcO hp21 hb21=>⟨hp21,zQj hb21 zYQ.symm rfl rfl λcS hb22 hf22 hs22=>?_⟩⟩
  have zr:w5.heap.size<cO.heap.size:=zQy hb21
  have rK:Pu w5 cS:=hp21.andNew hf22 λi hi=>by rw[show i=w5.heap.size from hi];exact Nat.le_refl _
  have h22:=h5.pu rK
  have z5:=aB.size
  have nR:d.o w5.heap.size=none:=h5.bd.out (Nat.le_refl _)
  refine Br.of (λcn=>?_) (λce=>?_)
  ·have cn:AL.get (d.ch u) (d.at_ u)=none:=by simpa using cn
   refine zQf λcJ qb _=>?_
   have vu:=h22.pu qb
   have hb23:=qb.blk hb22
   obtain⟨a,ea,_,g0⟩:=vu.bd.rw_.elem zQk hx (o:=0) (v:=.bool x.g) rfl
   have rd:∀y,Pu cJ y->y.cell? ((a.add ((d.at_ u - 1).toNat * 2)).add 0)=some (.bool x.g)/\y.cell? ((a.add ((d.at_ u - 1).toNat * 2)).add 1)=some (.slice x.s.a x.s.len x.s.cap):=λy hy=>by
    obtain⟨a',ea',_,g1⟩:=vu.bd.rw_.elem zQk hx (o:=1) (v:=.slice x.s.a x.s.len x.s.cap) rfl
    rw[ea]at ea';cases ea'
    exact⟨hy.cell g0,hy.cell g1⟩
   refine⟨λy=>Pu cJ y,Pu.refl _,d.rs,λy hy=>(vu.pu hy).recs,d.at_ u,λy hy=>(vu.pu hy).uAt hu,a,ea,?_⟩
   rw[ew]
   refine⟨by show 0<=d.at_ u - 1;omega,by show d.at_ u - 1<((d.rs.len:Nat):Int);omega,x.g,λy hy=>(rd y hy).1,x.s,λy hy=>(rd y hy).2,d.rs,λy hy=>(vu.pu hy).recs,d.at_ u,λy hy=>(vu.pu hy).uAt hu,a,ea,?_⟩
   rw[ew]
   refine⟨by show 0<=d.at_ u - 1;omega,by show d.at_ u - 1<((d.rs.len:Nat):Int);omega,x.g,λy hy=>(rd y hy).1,x.s,λy hy=>(rd y hy).2,(zK1 (vu.vals hxm (by omega)) (by omega)).mono ?_⟩
   rintro e dw ⟨s1,rfl,n1,pr⟩
   have h30:=vu.pu pr
   refine⟨_,s1,rfl,pr,(zK1 (h30.vals hxm (by omega)) (by omega)).mono ?_⟩
   rintro e gB ⟨s2,rfl,n2,rL⟩
   have h31:=h30.pu rL
   have hb31:=rL.blk (pr.blk hb23)
   refine⟨_,s2,rfl,zQj hb31 zYQ.symm rfl rfl λgZ hb32 we hs32=>?_⟩
   obtain⟨a1,uL⟩:=zX8 (i:=0) n1.1 (by omega)
   obtain⟨a2,qZ⟩:=zX8 (i:=0) n2.1 (by omega)
   have rM:zQb s1=[a1.block]:=by simp[zQb,uL]
   have sg:zQb s2=[a2.block]:=by simp[zQb,qZ]
   have m1:cJ.heap.size<=a1.block:=n1.2 _ (by rw[rM];simp)
   have m1':a1.block<dw.heap.size:=n1.1.lt _ (by rw[rM];simp)
   have m2:dw.heap.size<=a2.block:=n2.2 _ (by rw[sg];simp)
   have m2':a2.block<gB.heap.size:=n2.1.lt _ (by rw[sg];simp)
   have z23:=qb.size
   have z30:=pr.size
   have z31:=rL.size
   have o1:({ d with lk:=lk' }:zQs).o a1.block=none:=vu.bd.out m1
   have bd1:=h31.bd.ad o1 (by omega) (hv val x)
   have o2:(({ d with lk:=lk' }:zQs).ad a1.block).o a2.block=none:=by
    show(if a2.block=a1.block then _ else _)=_
    rw[if_neg (by omega)];exact vu.bd.out (by omega)
   have bd2:=bd1.ad o2 (by omega) (hv val x)
   have oR:((({ d with lk:=lk' }:zQs).ad a1.block).ad a2.block).o w5.heap.size=none:=by
    show(if _=a2.block then _ else if _=a1.block then _ else _)=_
    rw[if_neg (by omega),if_neg (by omega)];exact nR
   have h31':zQg gB ((({ d with lk:=lk' }:zQs).ad a1.block).ad a2.block) 1 (zXE (zXE val a1.block (hv val x)) a2.block (hv val x)):=⟨h31.st,bd2,h31.sd⟩
   have h32:=h31'.fr we λb hb e=>hb (by rw[show b=w5.heap.size from e];exact oR)
   have v1:hv (zXE (zXE val a1.block (hv val x)) a2.block (hv val x)) ⟨x.g,s1⟩=hv val x:=by
    rw[zZR (by show a2.block ∉ zQb s1;rw[rM];simp;omega)]
    exact zZs uL rfl
   have v2:hv (zXE (zXE val a1.block (hv val x)) a2.block (hv val x)) ⟨x.g,s2⟩=hv val x:=zZs qZ rfl
   have kO:zQa ((({ d with lk:=lk' }:zQs).ad a1.block).ad a2.block) (zXE (zXE val a1.block (hv val x)) a2.block (hv val x))=lockS u (zQa d val):=by
    rw[zVB bd1 o2,zVB h31.bd o1,yX7,e2]
   have hpw:Pu w2 gZ:=((((aB.trans rK).trans qb).trans pr).trans rL).andNew we λi hi=>by rw[show i=w5.heap.size from hi];exact z5
   have hf31:Fr (·=w5.heap.size) gB gZ:=we
   have nlt:∀b ∈ vB (chH (d.ch u) ++ d.ah u ++ zXa d u),b<w2.heap.size:=λb hb=>by
    have:b ∈ vB (zQX d):=(zXF (zJo d hu)).mem_iff.2 hb
    exact h2.bd.lt b (by rw[show({ d with lk:=lk' }:zQs).o b=d.o b from rfl,h.bd.oV b this];simp)
   have z22:=rK.size
   refine zVA (A:=A) (R:=λe w'=>e=.returned (.int .i64 (lockC u (zQa d val)))/\∃d' val',zQB w w' d d' 1 val'/\zQa d' val'=if lockC u (zQa d val)=0 then alterS u A.f (zQa d val)else zQa d val) h32 hu (c:=(⟨x.g,s1⟩,⟨x.g,s2⟩)) hb32 oR ((gW.up λb hb hD=>?_).pu hpw) ?_ ?_ (λb hb=>?_) (.inr λb hb hbx=>?_) ?_ (λj v e=>?_) λw' d' val' hD hf ho hS habs=>?_
   ·rcases hD with hD|hD
    ·have hD:(if b=a2.block then some zXx.V else if b=a1.block then some .V else d.o b) ≠ none:=hD
     rwa [if_neg (by omega),if_neg (by omega)]at hD
    ·omega
   ·rw[v1];exact(n1.1.pu rL).fr hf31 λb hb e=>by rw[rM]at hb;simp at hb;have:b=w5.heap.size:=e;omega
   ·rw[v2];exact n2.1.fr hf31 λb hb e=>by rw[sg]at hb;simp at hb;have:b=w5.heap.size:=e;omega
   ·show(if b=a2.block then some zXx.V else if b=a1.block then some .V else d.o b)=_
    rcases hb with hb|hb
    ·have hb:b ∈ zQb s1:=hb
     rw[rM]at hb;simp at hb
     rw[if_neg (by omega),if_pos hb]
    ·have hb:b ∈ zQb s2:=hb
     rw[sg]at hb;simp at hb
     rw[if_pos hb]
   ·have hb:b ∈ zQb s2:=hb
    rw[sg]at hb;simp at hb
    have:=nlt b ((zXF (zJo d hu)).mem_iff.1 hbx)
    omega
   ·unfold ApC
    rw[AL.del_none (by exact cn),zXl,zXl]
    show(zQb s1 ++ (zQb s2 ++ vB (chH (d.ch u) ++ d.ah u ++ zXa d u))).Nodup
    rw[rM,sg]
    simp only[List.singleton_append,List.nodup_cons,List.mem_cons,not_or]
    refine⟨⟨by omega,λhb=>?_⟩,λhb=>?_,(yXi hu).1 h.bd.nd⟩
    ·have:=nlt _ hb;omega
    ·have:=nlt _ hb;omega
   ·rw[v2,hlen];exact hA j v e
   ·rw[kO]at habs
    refine fin aB hD (((Fr.pu ((((rK.trans qb).trans pr).trans rL).andNew we λi hi=>by rw[show i=w5.heap.size from hi];exact Nat.le_refl _):Fr (Own d) w5 gZ).trans hf λi hi hlt=>?_)) (λb hb=>?_) hS ?_
    ·rcases hi with hi|hi
     ·have hi:(if i=a2.block then some zXx.V else if i=a1.block then some .V else d.o i) ≠ none:=hi
      rwa [if_neg (by omega),if_neg (by omega)]at hi
     ·omega
    ·rw[ho]at hb
     have hb:(if b=a2.block then some zXx.V else if b=a1.block then some .V else d.o b) ≠ none:=hb
     by_cases q2:b=a2.block
     ·right;omega
     ·by_cases q1:b=a1.block
      ·right;omega
      ·rw[if_neg q2,if_neg q1]at hb;exact .inl hb
    ·rw[habs]
     simp only[alterS,eM,eA]
     rw[if_neg c1,if_neg c2]
     have e5:((lockS u (zQa d val)).us u)=(zQa d val).us u:=by unfold lockS;simp only;split <;> rfl
     have e6:AL.get ((zQa d val).us u).ch (d.at_ u)=none:=by
      show AL.get ((d.ch u).map (toC val)) _=_
      rw[zXM,cn];rfl
     have e7:toR (zXE (zXE val a1.block (hv val x)) a2.block (hv val x)) ⟨x.g,s1⟩=toR val x:=by rw[toR,v1];rfl
     have e8:toR (zXE (zXE val a1.block (hv val x)) a2.block (hv val x)) ⟨x.g,s2⟩=toR val x:=by rw[toR,v2];rfl
     rw[e5,e6,e7,e8,recE]
     rfl
  ·have ce:(AL.get (d.ch u) (d.at_ u)).isSome=true:=by simpa using ce
   obtain⟨c0,hc0⟩:=Option.isSome_iff_exists.1 ce
   have eG:chG (d.ch u) (d.at_ u)=c0:=by rw[chG,hc0];rfl
   rw[eG]at hb22
   have mc:=zXA hu (AL.get_mem hc0)
   have mc1:c0.1 ∈ zQX d:=mc.1
   have mc2:c0.2 ∈ zQX d:=mc.2
   refine zVA (A:=A) (R:=λe w'=>e=.returned (.int .i64 (lockC u (zQa d val)))/\∃d' val',zQB w w' d d' 1 val'/\zQa d' val'=if lockC u (zQa d val)=0 then alterS u A.f (zQa d val)else zQa d val) h22 hu (c:=c0) hb22 nR ((gW.up λb hb hD=>?_).pu (aB.trans rK)) (h22.bd.vr _ mc1) (h22.bd.vr _ mc2) (λb hb=>?_) (.inl mc2) ?_ (λj v e=>?_) λw' d' val' hD hf ho hS habs=>?_
   ·rcases hD with hD|hD
    ·exact hD
    ·omega
   ·rcases hb with hb|hb
    ·exact h.bd.oV b (zQN mc1 hb)
    ·exact h.bd.oV b (zQN mc2 hb)
   ·show(vB (c0.1 :: c0.2 :: (chH (AL.del (d.ch u) (d.at_ u)) ++ d.ah u ++ zXa d u))).Nodup
    have q1:=(yXi hu).1 h.bd.nd
    have q2:=zJ5 (d.ch u) (d.at_ u) c0
    rw[zW0 hc0]at q2
    have q3:(uH d u ++ zXa d u).Perm (c0.1 :: c0.2 :: (chH (AL.del (d.ch u) (d.at_ u)) ++ d.ah u ++ zXa d u)):=by
     have:=(q2.append_right (d.ah u)).append_right (zXa d u)
     simpa[uH] using this
    exact(zXF q3).nodup_iff.1 q1
   ·rw[(h.read hI mc2).2];exact hA j v e
   ·refine fin aB hD ((Fr.pu rK:Fr (Own d) w5 cS).trans hf λi hi hlt=>?_) (λb hb=>?_) hS ?_
    ·rcases hi with hi|hi
     ·exact hi
     ·omega
    ·rw[ho]at hb;exact .inl hb
    ·rw[habs,yX7,e2]
     simp only[alterS,eM,eA]
     rw[if_neg c1,if_neg c2]
     have e5:((lockS u (zQa d val)).us u)=(zQa d val).us u:=by unfold lockS;simp only;split <;> rfl
     have e6:AL.get ((zQa d val).us u).ch (d.at_ u)=some (toR val c0.1,toR val c0.2):=by
      show AL.get ((d.ch u).map (toC val)) _=_
      rw[zXM,hc0];rfl
     rw[e5,e6]
     rfl
end Go.Proofs.YtcihcbfcgjepfaaGreatDoor
/- Desks: Set, Mark. No condition but those stated. -/
namespace Go.Proofs.YtcihcbfcgjepfaaGreatDoor
open Go.Sh Go.RowKit Tryz
variable {w w' : World} {d d' : zQs} {val : Nat -> List Val} {mu : Int}
theorem yQ4.dl{w2:World}(h:yQ4 w w2 d val):zQB w w2 d d 1 val:=⟨h.at_,h.fr,λ_ h=>.inl h,rfl⟩
theorem set_c (h:zQg w d 0 val) (hI:Inv (zQa d val)) (u:Int) (field:ByteArray) (v:Val) :
  Calls prog 16 #[d.ptr,.int .i64 u,.string field,zZh v] w λe w'=>e=.returned (.int .i64 (setC u field v (zQa d val)))/\∃d' val',zQB w w' d d' 0 val'/\zQa d' val'=setS u field v (zQa d val):=by
 refine yV4 _ u field v.kind v.n v.s w _ (alB λw1 al ay=>(zQU h al u).mono ?_)
 rintro e w2 ⟨rfl,h2,dh,fC⟩
 have z1:=al.size
 have lr:w.heap.size<w1.heap.size:=zQy ay
 have ho:d.o w.heap.size=none:=h.bd.out (Nat.le_refl _)
 have nS:¬w.heap.size=d.S:=λe=>by rw[e,h.bd.oS]at ho;cases ho
 have ag:=dh.blk ay nS
 have bad:∀{w3:World} (n:Int),yQ4 w w3 d val->setC u field v (zQa d val)=n->n ≠ 0->zQe prog [zX3 d] w3 λw'=>Ending.returned (.int .i64 n)=.returned (.int .i64 (setC u field v (zQa d val)))/\∃d' val',zQB w w' d d' 0 val'/\zQa d' val'=setS u field v (zQa d val):=λ{w3} n h3 hn h0=>
  h3.left λw' hL _ _=>⟨by rw[hn],d,val,hL,by rw[setS,hn,if_neg h0]⟩
 refine⟨_,_,_,rfl,Br.of (λc=>?_) (λc=>?_)⟩
 ·have hu:=zJZ c
  have e1:uC u=1:=by rw[uC,if_neg hu]
  rw[e1]
  exact bad 1 h2 (by rw[setC,if_pos hu]) (by decide)
 have hu:=zKs c
 obtain⟨n,rfl,hn⟩:=zQY hu
 rw[zWf hn]
 have eA:((zQa d val).us n).at_=d.at_ n:=rfl
 refine⟨_,h2.at_.uAt hn,Br.of (λc1=>?_) (λc1=>?_)⟩
 ·have c1:d.at_ n=0:=zQA c1
  exact bad 9 h2 (by rw[setC,if_neg (by simp[hu]),zQI,eA,if_pos c1]) (by decide)
 have c1:d.at_ n ≠ 0:=zQo c1
 refine⟨d.fs,h2.at_.flds,(yWU (h2.at_.fld hI.vf) field).mono ?_⟩
 rintro e w7 ⟨rfl,bU⟩
 refine⟨_,_,rfl,alB λw8 aV dz=>?_⟩
 refine zQt dz (by decide) λw9 hw9 kR=>?_
 have z7:=bU.size
 have z8:=aV.size
 have z2:w1.heap.size=w2.heap.size:=fC.symm
 have jX:Fr (·=w7.heap.size) w8 w9:=by rw[hw9];exact Fr.cell w8 _ _ _
 have kB:Pu w2 w9:=(bU.trans aV).andNew jX λi hi=>by rw[show i=w7.heap.size from hi];exact z7
 have h9:=h2.pu kB
 have eC:setC (n:Int) field v (zQa d val)=match zWl d.flds field with|none=>4|some i=>if (zZM (d.flds.getD i default) d.page v).2 ≠ 0 then(zZM (d.flds.getD i default) d.page v).2 else lockC n (zQa d val):=by
  rw[setC,if_neg (by simp[hu]),zQI,eA,if_neg c1];rfl
 refine Br.of (λc2=>?_) (λc2=>?_)
 ·have c2:zWl d.flds field=none:=by simpa using c2
  rw[c2]at eC
  exact bad 4 h9 eC (by decide)
 have c2:(zWl d.flds field).isSome=true:=by simpa using c2
 obtain⟨i,hi⟩:=Option.isSome_iff_exists.1 c2
 have hil:=zWQ hi
 obtain⟨fd,hfd⟩:=zXe hil
 have eD:d.flds.getD i default=fd:=by rw[List.getD_eq_getElem?_getD,hfd];rfl
 have eK:yXb d.flds field=(i:Int):=by rw[yXb,hi];rfl
 rw[hi]at eC
 simp only[eD]at eC
 refine zQf λav cY _=>?_
 have m5:=h9.pu cY
 have bK:=(kB.trans cY).blk ag
 have hc11:=cY.blk kR
 obtain⟨a,ea,_,_,_,_,f0,f1,f2,f3⟩:=zZ2 (m5.at_.fld hI.vf) hfd
 have hfl:=(m5.at_.fld hI.vf).len
 refine⟨d.fs,m5.at_.flds,(i:Int),?_,a,ea,by omega,by omega,fd.name,f0,fd.kind,f1,fd.width,f2,fd.null,f3,d.page,m5.at_.page,v.kind,cl bK 0,v.n,cl bK 1,v.s,cl bK 2,(fit_c fd d.page v ?_ av).mono ?_⟩
 ·rw[cl0 hc11,eK];rfl
 ·have:=zKK (hI.fB (f:=fd) (List.mem_of_getElem? hfd));omega
 rintro e aD ⟨rfl,aT⟩
 refine⟨_,_,_,_,rfl,zQj (aT.blk bK) zWp.symm rfl rfl λaU rN dA hs16=>?_⟩
 have h15:=m5.pu aT
 have h16:yQ4 w aU d val:=⟨h15.at_.fr dA λb hb e=>hb (by rw[show b=w.heap.size from e];exact ho),h15.fr.trans dA λi hi hlt=>by have hi:i=w.heap.size:=hi;omega⟩
 refine Br.of (λc3=>?_) (λc3=>?_)
 ·have c3:=zQ4 c3
  exact bad _ h16 (by rw[eC,if_pos c3]) c3
 ·have c3:=zQu c3
  rw[if_neg (by simp[c3])]at eC
  have ho7:d.o w7.heap.size=none:=h.bd.out (by omega)
  have m7:aU.heap[w7.heap.size]?=some (.cells #[.int .i64 (i:Int)] 3):=by
   have:=dA.blk (aT.blk hc11) (by show ¬w7.heap.size=w.heap.size;omega)
   rw[this,eK];rfl
  have hcap:zZS (.set i (zZM fd d.page v).1) 54 #[.pointer (some ⟨w.heap.size,0,none⟩),.pointer (some ⟨w7.heap.size,0,none⟩)] aU (Own d):=⟨rfl,_,_,rfl,rN,m7,λe=>e ho,λe=>e ho7⟩
  refine(yWJ h16.at_ hI hn c1 hcap λj v' e=>by cases e;exact hil).mono ?_
  rintro e bD ⟨rfl,d',val',hL,habs⟩
  refine⟨_,rfl,?_⟩
  have LL:=h16.dl.trans hL
  rw[←show d'.ptr=d.ptr by unfold zQs.ptr;rw[hL.ptr]]
  refine zXg LL λw' hL' _ _=>⟨by rw[eC],d',val',hL',?_⟩
  rw[habs,setS,eC]
  have e0:(zQa d val).flds=d.flds:=rfl
  have e1:(zQa d val).page=d.page:=rfl
  rw[e0,e1,hi]
  simp only[eD,zQI]
  rfl
theorem mark_c (h:zQg w d 0 val) (hI:Inv (zQa d val)) (u:Int) (g:Bool) :
  Calls prog 20 #[d.ptr,.int .i64 u,.bool g] w λe w'=>e=.returned (.int .i64 (markC u (zQa d val)))/\∃d' val',zQB w w' d d' 0 val'/\zQa d' val'=markS u g (zQa d val):=by
 refine yWL _ u g w _ (alB λw1 al ay=>(zQU h al u).mono ?_)
 rintro e w2 ⟨rfl,h2,dh,fC⟩
 have ho:d.o w.heap.size=none:=h.bd.out (Nat.le_refl _)
 have nS:¬w.heap.size=d.S:=λe=>by rw[e,h.bd.oS]at ho;cases ho
 have ag:=dh.blk ay nS
 have bad:∀(n:Int),markC u (zQa d val)=n->n ≠ 0->zQe prog [zX3 d] w2 λw'=>Ending.returned (.int .i64 n)=.returned (.int .i64 (markC u (zQa d val)))/\∃d' val',zQB w w' d d' 0 val'/\zQa d' val'=markS u g (zQa d val):=λn hn h0=>
  h2.left λw' hL _ _=>⟨by rw[hn],d,val,hL,by rw[markS,hn,if_neg h0]⟩
 refine⟨_,_,_,rfl,Br.of (λc=>?_) (λc=>?_)⟩
 ·have hu:=zJZ c
  have e1:uC u=1:=by rw[uC,if_neg hu]
  rw[e1]
  exact bad 1 (by rw[markC,if_pos hu]) (by decide)
 have hu:=zKs c
 obtain⟨n,rfl,hn⟩:=zQY hu
 rw[zWf hn]
 have eA:((zQa d val).us n).at_=d.at_ n:=rfl
 refine⟨_,h2.at_.uAt hn,Br.of (λc1=>?_) (λc1=>?_)⟩
 ·have c1:d.at_ n=0:=zQA c1
  exact bad 9 (by rw[markC,if_neg (by simp[hu]),zQI,eA,if_pos c1]) (by decide)
 have c1:d.at_ n ≠ 0:=zQo c1
 have eC:markC (n:Int) (zQa d val)=lockC n (zQa d val):=by rw[markC,if_neg (by simp[hu]),zQI,eA,if_neg c1]
 have hcap:zZS (.mark g) 57 #[.pointer (some ⟨w.heap.size,0,none⟩)] w2 (Own d):=⟨rfl,_,rfl,ag,λe=>e ho⟩
 refine(yWJ h2.at_ hI hn c1 hcap λj v' e=>by cases e).mono ?_
 rintro e bD ⟨rfl,d',val',hL,habs⟩
 refine⟨_,rfl,?_⟩
 have LL:=h2.dl.trans hL
 rw[←show d'.ptr=d.ptr by unfold zQs.ptr;rw[hL.ptr]]
 refine zXg LL λw' hL' _ _=>⟨by rw[eC],d',val',hL',?_⟩
 rw[habs,markS,eC,zQI]
 rfl
end Go.Proofs.YtcihcbfcgjepfaaGreatDoor
/- Desks: clean, Revert, Fall. No condition but those stated. -/
namespace Go.Proofs.YtcihcbfcgjepfaaGreatDoor
open Go.Sh Go.RowKit Tryz
variable {w w' : World} {d d' : zQs} {val : Nat -> List Val} {mu : Int}
theorem yKk{u:Nat}(hu:u<4)(r:Nat):(zQR mu d).setIfInBounds (5+u * 4+2) (.map (some r))=zQR mu { d with C:=λv=>if v=u then r else d.C v }:=by
 rcases(by omega:u=0∨u=1∨u=2∨u=3)with rfl|rfl|rfl|rfl <;> rfl
theorem zYv{u:Nat}(hu:u<4)(s:SV):(zQR mu d).setIfInBounds (5+u * 4+3) (.slice s.a s.len s.cap)=zQR mu { d with asv:=λv=>if v=u then s else d.asv v }:=by
 rcases(by omega:u=0∨u=1∨u=2∨u=3)with rfl|rfl|rfl|rfl <;> rfl
def zQs.clr(d:zQs)(u r:Nat):zQs:={ d with C:=λv=>if v=u then r else d.C v,asv:=λv=>if v=u then⟨none,0,0⟩else d.asv v }
theorem zYB (hst:w.heap[d.S]?=some (.cells (zQR mu d) 93)) {l:List (Int × Int)} (hl:zQ3 w zQM zQM d.L l) (hLS:d.L ≠ d.S) {u:Nat} (hu:u<4) :
  Calls prog 116 #[d.ptr,.int .i64 (u:Int),.pointer (some (uA d u))] w λe w'=>e=.returned (.tuple #[])/\w'.heap[d.S]?=some (.cells (zQR mu (d.clr u w.heap.size)) 93)/\zQ3 w' zQM chV w.heap.size []/\
   Fr (λb=>b=d.S∨b=d.L) w w'/\∃l',zQ3 w' zQM zQM d.L l'/\∀k,AL.get l' k=if AL.get l k=some (u:Int)then none else AL.get l k:=by
 refine yJF _ _ _ w _ (zXz λw1 gj=>?_)
 have al:Pu w w1:=by rw[gj];exact Pu.alloc w _
 have hm1:zQ3 w1 zQM chV w.heap.size []:=by rw[gj];exact zQ3.new w _ _
 have zS:d.S<w.heap.size:=zQy hst
 have zL:=hl.lt
 have hst1:=al.blk hst
 rw[zQn,zQc]
 refine zQt hst1 (by show 5+u * 4+2<22;omega) λw2 qX ag=>?_
 have dh:Fr (·=d.S) w1 w2:=by rw[qX];exact Fr.cell w1 _ _ _
 rw[yKk hu]at ag
 rw[zQn,zQc]
 refine zQt ag (by show 5+u * 4+3<22;omega) λw3 hw3 aH=>?_
 have bP:Fr (·=d.S) w2 w3:=by rw[hw3];exact Fr.cell w2 _ _ _
 have aH:w3.heap[d.S]?=some (.cells (zQR mu (d.clr u w.heap.size)) 93):=by
  rw[aH]
  exact congrArg (λc=>some (Obj.cells c 93)) (zYv (d:={ d with C:=λv=>if v=u then w.heap.size else d.C v }) hu ⟨none,0,0⟩)
 have dp:Fr (·=d.S) w1 w3:=dh.trans bP λi hi _=>hi
 have vv:zQ3 w3 zQM zQM d.L l:=(hl.pu al).fr dp hLS
 have hm3:zQ3 w3 zQM chV w.heap.size []:=hm1.fr dp (by omega)
 have hF3:Fr (λb=>b=d.S∨b=d.L) w w3:=(Fr.pu al:Fr (λb=>b=d.S∨b=d.L) w w1).trans dp λi hi _=>.inl hi
 obtain⟨w4,hrun,hi4,ar,se⟩:=vv.range (P:=prog) yYh
 refine⟨some d.L,by rw[zQc,zQq aH];rfl,_,w4,hrun,?_⟩
 have aZ:=ar.blk aH
 have z3:=hF3.size
 have zS3:d.S<w3.heap.size:=zQy aH
 have z13:=dp.size
 have z1:w.heap.size<w1.heap.size:=by rw[gj];simp
 refine zJC l.length (λm _ w'=>∃todo cur:List (Int × Int),todo.length=m/\zQS w' zQM zQM w3.heap.size d.L cur todo/\(∀k v,AL.get todo k=some v->AL.get l k=some v)/\
  (∀k,AL.get cur k=if (AL.get todo k).isSome then AL.get l k else if AL.get l k=some (u:Int)then none else AL.get l k)/\Fr (λb=>b=d.L∨b=w3.heap.size) w3 w'/\w'.heap[d.S]?=some (.cells (zQR mu (d.clr u w.heap.size)) 93)/\zQ3 w' zQM chV w.heap.size [])
  ⟨l,l,rfl,hi4,λ_ _ h=>h,λk=>by cases e:AL.get l k <;> simp[e],Fr.pu ar,aZ,hm3.pu ar⟩ ?_
 rintro m J s w5 ⟨todo,cur,hm,hi,hT,hC,bT,aP,hm5⟩ hJ
 have zl5:d.L<w3.heap.size:=vv.lt
 rcases hi.next (P:=prog) 0 with⟨h0,hr⟩|⟨p,hp,w6,hr,bb,hs6,hi6,hen⟩
 ·left
  refine⟨w5,hr,rfl,aP,hm5,hF3.trans bT λi hi' hlt=>?_,cur,hi.map,λk=>?_⟩
  ·rcases hi' with hi'|hi'
   ·exact .inr hi'
   ·omega
  ·rw[hC,h0];rfl
 ·right
  refine⟨_,_,w6,hr,_,_,w6,hen,?_⟩
  show Br (p.2 == (u:Int)) _ _
  have hg:AL.get todo p.1=some p.2:=AL.get_of_mem hi.nodup hp
  have hlen:=AL.length_del hp hi.nodup
  have hT6:∀k v,AL.get (AL.del todo p.1) k=some v->AL.get l k=some v:=λk v hk=>by
   rw[AL.get_del hi.nodup]at hk
   by_cases e:p.1=k
   ·rw[if_pos e]at hk;cases hk
   ·rw[if_neg e]at hk;exact hT k v hk
  have dx:=bb.blk aP (by omega)
  have hm6:=hm5.fr bb (by omega)
  have hf36:Fr (λb=>b=d.L∨b=w3.heap.size) w3 w6:=bT.trans bb λi hi _=>.inr hi
  have hlp:=hT _ _ hg
  refine Br.of (λc=>?_) (λc=>?_)
  ·have c:=zQA c
   obtain⟨w7,hd,hi7,dg,hs7⟩:=hi6.drop (P:=prog) (r0:=0) (tys:=#[80,3]) zWJ rfl yYh (x:=p.1) (by rw[←AL.get_none,AL.get_del hi.nodup,if_pos rfl])
   refine⟨some d.L,by rw[zQc,zQq dx];rfl,w7,hd,?_⟩
   refine hJ (m - 1) _ _ (by omega) ⟨AL.del todo p.1,AL.del cur p.1,by omega,hi7,hT6,λk=>?_,hf36.trans dg λi hi _=>.inl hi,dg.blk dx (Ne.symm hLS),hm6.fr dg (by omega)⟩
   rw[AL.get_del hi6.map.nodup,AL.get_del hi.nodup]
   by_cases e:p.1=k
   ·subst e
    simp[hlp,c]
   ·simp only[if_neg e];exact hC k
  ·have c:=zQo c
   refine hJ (m - 1) _ _ (by omega) ⟨AL.del todo p.1,cur,by omega,hi6,hT6,λk=>?_,hf36,dx,hm6⟩
   rw[AL.get_del hi.nodup,hC]
   by_cases e:p.1=k
   ·subst e
    simp[hlp,hg,c]
   ·simp only[if_neg e]
end Go.Proofs.YtcihcbfcgjepfaaGreatDoor
/- Desks: Revert, Fall. No condition but those stated. -/
namespace Go.Proofs.YtcihcbfcgjepfaaGreatDoor
open Go.Sh Go.RowKit Tryz
variable {w w' : World} {d d' : zQs} {val : Nat -> List Val} {mu : Int}
def zQs.cln(d:zQs)(u r:Nat)(lk':Int->Option Int):zQs:={ d.gen u (λb=>if b=r then some (.C u)else d.o b) d.rs d.rh ⟨none,0,0⟩ [] (d.cs u) [] r with lk:=lk' }
theorem nd_oth {u:Nat} (hu:u<4) (h:(vB (zQX d)).Nodup):(vB (zXa d u)).Nodup:=by
 have:=(yXi hu).1 h
 rw[zQp]at this
 exact(List.nodup_append.1 this).2.1
theorem yK1(h:zQg w d 1 val){u:Nat}(hu:u<4) :
  Calls prog 116 #[d.ptr,.int .i64 (u:Int),.pointer (some (uA d u))] w λe w'=>e=.returned (.tuple #[])/\∃d',zQB w w' d d' 1 val/\zQa d' val=zXB u (zQa d val):=by
 obtain⟨l,hl,hk⟩:=h.lm
 have hLS:d.L ≠ d.S:=λe=>by have:=h.bd.oL;rw[e,h.bd.oS]at this;cases this
 refine(zYB h.st hl hLS hu).mono ?_
 rintro e w' ⟨rfl,hst,hm,hf,l',hl',hk'⟩
 have ho:d.o w.heap.size=none:=h.bd.out (Nat.le_refl _)
 have ne:∀{b:Nat} {κ:zXx},d.o b=some κ->κ ≠ .S->κ ≠ .L->¬(b=d.S∨b=d.L):=λ{b κ} hb h1 h2 e=>by
  rcases e with e|e
  ·rw[e,h.bd.oS]at hb;exact h1 (Option.some.inj hb).symm
  ·rw[e,h.bd.oL]at hb;exact h2 (Option.some.inj hb).symm
 have up:∀{b:Nat} {κ:zXx},d.o b=some κ->(if b=w.heap.size then some (.C u)else d.o b)=some κ:=λ{b κ} hb=>by
  rw[if_neg λe=>by rw[e,ho]at hb;cases hb];exact hb
 refine⟨rfl,d.cln u w.heap.size λk=>if d.lk k=some (u:Int)then none else d.lk k,⟨⟨hst,?_,h.sd⟩,hf.mono λi hi _=>?_,λb hb=>?_,rfl⟩,?_⟩
 ·refine h.bd.genL hu hf ⟨l',hl',λk=>?_⟩ (up h.bd.oL) (λb κ hb k0 k1 k2 k3 k4=>⟨ne hb k1 k0,up hb⟩) (up h.bd.oS) (h.bd.rw_.fr hf λb hb=>ne (h.bd.oR b hb) (by simp) (by simp)) (λb hb=>up (h.bd.oR b hb)) (zQl.nil _ _ _) (by simp[zQb]) (λ_=>⟨hm,if_pos rfl⟩) (λe=>absurd (h.sd.symm.trans e) (by simp)) (λx hx=>?_) ?_ (λb hb=>?_)
  ·rw[hk',hk,h.sd]
   split
   ·rfl
   ·cases d.lk k <;> rfl
  ·simp only[List.append_nil,chH,List.flatMap_nil,List.nil_append]at hx
   exact .inl ⟨x,zQJ hx,rfl⟩
  ·have e:zXa d u=d.rh ++ (zXa d u).drop d.rh.length:=by simp[zXa]
   simp only[zKO,chH,List.flatMap_nil,List.nil_append,←e]
   exact nd_oth hu h.bd.nd
  ·by_cases e:b=w.heap.size
   ·rw[e];exact hm.lt
   ·rw[if_neg e]at hb
    exact Nat.lt_of_lt_of_le (h.bd.lt b hb) hf.size
 ·rcases hi with rfl|rfl
  ·rw[h.bd.oS];simp
  ·rw[h.bd.oL];simp
 ·by_cases e:b=w.heap.size
  ·right;omega
  ·left
   have hb:(if b=w.heap.size then some (zXx.C u)else d.o b) ≠ none:=hb
   rwa [if_neg e]at hb
 ·have e1:zQa (d.cln u w.heap.size λk=>if d.lk k=some (u:Int)then none else d.lk k) val={ zQa (d.gen u (λb=>if b=w.heap.size then some (.C u)else d.o b) d.rs d.rh ⟨none,0,0⟩ [] (d.cs u) [] w.heap.size) val with lk:=λk=>if d.lk k=some (u:Int)then none else d.lk k }:=rfl
  rw[e1,zK8]
  rfl
theorem yZe (h:zQg w d 1 val) (hI:Inv (zQa d val)) {u:Nat} (hu:u<4) (hc:(d.ch u).length<=1000000) :
  Calls prog 58 #[d.ptr,.int .i64 (u:Int),.pointer (some (uA d u))] w λe w'=>e=.returned (.int .i64 (((d.ch u).length+(d.ah u).length:Nat):Int))/\∃d',zQB w w' d d' 1 val/\zQa d' val=revertU u (zQa d val):=by
 refine yWm _ _ _ w _ (zQf λw1 al _=>?_)
 have h1:=h.pu al
 have ha:=hI.ah hu
 have hal:=h.as_len hu
 have eA:((zQa d val).us u).at_=d.at_ u:=rfl
 have ew:IntKind.i64.wrap (((d.ch u).length:Nat)+(((d.asv u).len:Nat):Int))=(((d.ch u).length+(d.ah u).length:Nat):Int):=by rw[zQd (by omega) (by omega)];omega
 refine⟨some (d.C u),h1.uCh hu,_,(h1.mp hu).len rfl yJQ,d.asv u,h1.uAp hu,d.at_ u,h1.uAt hu,Br.of (λc=>?_) (λc=>?_)⟩
 ·have c:=zQm c
  rw[zQn,zQc]
  refine h1.own (d':=d.withAt u 0) (mu':=1) (by omega) (zJD hu 0) rfl rfl (λx hb=>hb.same _ _) λw3 h3 bP pL=>?_
  have L3:zQB w w3 d (d.withAt u 0) 1 val:=(zQB.pu h al).trans ⟨h3,bP.mono λi hi _=>by rw[show i=d.S from hi,h.bd.oS];simp,λ_ h=>.inl h,rfl⟩
  refine Calls.mono (yK1 h3 hu) ?_
  rintro e w' ⟨rfl,d',hL,habs⟩
  refine⟨rfl,by rw[ew],d',L3.trans hL,?_⟩
  rw[habs,zVS,revertU,eA,if_pos c]
 ·have c:=zQh c
  refine Calls.mono (yK1 h1 hu) ?_
  rintro e w' ⟨rfl,d',hL,habs⟩
  refine⟨rfl,by rw[ew],d',(zQB.pu h al).trans hL,?_⟩
  rw[habs,revertU,eA,if_neg c]
  congr 1
  simp only[Dsk.setU]
  have:(λv=>if v=u then({ mode:=((zQa d val).us u).mode,at_:=d.at_ u,ch:=((zQa d val).us u).ch,ap:=((zQa d val).us u).ap }:Usr)else(zQa d val).us v)=(zQa d val).us:=by
   funext v
   by_cases e:v=u
   ·rw[if_pos e,e];rfl
   ·rw[if_neg e]
  rw[this]
theorem Inv.chl (h:Inv (zQa d val)) {u:Nat} (hu:u<4):(d.ch u).length<=300:=by
 have h1:=h.cn u hu
 have h2:∀k ∈ ((zQa d val).us u).ch.map Prod.fst,k ∈ (List.range (zQa d val).recs.length).map λ(i:Nat)=>(i:Int)+1:=λk hk=>by
  obtain⟨c,hc,rfl⟩:=List.mem_map.1 hk
  have:=(h.gc u hu c hc).2
  exact List.mem_map.2 ⟨(c.1 - 1).toNat,List.mem_range.2 (by omega),by omega⟩
 have h3:=List.Nodup.length_le_of_subset h1 h2
 have h4:=h.r300
 simp only[List.length_map,List.length_range]at h3
 have h5:((zQa d val).us u).ch.length=(d.ch u).length:=zKQ
 omega
theorem yYu (h:zQg w d 0 val) (hI:Inv (zQa d val)) (u:Int) :
  Calls prog 22 #[d.ptr,.int .i64 u] w λe w'=>e=.returned (.tuple #[.int .i64 ((revertN u (zQa d val):Nat):Int),.int .i64 (uC u)])/\∃d',zQB w w' d d' 0 val/\zQa d' val=revertS u (zQa d val):=by
 refine yVk _ u w _ ((zQU h (Pu.refl w) u).mono ?_)
 rintro e w2 ⟨rfl,h2,dh,fC⟩
 refine⟨_,_,_,rfl,Br.of (λc=>?_) (λc=>?_)⟩
 ·have hu:=zJZ c
  exact h2.left λw' hL _ _=>⟨by rw[revertN,if_neg hu];rfl,d,hL,by rw[revertS,if_neg hu]⟩
 have hu:=zKs c
 obtain⟨n,rfl,hn⟩:=zQY hu
 rw[zWf hn]
 refine(yZe h2.at_ hI hn (by have:=hI.chl hn;omega)).mono ?_
 rintro e w3 ⟨rfl,d',hL,habs⟩
 have e1:uC (n:Int)=0:=by rw[uC,if_pos hu]
 refine⟨_,rfl,?_⟩
 have LL:=h2.dl.trans hL
 rw[←show d'.ptr=d.ptr by unfold zQs.ptr;rw[hL.ptr]]
 refine zXg LL λw' hL' _ _=>⟨?_,d',hL',by rw[habs,revertS,if_pos hu,zQI]⟩
 rw[e1,revertN,if_pos hu,zQI,zKQ,zXr]
theorem fall_c (h:zQg w d 0 val) (hI:Inv (zQa d val)) (u:Int) :
  Calls prog 31 #[d.ptr,.int .i64 u] w λe w'=>e=.returned (.int .i64 (uC u))/\∃d',zQB w w' d d' 0 val/\zQa d' val=fallS u (zQa d val):=by
 refine yVC _ u w _ ((zQU h (Pu.refl w) u).mono ?_)
 rintro e w2 ⟨rfl,h2,dh,fC⟩
 refine⟨_,_,_,rfl,Br.of (λc=>?_) (λc=>?_)⟩
 ·have hu:=zJZ c
  exact h2.left λw' hL _ _=>⟨rfl,d,hL,by rw[fallS,if_neg hu]⟩
 have hu:=zKs c
 obtain⟨n,rfl,hn⟩:=zQY hu
 rw[zWf hn]
 refine(yZe h2.at_ hI hn (by have:=hI.chl hn;omega)).mono ?_
 rintro e w3 ⟨rfl,d',hL,habs⟩
 have e1:uC (n:Int)=0:=by rw[uC,if_pos hu]
 have eu:uA d n=uA d' n:=by show(⟨d.S,_,_⟩:Addr)=⟨d'.S,_,_⟩;rw[hL.ptr]
 refine⟨_,rfl,?_⟩
 rw[zQn,eu]
 refine hL.sys.own (d':=d'.withMode n 0) (mu':=1) (by omega) (zVt hn 0) rfl rfl (λx hb=>hb.same _ _) λw5 h5 bT rI=>?_
 rw[zQn,zQc]
 refine h5.own (d':=(d'.withMode n 0).withAt n 0) (mu':=1) (by omega) (zJD hn 0) rfl rfl (λx hb=>hb.same _ _) λw7 h7 dg hs7=>?_
 have L7:zQB w w7 d ((d'.withMode n 0).withAt n 0) 1 val:=(h2.dl.trans hL).trans ⟨h7,(bT.trans dg λi hi _=>hi).mono λi hi _=>by rw[show i=d'.S from hi,hL.sys.bd.oS];simp,λ_ h=>.inl h,rfl⟩
 rw[←show((d'.withMode n 0).withAt n 0).ptr=d.ptr by unfold zQs.ptr;rw[L7.ptr]]
 refine zXg L7 λw' hL' _ _=>⟨by rw[e1],_,hL',?_⟩
 rw[zVS,zWt,habs,fallS,if_pos hu,zQI]
 simp only[Dsk.setU,Dsk.mk.injEq,true_and,and_true]
 funext v
 by_cases e:v=n
 ·simp[e]
 ·simp[e]
end Go.Proofs.YtcihcbfcgjepfaaGreatDoor
/- The library's iterator over the keys of a map with keys of numbers, maps.Keys; slices.AppendSeq, Sort, Sorted of numbers. No condition but the reach's. -/
set_option linter.unusedSectionVars false
namespace Go.Proofs.YtcihcbfcgjepfaaGreatDoor
open Go.RowKit Go.Shelf Go.Sh Go.Sort Tryz
attribute [local go_sem] Oper.semAt_some
abbrev xQg(n₀:Nat)(A B:World):Prop:=Below n₀ A B/\KeepsWalks A B
theorem zW4{W W':World}(h:KeepsOthers W W'):KeepsWalks W W':=
 ⟨h.size,λk o hk ho=>h.same k o hk (Obj.not_cells_of_walk ho)⟩
theorem xQf:(prog.info? 3).map (λi=>(i.zero,i.size,i.bytes))=some (some (.int .i64 0),1,8):=by kernel_rfl
set_option maxHeartbeats 2000000 in
theorem yQo (F:Fence) (n:Nat) (m5:F.fn 201) (hro:F.round=none) (hn:2<=n) (g:Nat) (lb:Array Value) (hFg:F.fn g) (eg:∀args w,(callFunc g args).run prog w=.ok (.enter g args) w)
  (S Sp:List Int->Prop) (N:Nat) (hN:N<=maxLen) (hNb:N * 16<=140737488355328) (n₀:Nat) (w:World) (hn₀:n₀<=w.heap.size) (hseq:SeqStopsK F (n - 1) prog g lb (λx:Int=>#[zQM x]) (xQg n₀) S Sp N w) :
  CallsIn F n prog 201 #[.slice none 0 0,.func (.func g) #[] lb] w λe W'=>∃v xs,e=.returned v/\S xs/\W'.ownsRow w.heap.size 3 1 v xs.length (xs.map zQM)/\Below w.heap.size w W':=by
 have h1:1<=n:=by omega
 obtain⟨i0,hi,hz0,hz1,hz2⟩:=info_parts xQf
 refine callsIn_of_wp_marks Tryz.func201 rfl m5 ?_ hro
 simp only[Tryz.ntmps201,List.size_toArray,List.length_cons,List.length_nil,Nat.reduceAdd,Nat.reduceSub,Array.replicate_succ,Array.replicate_zero,List.push_toArray,List.append_toArray,List.nil_append,List.cons_append]
 gi_wp2
 have bO:=Boxed.new w 43 (.slice none 0 0)
 have hB0:Below w.heap.size w (w.alloc (.cells #[.slice none 0 0] 43)):=(Below.refl _ w).alloc (Nat.le_refl _) _
 refine wpIn_rangeFunc_ownG hro h1 (gf:=g) (lb:=lb) rfl hFg eg hseq (λh k=>⟨h.1.trans k.1,h.2.trans k.2⟩) (λW l o o' hl ho hc hw=>⟨belowK_b hn₀ W l o o' (by simp at hl;omega) ho hc hw,KeepsWalks.putObj o' ho hw⟩) hB0 (λ_=>rfl)
  (λpre W=>(∃v,Boxed W w.heap.size 43 v/\W.ownsRow w.heap.size 3 1 v pre.length (pre.map zQM)/\True)/\Below w.heap.size w W)
  (λ_ _ _=>False)
  (OwnFrom.and (Own.from (holdsRow_own w.heap.size w.heap.size 43 3 1 (λ(pre:List Int)=>pre.length) (λpre=>pre.map zQM) (λpre v=>True)) _) (ownFrom_below (Nat.le_refl _) (by simp)))
  (λ_ _ _ _ _ hs _ _=>hs)
  ⟨⟨.slice none 0 0,bO,World.ownsRow_nil _ _ _ _,trivial⟩,hB0⟩
  (λx=>{ tmps:=#[.slice none 0 0,.func (.func g) #[] lb,.pointer (some ⟨w.heap.size,0,none⟩),undef,.slice none 0 0,.int .i64 x,.func (.func g) #[] lb,.int .i64 x,undef,undef,undef,undef,undef],defers:=[] }) ?assign ?body ?done ?stop
 case assign=>
  intro l x W K hK
  gi_wp2
  exact hK
 case body=>
  rintro l pre x W ⟨⟨v,hv,hrow,_⟩,hB⟩ hlt
  have hc:=hv.cell
  gi_wp2_with (gi_at_builtin;refine wpListIn_append_own _ rfl _ _ 43 rfl w.heap.size 3 i0 (.int .i64 0) 1 8 Tryz.underlying43 hi hz0 hz1 hz2 rfl (by decide) _ _ _ rfl (hrow.alloc _) ⟨W.heap.size,0,none⟩ 1 1 [.int .i64 x] rfl rfl (cell_one_new _ _ _) (by simp[Value.oneCell']) (by omega) (by omega) (by have:=hB.size;simp;omega) ?_;intro v' w1 hown' hgrow _;obtain⟨g',cap',rfl⟩:=ownsRow_succ hown';obtain⟨hv1,hv2,hr2,ak,ag⟩:=hv.appended (by decide) hrow hB.size (Nat.le_refl _) hown' hgrow;have hc1:=hv1.cell;have bo:=hv1.frozen)
  exact⟨ak.from _,⟨ag.mono hn₀,zW4 ak⟩,⟨_,hv2,by simpa using hr2,trivial⟩,hB.trans ag⟩
 case done=>
  rintro D ys W hD hS ⟨⟨v,hv,hrow,_⟩,hB⟩ hK
  have hc:=hv.cell
  gi_wp2
  refine⟨by simp,.inl ⟨_,_,rfl,run_takeDeferred hK,?_⟩⟩
  exact⟨_,results_tmp rfl _ _ _,v,ys,rfl,hS,ownsRow_putObj hrow _ hK rfl,hB.trans (belowK_b (w:=w) (Nat.le_refl _) W D _ _ (by simp at hD;omega) hK rfl rfl)⟩
 case stop=>
  rintro D c pre W _ _ h _
  exact h.elim
theorem yVe {w:World} {b:Nat} {e:TypeId} {sz n:Nat} {s:SV} {vs:List Value} (h:w.ownsRow b e sz (.slice s.a s.len s.cap) n vs) (hn:n=s.len):zQl w e sz s vs:=by
 obtain⟨h1,⟨h2,h3⟩|⟨g,cap,cur,h2,h3,h4,h5,h6,h7,h8⟩⟩:=h
 ·simp only[Value.slice.injEq]at h2
  obtain⟨e1,e2,e3⟩:=h2
  obtain⟨a,l,c⟩:=s
  simp only at e1 e2 e3
  subst e1;subst e2;subst e3
  exact⟨by rw[h1,hn],.inl rfl⟩
 ·simp only[Value.slice.injEq]at h2
  obtain⟨e1,e2,e3⟩:=h2
  subst hn
  exact⟨h1,.inr ⟨g,cur,e1,h4,by omega,by omega,by rw[e3];exact h7,h8⟩⟩
theorem yZG (w:World) (s:SV) (l:List Int) (h:zQl w 3 1 s (l.map zQM)) (hl:l.length<=140737488355328) :
  Calls prog 166 #[.slice s.a s.len s.cap] w λe w'=>e=.returned (.tuple #[])/\zQl w' 3 1 s ((l.mergeSort λx y=>decide (x<=y)).map zQM)/\Fr (· ∈ zQb s) w w':=by
 have hlen:s.len=l.length:=by have:=h.1;simp at this;omega
 have hs:=h
 obtain⟨h1,rfl|⟨g,cur,h3,h4,h5,h6,h7,h8⟩⟩:=h
 ·have hl0:l=[]:=List.eq_nil_of_length_eq_zero (by simpa using hlen.symm)
  subst hl0
  refine Calls.mono (Tryz.slices_Sort_int_none none 0 w) ?_
  rintro e w' ⟨rfl,rfl⟩
  exact⟨rfl,by simpa using hs,Fr.refl _ _⟩
 ·have hcur:cur.toList.take l.length=l.map (Value.int .i64):=by
   rw[Nat.mul_one]at h8
   rw[←hlen,h8]
  have hH:=holds_of_blockI h4 hcur
  have key:=Tryz.slices_Sort_int g 0 s.cap l w hH (zQy h4) (by omega)
  rw[←hlen]at key
  rw[h3]
  refine Calls.mono key ?_
  rintro e w' ⟨rfl,n,os,rfl⟩
  refine⟨rfl,?_,?_⟩
  ·have ho:=ownsRow_sortedI (n:=n) (os:=os) (ts:=l.mergeSort λx y=>decide (x<=y)) (ss:=l) (by simp) (Nat.zero_le g) h4 (by omega) h6 h7
   rw[←hlen,←h3]at ho
   exact yVe ho rfl
  ·have hg:=grownBy_sortedI (w:=w) (g:=g) (n:=n) (os:=os) (l.mergeSort λx y=>decide (x<=y)).toArray
   exact⟨hg.os,hg.tape,hg.output,hg.size,λk hk hn=>hg.block k hk λe=>hn (by cases e;simp[zQb,h3])⟩
abbrev xJV(l:List Int):List Int:=l.mergeSort λx y=>decide (x<=y)
theorem yZC{l l':List Int}(h:l.Perm l'):xJV l=xJV l':=by
 have tr:∀a b c:Int,decide (a<=b)=true->decide (b<=c)=true->decide (a<=c)=true:=λa b c h k=>by simp at h k ⊢;omega
 have tot:∀a b:Int,(decide (a<=b) || decide (b<=a))=true:=λa b=>by simp;omega
 exact List.Perm.eq_of_pairwise (le:=λa b=>decide (a<=b)=true) (λa b _ _ h k=>by simp at h k;omega) (List.pairwise_mergeSort tr tot l) (List.pairwise_mergeSort tr tot l') (((List.mergeSort_perm l _).trans h).trans (List.mergeSort_perm l' _).symm)
theorem yQS {w:World} {b:Nat} {e:TypeId} {sz n:Nat} {s:SV} {vs:List Value} (h:w.ownsRow b e sz (.slice s.a s.len s.cap) n vs) (hn:n=s.len):zQl w e sz s vs/\∀k ∈ zQb s,b<=k:=by
 obtain⟨h1,⟨h2,h3⟩|⟨g,cap,cur,h2,h3,h4,h5,h6,h7,h8⟩⟩:=h
 ·simp only[Value.slice.injEq]at h2
  obtain⟨e1,e2,e3⟩:=h2
  obtain⟨a,l,c⟩:=s
  simp only at e1 e2 e3
  subst e1 e2 e3
  exact⟨⟨by rw[h1,hn],.inl rfl⟩,λk hk=>by simp[zQb]at hk⟩
 ·simp only[Value.slice.injEq]at h2
  obtain⟨e1,e2,e3⟩:=h2
  subst hn
  rw[←e3]at h5 h6 h7
  exact⟨⟨h1,.inr ⟨g,cur,e1,h4,h5,h6,h7,h8⟩⟩,λk hk=>by simp[zQb,e1]at hk;omega⟩
theorem yWY (g:Nat) (lb:Array Value) (eg:∀args w,(callFunc g args).run prog w=.ok (.enter g args) w) (S Sp:List Int->Prop) (N:Nat) (hN:N<=8796093022208) (w:World)
  (hS:∀xs,S xs->xs.length<=N) (hseq:SeqStopsK Fence.wide 9 prog g lb (λx:Int=>#[zQM x]) (xQg w.heap.size) S Sp N w) :
  Calls prog 128 #[.func (.func g) #[] lb] w λe w'=>∃(s:SV) (xs:List Int),e=.returned (.slice s.a s.len s.cap)/\S xs/\zQl w' 3 1 s ((xJV xs).map zQM)/\(∀k ∈ zQb s,w.heap.size<=k)/\Pu w w':=by
 refine yJr _ w _ ?_
 refine yJu _ w _ ?_
 have happ:=callsIn_wide.1 (yQo Fence.wide 10 trivial rfl (by omega) g lb trivial eg S Sp N (by unfold maxLen;omega) (by omega) w.heap.size w (Nat.le_refl _) hseq)
 refine Calls.mono happ ?_
 rintro e w1 ⟨v,xs,rfl,hxs,hown,hB⟩
 obtain⟨s,rfl,hn⟩:∃s:SV,v=.slice s.a s.len s.cap/\xs.length=s.len:=by
  rcases hown.2 with⟨e1,e2⟩|⟨g',cap,cur,e1,_⟩
  ·exact⟨⟨none,0,0⟩,e1,e2⟩
  ·exact⟨⟨some ⟨g',0,none⟩,xs.length,cap⟩,e1,rfl⟩
 obtain⟨hrow,hfresh⟩:=yQS hown hn
 refine⟨s,rfl,s,rfl,?_⟩
 refine Calls.mono (yZG w1 s xs hrow (by have:=hS xs hxs;omega)) ?_
 rintro e w2 ⟨rfl,hrow2,dh⟩
 exact⟨rfl,s,xs,rfl,hxs,hrow2,hfresh,Pu.andNew hB dh hfresh⟩
section
variable {κ ν : Type} [DecidableEq κ] {ek : κ -> Value} {ev : ν -> Value} {P : Program} {F : Fence} {n : Nat} {ops : Array Oper} {Q : Exit -> Act -> World -> Prop} {zQz : List Oper} {a : Act} {w : World} {o : Oper}
def yW9(r b:Nat)(w:World):Nat:=match w.heap[r]?,w.heap[b]? with
 | some (.mapIter _ _ seen _),some (.map es _)=>(leftOf es seen).size
 | _,_=>0
theorem yQm {r b:Nat} {l todo:List (κ × ν)} (h:zQS w ek ev r b l todo):yW9 r b w=todo.length:=by
 obtain⟨es,clk,since,seen,c0,h1,h2,_,_,_,h6,_⟩:=h
 have:=h6.length
 rw[Array.length_toList]at this
 simp only[yW9,h1,h2,this]
theorem yZM {w':World} {r b:Nat} {l todo:List (κ × ν)} (h:zQS w ek ev r b l todo) (hk:KeepsWalks w w') (hb:w'.heap[b]?=w.heap[b]?):zQS w' ek ev r b l todo:=by
 obtain⟨es,clk,since,seen,c0,h1,h2,h3⟩:=h
 exact⟨es,clk,since,seen,c0,hk.same r _ h1 rfl,hb.trans h2,h3⟩
theorem yKU {r b:Nat} {l todo:List (κ × ν)} (h:zQS w ek ev r b l todo):∃o:Obj,w.heap[r]?=some o/\o.isWalk=true:=by
 obtain⟨es,clk,since,seen,c0,h1,_⟩:=h
 exact⟨_,h1,rfl⟩
theorem yQI {w':World} {r:Nat} (h:Fr (·=r) w w'):w.grownBy w' (some r):=⟨h.os,h.tape,h.output,h.size,λk hk hn=>h.block k hk λe=>hn (by rw[e])⟩
theorem yQX{w':World}(h:Pu w w'):w.grownBy w' none:=⟨h.os,h.tape,h.output,h.size,λk hk _=>h.block k hk⟩
theorem zKL (hg:o.guard=none) (m:Operand) (t kt e:TypeId) (hop:o.op=Op.range t m) (ht:P.underlying t=some (.map kt e)) (b:Nat) (l:List (κ × ν)) (hm:a.eval m=.map (some b)) (h:zQ3 w ek ev b l)
  (hK:∀w',zQS w' ek ev w.heap.size b l l->Pu w w'->w'.heap.size=w.heap.size+1->wpListIn F n P ops Q zQz (a.put o.dst (.pointer (some ⟨w.heap.size,0,none⟩))) w'):wpListIn F n P ops Q (o :: zQz) a w:=by
 refine wpListIn_plain hg λK' hK'=>?_
 obtain⟨w',hrun,r1,r2,r3⟩:=h.range ht
 unfold Oper.wpIn
 refine⟨?_,?_⟩
 ·simp[Oper.about,hop]
 ·rw[Oper.semAt_plain F _ _ (by rw[hop];intro c hc';cases hc')]
  simp[execOp,hop,hm,hrun,Result.andThen]
  exact hK' _ _ (hK w' r1 r2 r3)
theorem zWg (hg:o.guard=none) (it:Operand) (hop:o.op=Op.next it false) (b r:Nat) (l todo:List (κ × ν)) (hit:a.eval it=.pointer (some ⟨r,0,none⟩)) (h:zQS w ek ev r b l todo)
  (hDone:todo=[]->wpListIn F n P ops Q zQz (a.put o.dst (.tuple #[.bool false])) w)
  (hMore:∀p w',p ∈ todo->Fr (·=r) w w'->w'.heap.size=w.heap.size->zQS w' ek ev r b l (AL.del todo p.1)->(Instr.entry (.pointer (some ⟨r,0,none⟩))).run P w'=.ok (.tuple #[ek p.1,ev p.2]) w'->wpListIn F n P ops Q zQz (a.put o.dst (.tuple #[.bool true,ek p.1,ev p.2])) w') :
  wpListIn F n P ops Q (o :: zQz) a w:=by
 refine wpListIn_plain hg λK' hK'=>?_
 unfold Oper.wpIn
 refine⟨by simp[Oper.about,hop],?_⟩
 rw[Oper.semAt_plain F _ _ (by rw[hop];intro c hc';cases hc')]
 rcases zQS.next (P:=P) h o.type with⟨h0,hrun⟩|⟨p,hp,w',hrun,hf,hs,hI,hen⟩
 ·simp[execOp,hop,hit,hrun,Result.andThen]
  exact hK' _ _ (hDone h0)
 ·simp[execOp,hop,hit,hrun,Result.andThen]
  exact hK' _ _ (hMore p w' hp hf hs hI hen)
end
theorem yXv:∃e,prog.underlying 88=some (.map 3 e):=⟨133,by kernel_rfl⟩
set_option maxHeartbeats 2000000 in
theorem yQi {ν:Type} {ev:ν->Value} (F:Fence) (n:Nat) (pN:F.fn 167) (hro:F.round=none) (hn:1<=n) (l Bs n₀ b:Nat) (L:List (Int × ν)) (hb:b<n₀) (J Jx:List Int->World->Prop)
  (W:World) (hn₀:n₀<=W.heap.size) (hJ:AbidesFrom W.heap.size J)
  (hY:∀pre x W1,J pre W1->pre.length<L.length->YieldAt F (n - 1) prog l #[.int .i64 x] W1 λe W'=>
   (e=.returned (.bool true)/\J (pre ++ [x]) W'/\xQg n₀ W1 W')∨(e=.returned (.bool false)/\Jx (pre ++ [x]) W'))
  (hBs:W.cell? ⟨Bs,0,none⟩=some (.map (some b))) (hM:zQ3 W zQM ev b L) (h0:J [] W) :
  CallsIn F n prog 167 #[.func (.yield l) #[] #[],.pointer (some ⟨Bs,0,none⟩)] W λe W'=>(∃v,e=.returned v)/\
   ((∃ys,ys.Perm (L.map Prod.fst)/\J ys W')∨(∃pre,True/\Jx pre W')):=by
 obtain⟨et,hund⟩:=yXv
 refine callsIn_of_wp Tryz.func167 rfl pN ?_ hro
 simp only[Tryz.ntmps167,List.size_toArray,List.length_cons,List.length_nil,Nat.reduceAdd,Nat.reduceSub,Array.replicate_succ,Array.replicate_zero,List.push_toArray,List.append_toArray,List.nil_append,List.cons_append]
 gi_wp2_with (first
  | (gi_at_range;refine zKL rfl _ 88 3 et rfl hund b L rfl hM ?_;intro w0 hI0 hp0 hs0)
  | gi_in)
 go_frame
 gi_loopw [3] (λ_ wr=>∃(todo:List (Int × ν)) (ss:List Int),zQS wr zQM ev W.heap.size b L todo/\(ss ++ todo.map Prod.fst).Perm (L.map Prod.fst)/\J ss wr/\n₀<=wr.heap.size)
  (λ_ wr=>yW9 W.heap.size b wr)
 case atStart=>
  exact⟨L,[],hI0,by simp,hJ [] W w0 none h0 (yQX hp0) (λr e=>by cases e),by omega⟩
 case round=>
  obtain⟨todo,ss,hI,hperm,hJs,hnr⟩:=hrel
  gi_wp2_with (first
   | (gi_at_next;refine zWg rfl _ rfl b W.heap.size L todo rfl hI ?_ ?_)
   | gi_in)
  ·intro ht0
   subst ht0
   gi_wp2
   go_end0
   exact⟨⟨_,rfl⟩,.inl ⟨ss,by simpa using hperm,hJs⟩⟩
  ·intro x c w2 hp hf hs hI2 hen
   have pM:J ss w2:=hJ ss wr w2 (some W.heap.size) hJs (yQI hf) (λr e=>by cases e;exact⟨Nat.le_refl _,yKU hI⟩)
   have hpd:=AL.perm_del hp hI.nodup
   have hlen:ss.length<L.length:=by
    have h1:=hperm.length_eq
    have h2:=hpd.length_eq
    simp at h1 h2
    omega
   obtain⟨fn,tmps,assign,body,hy,hR⟩:=hY ss x w2 pM hlen
   have hleft:=yQm hI
   clear hs
   gi_wp2
   refine hR.mono ?_
   rintro e W3 (⟨rfl,hJ3,hB3,hK3⟩|⟨rfl,hJx3⟩)
   ·gi_wp2
    have si:=yZM hI2 hK3 (hB3.block b hb)
    go_roundw
    case rel=>
     refine⟨_,ss ++ [x],si,?_,hJ3,by have:=hf.size;have:=hB3.size;omega⟩
     have h3:=hpd.map Prod.fst
     rw[List.append_assoc]
     exact((List.Perm.append_left ss h3).symm).trans hperm
    case measure=>
     have h1:=yQm si
     have h2:=hpd.length_eq
     simp at h2
     omega
   ·gi_wp2
    refine bodyPost_ret (results_none rfl _ _ _) rfl ?_
    exact⟨⟨_,rfl⟩,.inr ⟨ss ++ [x],trivial,hJx3⟩⟩
theorem zVg {ν:Type} {ev:ν->Value} (F:Fence) (n:Nat) (pN:F.fn 167) (hro:F.round=none) (hn:1<=n) (Bs b:Nat) (L:List (Int × ν)) (w:World) (hBs:Bs<w.heap.size)
  (hc:w.cell? ⟨Bs,0,none⟩=some (.map (some b))) (hM:zQ3 w zQM ev b L) :
  SeqStopsK F n prog 167 #[.pointer (some ⟨Bs,0,none⟩)] (λx:Int=>#[zQM x]) (xQg w.heap.size) (λys=>ys.Perm (L.map Prod.fst)) (λ_=>True) L.length w:=λl J Jx W hW hJ _ hY h0=>by
 have hM':zQ3 W zQM ev b L:=by
  have hbl:=hM.lt
  obtain⟨es,clk,h1,h2⟩:=hM
  exact⟨es,clk,(hW.block b hbl).trans h1,h2⟩
 exact yQi F n pN hro hn l Bs w.heap.size b L hM.lt J Jx W hW.size hJ hY ((hW.cell (p:=⟨Bs,0,none⟩) hBs).trans hc) hM' h0
theorem zJH {ν:Type} {ev:ν->Value} (w0:World) (b:Nat) (L:List (Int × ν)) (hM:zQ3 w0 zQM ev b L) (hN:L.length<=8796093022208) :
  Calls prog 128 #[.func (.func 167) #[] #[.pointer (some ⟨w0.heap.size,0,none⟩)]] (w0.alloc (.cells #[.map (some b)] 88)) λe w'=>∃s':SV,e=.returned (.slice s'.a s'.len s'.cap)/\zQl w' 3 1 s' ((xJV (L.map Prod.fst)).map zQM)/\(∀k ∈ zQb s',w0.heap.size<k)/\Pu w0 w':=by
 obtain⟨w,hw⟩:∃w,w=w0.alloc (.cells #[.map (some b)] 88):=⟨_,rfl⟩
 have hp:Pu w0 w:=by rw[hw];exact Pu.alloc w0 _
 have hsz:w.heap.size=w0.heap.size+1:=by rw[hw];simp
 have hb:w.heap[w0.heap.size]?=some (.cells #[.map (some b)] 88):=by rw[hw];exact zX4 w0 _
 rw[←hw]
 have hseq:=zVg Fence.wide 9 trivial rfl (by omega) w0.heap.size b L w (by omega) (by rw[zQq hb];rfl) (hM.pu hp)
 refine Calls.mono (yWY 167 #[.pointer (some ⟨w0.heap.size,0,none⟩)] (enters_of Tryz.func167 (by kernel_rfl) rfl) _ _ L.length hN w (λxs h=>by have:=h.length_eq;simp at this;omega) hseq) ?_
 rintro e w' ⟨s',xs,rfl,hxs,hrow,hf,hp'⟩
 rw[yZC hxs]at hrow
 exact⟨s',rfl,hrow,λk hk=>by have:=hf k hk;omega,hp.trans hp'⟩
end Go.Proofs.YtcihcbfcgjepfaaGreatDoor
