import Derived.Test.YtcihcbfcgjepfaaGreatDoorBfOwC
import Derived.Test.YtcihcbfcgjepfaaGreatDoorBfOwB
import Derived.Test.YtcihcbfcgjepfaaGreatDoorBfOwE
import Derived.Test.YtcihcbfcgjepfaaGreatDoorBfPrB
/- Desks: right records stay right. No condition but those stated. -/
set_option linter.unusedVariables false
set_option linter.unusedSimpArgs false
namespace Go.Proofs.YtcihcbfcgjepfaaGreatDoor
open Go.Sh Go.RowKit Tryz
theorem zZn{l:List Fld}{p:Int}{r:Rec}:zQD l p r=0 ↔ r.v.length=l.length/\∀(i:Nat) (f:Fld) (v:Val),l[i]?=some f->r.v[i]?=some v->zQT f p v=true:=by
 constructor
 ·intro h
  refine⟨zQ2 h,λi f v hf hv=>?_⟩
  unfold zQD at h
  rw[if_neg (by simp[zQ2 h])]at h
  split at h
  ·next ha=>
   have:=List.all_eq_true.1 ha (f,v) (List.mem_of_getElem? (i:=i) (by rw[List.getElem?_zip_eq_some];exact⟨hf,hv⟩))
   exact this
  ·cases h
 ·rintro⟨h1,h2⟩
  unfold zQD
  rw[if_neg (by simp[h1]),if_pos]
  refine List.all_eq_true.2 λx hx=>?_
  obtain⟨i,hi⟩:=List.getElem?_of_mem hx
  obtain⟨a,b⟩:=List.getElem?_zip_eq_some.1 hi
  exact h2 i x.1 x.2 a b
theorem yYD {f:Fld} {p:Int} {v:Val} (h:(zZM f p v).2=0):zQT f p (zZM f p v).1=true:=by
 cases hB:zQ5 f && zXm p
 ·rw[zZI hB]at h;simp at h
 by_cases hv:zXn v ≠ 0
 ·rw[zJx hB hv]at h;exact absurd h hv
 have hv:zXn v=0:=by simpa using hv
 rw[zZV hB hv]at h ⊢
 have hfB:zQ5 f=true:=by simp at hB;exact hB.1
 by_cases hk:v.kind=0
 ·unfold zQO at h ⊢
  rw[if_pos hk]at h ⊢
  by_cases hn:f.null=true
  ·rw[if_pos hn]
   unfold zQT
   rw[if_neg (by simp[hv]),if_pos hk];exact hn
  ·rw[if_neg hn]at h;simp at h
 by_cases ak:v.kind ≠ (zQ9 f).kind
 ·unfold zQO at h;rw[if_neg hk,if_pos ak]at h;simp at h
 by_cases h4:f.kind=4
 ·obtain⟨wl,wh⟩:=zWq hfB h4
  have e1:zQO f p v=if zXG (zZf (v.s.data.toList.take f.width.toNat)) p then(⟨4,0,bs (zZf (v.s.data.toList.take f.width.toNat))⟩,0)else(noV,10):=by
   unfold zQO;rw[if_neg hk,if_neg ak,if_pos h4]
  cases ht:zXG (zZf (v.s.data.toList.take f.width.toNat)) p
  ·rw[e1,ht]at h;simp at h
  rw[e1,ht,if_pos rfl]
  have hbl:=zYs (v.s.data.toList.take f.width.toNat)
  have htl:=List.length_take_le f.width.toNat v.s.data.toList
  have ag:=yYc (v.s.data.toList.take f.width.toNat)
  generalize zZf (v.s.data.toList.take f.width.toNat)=B at *
  have hvB:zXn ⟨4,0,bs B⟩=0:=by
   rw[zZb,if_neg (by dsimp only;rw[zXI];omega)];rfl
  unfold zQT
  rw[if_neg (by simp[hvB]),if_neg (show ¬(4:Int)=0 by decide),if_neg (by omega),if_neg (by simp[h4]),if_neg (by omega),if_pos h4]
  rw[zJw,ag,ht,zXI,decide_eq_true rfl,decide_eq_true (show((B.length:Nat):Int)<=f.width by omega)];rfl
 ·unfold zQO at h ⊢
  rw[if_neg hk,if_neg ak,if_neg h4]at h ⊢
  cases hf:zQT f p v
  ·rw[hf]at h;simp at h
  ·simp[hf]
theorem yZB{f:Fld}(h:zQ5 f=true)(p:Int):zQT f p (zQ9 f)=true:=by
 unfold zQ5 at h
 simp only[Bool.and_eq_true]at h
 have hk:=h.2
 unfold zWi at hk
 have vz:∀k:Int,okN k 0=true->zXn ⟨k,0,⟨#[]⟩⟩=0:=λk h=>by
  rw[zZb,if_neg (by show ¬2048<0;omega),if_pos]
  show(okN k 0 && (decide (k=4) || decide ((0:Nat)=0)))=true
  rw[h];simp
 by_cases h5:f.kind=5
 ·unfold zQ9 zQT
  rw[if_pos h5,if_neg (by rw[vz 2 (by decide)];simp),if_neg (by decide),if_pos h5];decide
 have e:zQ9 f=⟨f.kind,0,⟨#[]⟩⟩:=by unfold zQ9;rw[if_neg h5]
 have hkk:f.kind=1∨f.kind=2∨f.kind=3∨f.kind=4:=by
  by_cases h1:f.kind=1
  ·exact .inl h1
  ·by_cases h2:f.kind=2
   ·exact .inr (.inl h2)
   ·by_cases h3:f.kind=3
    ·exact .inr (.inr (.inl h3))
    ·by_cases h4:f.kind=4
     ·exact .inr (.inr (.inr h4))
     ·rw[if_neg h1,if_neg h2,if_neg h3,if_neg h4,if_neg h5]at hk
      cases hk
 have hv:zXn (zQ9 f)=0:=by
  rw[e]
  refine vz _ ?_
  rcases hkk with h|h|h|h <;> rw[h] <;> decide
 have base:∀b:Bool,(if f.kind=2 then decide (((zJV 0).length:Int)<=f.width)else if f.kind=4 then decide (((0:Nat):Int)<=f.width) && decide (zZf ([]:List UInt8)=[]) && zXG [] p else true)=b->zQT f p (zQ9 f)=b:=λb hb=>by
  unfold zQT
  rw[if_neg (by rw[hv];simp),if_neg (by rw[e];show ¬f.kind=0;omega),if_neg h5,if_neg (by rw[e];simp)]
  rw[e];exact hb
 refine base true ?_
 have hd:(zJV 0).length=1:=by decide +kernel
 rcases hkk with h|h|h|h
 ·rw[if_neg (by omega),if_neg (by omega)]
 ·rw[if_pos h,hd]
  rw[if_neg (by omega),if_pos h]at hk
  simp at hk ⊢;omega
 ·rw[if_neg (by omega),if_neg (by omega)]
 ·rw[if_neg (by omega),if_pos h]
  rw[if_neg (by omega),if_neg (by omega),if_neg (by omega),if_pos h]at hk
  simp at hk
  have:decide (((0:Nat):Int)<=f.width)=true:=by simp;omega
  rw[this];rfl
theorem yQH{l:List Fld}(h:l.all zQ5=true)(p:Int):zQD l p ⟨false,l.map zQ9⟩=0:=by
 refine zZn.2 ⟨by simp,λi f v hf hv=>?_⟩
 simp only[List.getElem?_map,hf,Option.map_some,Option.some.injEq]at hv
 subst hv
 exact yZB (List.all_eq_true.1 h f (List.mem_of_getElem? hf)) p
theorem yZH{l:List Fld}{p:Int}{r:Rec}(h:zQD l p r=0)(g:Bool):zQD l p (zZX g r)=0:=h
theorem yKD {l:List Fld} {p:Int} {r:Rec} (h:zQD l p r=0) {i:Nat} {v:Val} (hv:∀f,l[i]?=some f->zQT f p v=true):zQD l p (setVal i v r)=0:=by
 obtain⟨h1,h2⟩:=zZn.1 h
 refine zZn.2 ⟨by simp[setVal,h1],λj f x hf hx=>?_⟩
 replace hx:(r.v.set i v)[j]?=some x:=hx
 rw[List.getElem?_set]at hx
 split at hx
 ·next e=>
  subst e
  split at hx
  ·cases hx;exact hv f hf
  ·cases hx
 ·exact h2 j f x hf hx
theorem yWp:∀{a b c:List Val} {i:Nat} {z:Val},(zJc a b c)[i]?=some z->c[i]?=some z∨b[i]?=some z
 | [],b,c,i,z,h=>by cases b <;> cases c <;> exact .inl h
 | x :: a,[],c,i,z,h=>by cases c <;> exact .inl h
 | x :: a,y :: b,[],i,z,h=>.inl h
 | x :: a,y :: b,w :: c,0,z,h=>by
  simp only[zJc,List.getElem?_cons_zero,Option.some.injEq]at h ⊢
  by_cases e:x=y
  ·rw[if_pos e]at h;exact .inl h
  ·rw[if_neg e]at h;exact .inr h
 | x :: a,y :: b,w :: c,i+1,z,h=>by
  simp only[zJc,List.getElem?_cons_succ]at h ⊢
  exact yWp h
theorem yXm{l:List Fld}{p:Int}{c:Rec × Rec}{r:Rec}(h2:zQD l p c.2=0)(h:zQD l p r=0):zQD l p (zZZ c r)=0:=by
 obtain⟨a1,a2⟩:=zZn.1 h
 obtain⟨b1,b2⟩:=zZn.1 h2
 refine zZn.2 ⟨by show(zJc c.1.v c.2.v r.v).length=_;rw[zWr,a1],λi f v hf hv=>?_⟩
 rcases yWp hv with hv|hv
 ·exact a2 i f v hf hv
 ·exact b2 i f v hf hv
end Go.Proofs.YtcihcbfcgjepfaaGreatDoor
/- Desks: what holds of a desk holds behind each call. No condition but those stated. -/
namespace Go.Proofs.YtcihcbfcgjepfaaGreatDoor
open Go.Sh Go.RowKit Tryz
variable {σ : Dsk} {u : Nat}
def Dsk.put(σ:Dsk)(u:Nat)(recs:List Rec)(x:Usr)(lk:Int->Option Int):Dsk:=({ σ with recs:=recs,lk:=lk }:Dsk).setU u x
theorem Inv.chg(h:Inv σ)(hu:u<4){recs:List Rec}{x:Usr}{lk:Int->Option Int}(hr:∀r ∈ recs,zQD σ.flds σ.page r=0)(hlen:σ.recs.length<=recs.length)(ha:∀r ∈ x.ap,zQD σ.flds σ.page r=0)
  (hc:∀c ∈ x.ch,(zQD σ.flds σ.page c.2.1=0/\zQD σ.flds σ.page c.2.2=0)/\1<=c.1/\c.1<=recs.length) (hn:(x.ch.map Prod.fst).Nodup) (hat:x.at_<=recs.length/\-x.at_<=x.ap.length)
  (hrw:x.rows=true->x.ap ≠ []->x.ap.length=1/\x.at_=-1) (hN:recs.length+x.ap.length<=σ.recs.length+(σ.us u).ap.length∨(allN σ<300/\recs.length+x.ap.length<=σ.recs.length+(σ.us u).ap.length+1))
  (hl:∀k v,lk k=some v->1<=k/\k<=recs.length/\0<=v/\v<4):Inv (σ.put u recs x lk):=by
 have us:∀v,(σ.put u recs x lk).us v=if v=u then x else σ.us v:=λv=>rfl
 refine⟨h.pg,h.vf,hr,λv hv r hr'=>?_,λv hv c hc'=>?_,λv hv=>?_,λv hv=>?_,λv hv h1 h2=>?_,?_,hl⟩
 ·rw[us]at hr'
  by_cases e:v=u
  ·rw[if_pos e]at hr';exact ha r hr'
  ·rw[if_neg e]at hr';exact h.ga v hv r hr'
 ·rw[us]at hc'
  by_cases e:v=u
  ·rw[if_pos e]at hc';exact hc c hc'
  ·rw[if_neg e]at hc'
   have h1:=h.gc v hv c hc'
   exact⟨h1.1,h1.2.1,by show c.1<=(recs.length:Int);omega⟩
 ·rw[us]
  by_cases e:v=u
  ·rw[if_pos e];exact hn
  ·rw[if_neg e];exact h.cn v hv
 ·rw[us]
  by_cases e:v=u
  ·rw[if_pos e];exact hat
  ·rw[if_neg e]
   have h1:=h.at_ v hv
   exact⟨by show(σ.us v).at_<=(recs.length:Int);omega,h1.2⟩
 ·rw[us]at h1 h2 ⊢
  by_cases e:v=u
  ·rw[if_pos e]at h1 h2 ⊢;exact hrw h1 h2
  ·rw[if_neg e]at h1 h2 ⊢;exact h.rw_ v hv h1 h2
 ·have h1:=h.nn
  unfold allN at h1 hN ⊢
  simp only[us]
  have eR:(σ.put u recs x lk).recs=recs:=rfl
  rw[eR]
  rcases(by omega:u=0∨u=1∨u=2∨u=3)with rfl|rfl|rfl|rfl <;> simp <;> omega
theorem zJ6(x:Usr):σ.setU u x=σ.put u σ.recs x σ.lk:=rfl
theorem Inv.mode(h:Inv σ)(v m:Int):Inv (modeS v m σ):=by
 unfold modeS
 split
 ·next hc=>
  unfold modeC at hc
  split at hc
  ·cases hc
  ·next hv=>
   split at hc
   ·cases hc
   ·split at hc
    ·cases hc
    ·next he=>
     have hv:isU v=true:=by simpa using hv
     have hu:v.toNat<4:=by simp[isU]at hv;omega
     have he:(σ.us v.toNat).emp=true:=by simpa using he
     have hap:(σ.us v.toNat).ap=[]:=by
      simp[Usr.emp]at he;exact he.2
     rw[zJ6]
     refine h.chg hu h.gr (Nat.le_refl _) (h.ga _ hu) (h.gc _ hu) (h.cn _ hu) (h.at_ _ hu) (λ_ e=>absurd hap e) (.inl (Nat.le_refl _)) h.lr
 ·exact h
theorem Inv.clean (h:Inv σ) (hu:u<4) (hat:0<=(σ.us u).at_):Inv (zXB u σ):=by
 have e:zXB u σ=σ.put u σ.recs { σ.us u with ch:=[],ap:=[] } λk=>if σ.lk k=some (u:Int)then none else σ.lk k:=rfl
 rw[e]
 refine h.chg hu h.gr (Nat.le_refl _) (by simp) (by simp) (by simp) ⟨(h.at_ u hu).1,by simp;omega⟩ (by simp) (.inl (by simp)) λk v hk=>?_
 split at hk
 ·cases hk
 ·exact h.lr k v hk
theorem zWP(h:Inv σ)(hu:u<4):∀r ∈ zXo (σ.us u).ch σ.recs,zQD σ.flds σ.page r=0:=λr hr=>by
 obtain⟨i,hi⟩:=List.getElem?_of_mem hr
 unfold zXo at hi
 rw[List.getElem?_mapIdx]at hi
 obtain⟨r0,h0,e⟩:=Option.map_eq_some_iff.1 hi
 have g0:=h.gr r0 (List.mem_of_getElem? h0)
 cases hg:AL.get (σ.us u).ch ((i:Int)+1)with
 | none=>rw[hg]at e;rw[←e];exact g0
 | some c=>
  rw[hg]at e
  rw[←e]
  exact yXm (h.gc u hu _ (AL.get_mem hg)).1.2 g0
theorem Inv.stored(h:Inv σ)(hu:u<4):Inv (storedS u σ):=by
 have hat:=h.at_ u hu
 have e:storedS u σ=σ.put u (zXo (σ.us u).ch σ.recs ++ (σ.us u).ap) { σ.us u with at_:=if (σ.us u).at_<0 then(σ.recs.length:Int) - (σ.us u).at_ else(σ.us u).at_,ch:=[],ap:=[] } λk=>if σ.lk k=some (u:Int)then none else σ.lk k:=by
  simp only[storedS,zXB,Dsk.put,Dsk.setU,Dsk.mk.injEq,true_and,and_true]
  funext v
  by_cases e:v=u
  ·simp[e]
  ·simp[e]
 rw[e]
 refine h.chg hu (λr hr=>?_) (by rw[List.length_append,zXv];omega) (by simp) (by simp) (by simp) ⟨?_,?_⟩ (by simp) (.inl (by rw[List.length_append,zXv];simp)) λk v hk=>?_
 ·rcases List.mem_append.1 hr with hr|hr
  ·exact zWP h hu r hr
  ·exact h.ga u hu r hr
 ·rw[List.length_append,zXv]
  show(if (σ.us u).at_<0 then(σ.recs.length:Int) - (σ.us u).at_ else(σ.us u).at_)<=_
  split <;> omega
 ·show -(if (σ.us u).at_<0 then(σ.recs.length:Int) - (σ.us u).at_ else(σ.us u).at_)<=0
  split <;> omega
 ·rw[List.length_append,zXv]
  split at hk
  ·cases hk
  ·have:=h.lr k v hk;omega
theorem Inv.store(h:Inv σ)(hu:u<4)(f:Bool):Inv (storeS u f σ):=by
 unfold storeS;split
 ·exact h.stored hu
 ·exact h
theorem Inv.storeE(h:Inv σ)(v:Int)(f:Bool):Inv (storeES v f σ):=by
 unfold storeES;split
 ·next hv=>exact h.store (by simp[isU]at hv;omega) f
 ·exact h
theorem Inv.leave(h:Inv σ)(hu:u<4):Inv (leaveS u σ):=by
 unfold leaveS;split
 ·exact h
 ·exact h.store hu false
theorem yKf(u:Nat)(σ:Dsk):((storedS u σ).us u).ap=[]/\((storedS u σ).us u).ch=[]:=by simp[storedS,zXB,Dsk.setU]
theorem yQN(u:Nat)(σ:Dsk):((storedS u σ).us u).mode=(σ.us u).mode:=by simp[storedS,zXB,Dsk.setU]
theorem yJ1(u:Nat)(σ:Dsk):((leaveS u σ).us u).mode=(σ.us u).mode:=by
 unfold leaveS storeS
 split
 ·rfl
 ·split
  ·exact yQN u σ
  ·rfl
theorem yQy (h:leaveC u σ=0) (hr:(σ.us u).rows=true):((leaveS u σ).us u).emp=true:=by
 unfold leaveC at h
 unfold leaveS
 split
 ·next he=>
  rcases he with he|he
  ·rw[hr]at he;cases he
  ·exact he
 ·next he=>
  rw[if_neg he]at h
  rw[storeS,if_pos h]
  obtain⟨a,b⟩:=yKf u σ
  simp[Usr.emp,a,b]
theorem yWW(u:Nat)(σ:Dsk):σ.recs.length<=(leaveS u σ).recs.length:=by
 unfold leaveS storeS
 split
 ·exact Nat.le_refl _
 ·split
  ·show _<=(zXo (σ.us u).ch σ.recs ++ (σ.us u).ap).length
   rw[List.length_append,zXv];omega
  ·exact Nat.le_refl _
theorem zJ7(h:leaveC u σ ≠ 0):leaveS u σ=σ:=by
 unfold leaveC at h
 unfold leaveS
 split
 ·rfl
 ·next he=>
  rw[if_neg he]at h
  rw[storeS,if_neg h]
theorem yVP{x y:Usr}(h:x.mode=y.mode):x.rows=y.rows:=by simp[Usr.rows,h]
theorem xZI{x:Usr}(h:x.emp=true):x.ap=[]:=by simp[Usr.emp]at h;exact h.2
theorem Inv.go(h:Inv σ)(v k:Int):Inv (goS v k σ):=by
 unfold goS
 split
 ·exact h
 ·next hc=>
  have hc:goC v k σ=0:=by simpa using hc
  unfold goC at hc
  split at hc
  ·cases hc
  ·next hv=>
   have hv:isU v=true:=by simpa using hv
   have hu:v.toNat<4:=by simp[isU]at hv;omega
   split at hc
   ·cases hc
   ·next hs=>
    generalize v.toNat=u at *
    have hin:(k<0->-k<=(σ.us u).ap.length)/\k<=σ.recs.length:=by
     unfold seenR at hs
     by_cases hk:k<0
     ·rw[if_pos hk]at hs
      refine⟨λ_=>?_,by omega⟩
      by_cases e:(-k - 1).toNat<(σ.us u).ap.length
      ·omega
      ·rw[List.getElem?_eq_none (by omega)]at hs;exact absurd rfl hs
     ·rw[if_neg hk]at hs
      refine⟨λe=>absurd e hk,?_⟩
      by_cases e:k<1∨k > σ.recs.length
      ·rw[if_pos e]at hs;exact absurd rfl hs
      ·omega
    simp only
    by_cases e:k=(σ.us u).at_
    ·rw[if_pos e]
     rw[zJ6]
     refine h.chg hu h.gr (Nat.le_refl _) (h.ga _ hu) (h.gc _ hu) (h.cn _ hu) ?_ (λh1 h2=>?_) (.inl (Nat.le_refl _)) h.lr
     ·have:=h.at_ u hu
      rw[←e]at this;exact this
     ·have:=h.rw_ u hu h1 h2
      exact⟨this.1,by show k=-1;rw[e];exact this.2⟩
    ·rw[if_neg e]at hc ⊢
     have h':=h.leave hu
     rw[zJ6]
     have hlen:=yWW u σ
     by_cases hr:(σ.us u).rows=true
     ·have he:=xZI (yQy hc hr)
      have hk:¬k<0:=λhk=>by
       have h1:=hin.1 hk
       have hne:(σ.us u).ap ≠ []:=λe=>by rw[e]at h1;simp at h1;omega
       have h2:=h.rw_ u hu hr hne
       omega
      refine h'.chg hu h'.gr (Nat.le_refl _) (h'.ga _ hu) (h'.gc _ hu) (h'.cn _ hu) ⟨?_,?_⟩ (λ_ e=>absurd he e) (.inl (Nat.le_refl _)) h'.lr
      ·show k<=_;omega
      ·show -k<=_;omega
     ·have hr:(σ.us u).rows=false:=by simpa using hr
      have hl:leaveS u σ=σ:=by rw[leaveS,if_pos (.inl hr)]
      rw[hl]at h' ⊢
      refine h'.chg hu h'.gr (Nat.le_refl _) (h'.ga _ hu) (h'.gc _ hu) (h'.cn _ hu) ⟨?_,?_⟩ (λh1 _=>?_) (.inl (Nat.le_refl _)) h'.lr
      ·show k<=_;exact hin.2
      ·show -k<=_
       by_cases hk:k<0
       ·exact hin.1 hk
       ·omega
      ·have:(σ.us u).rows=true:=h1
       rw[hr]at this;cases this
theorem yQu(h:Inv σ):zQD σ.flds σ.page (blankR σ)=0:=yQH (zQG h.vf).2.1 _
theorem Inv.app(h:Inv σ)(v:Int):Inv (appS v σ):=by
 unfold appS
 split
 ·exact h
 ·next hv=>
  have hv:isU v=true:=by simpa using hv
  have hu:v.toNat<4:=by simp[isU]at hv;omega
  generalize v.toNat=u at *
  have h':=h.leave hu
  split
  ·exact h
  ·next hc=>
   have hc:leaveC u σ=0:=by simpa using hc
   split
   ·exact h'
   ·next hn=>
    have he:(σ.us u).rows=true->((leaveS u σ).us u).ap=[]:=λhr=>xZI (yQy hc hr)
    have hm:=yVP (yJ1 u σ)
    generalize leaveS u σ=τ at *
    have hb:=yQu h'
    unfold appendedS
    split
    ·have e:({ τ with recs:=τ.recs ++ [blankR τ] }:Dsk).setU u { τ.us u with at_:=(τ.recs.length:Int)+1 }=τ.put u (τ.recs ++ [blankR τ]) { τ.us u with at_:=(τ.recs.length:Int)+1 } τ.lk:=rfl
     rw[e]
     refine h'.chg hu (λr hr=>?_) (by simp) (h'.ga u hu) (λc hc=>?_) (h'.cn u hu) ⟨by simp,?_⟩ (λh1 h2=>?_) (.inr ⟨by omega,by simp;omega⟩) (λk v hk=>?_)
     ·rcases List.mem_append.1 hr with hr|hr
      ·exact h'.gr r hr
      ·simp at hr;rw[hr];exact hb
     ·have:=h'.gc u hu c hc
      exact⟨this.1,this.2.1,by rw[List.length_append];simp;omega⟩
     ·show -((τ.recs.length:Int)+1)<=_;omega
     ·have h3:(τ.us u).rows=true:=h1
      rw[hm]at h3
      exact absurd (he h3) h2
     ·have:=h'.lr k v hk
      rw[List.length_append];simp;omega
    ·rw[zJ6]
     refine h'.chg hu h'.gr (Nat.le_refl _) (λr hr=>?_) (h'.gc u hu) (h'.cn u hu) ⟨?_,?_⟩ (λh1 h2=>?_) (.inr ⟨by omega,by simp;omega⟩) h'.lr
     ·rcases List.mem_append.1 hr with hr|hr
      ·exact h'.ga u hu r hr
      ·simp at hr;rw[hr];exact hb
     ·show -((τ.us u).ap.length:Int) - 1<=_;omega
     ·show -(-((τ.us u).ap.length:Int) - 1)<=(((τ.us u).ap ++ [blankR τ]).length:Int);simp;omega
     ·have h3:(τ.us u).rows=true:=h1
      rw[hm]at h3
      have h4:=he h3
      show((τ.us u).ap ++ [blankR τ]).length=1/\-((τ.us u).ap.length:Int) - 1=-1
      rw[h4];exact⟨rfl,rfl⟩
end Go.Proofs.YtcihcbfcgjepfaaGreatDoor
/- Desks: what holds of a desk holds behind Set, Mark, Revert, Fall. No condition but those stated. -/
namespace Go.Proofs.YtcihcbfcgjepfaaGreatDoor
open Go.Sh Go.RowKit Tryz
variable {σ : Dsk} {u : Nat}
theorem yK2{κ ν:Type}[DecidableEq κ]:∀{l:List (κ × ν)} {k:κ} {v:ν} {p:κ × ν},p ∈ AL.put l k v->p ∈ l∨p=(k,v)
 | [],k,v,p,h=>by simp[AL.put]at h;exact .inr h
 | (a,b) :: l,k,v,p,h=>by
  simp only[AL.put]at h
  by_cases e:a=k
  ·rw[if_pos e]at h
   rcases List.mem_cons.1 h with h|h
   ·right;rw[h,e]
   ·exact .inl (List.mem_cons_of_mem _ h)
  ·rw[if_neg e]at h
   rcases List.mem_cons.1 h with h|h
   ·left;rw[h];exact List.mem_cons_self ..
   ·rcases yK2 h with h|h
    ·exact .inl (List.mem_cons_of_mem _ h)
    ·exact .inr h
theorem zKE{α:Type}{f:α->α}:∀{l:List α} {i:Nat} {x:α},x ∈ l.modify i f->x ∈ l∨∃y ∈ l,x=f y
 | [],i,x,h=>by simp at h
 | y :: l,0,x,h=>by
  rw[List.modify_zero_cons]at h
  rcases List.mem_cons.1 h with h|h
  ·exact .inr ⟨y,List.mem_cons_self ..,h⟩
  ·exact .inl (List.mem_cons_of_mem _ h)
 | y :: l,i+1,x,h=>by
  rw[List.modify_succ_cons]at h
  rcases List.mem_cons.1 h with h|h
  ·left;rw[h];exact List.mem_cons_self ..
  ·rcases zKE h with h|⟨z,hz,h⟩
   ·exact .inl (List.mem_cons_of_mem _ h)
   ·exact .inr ⟨z,List.mem_cons_of_mem _ hz,h⟩
theorem yZs(recs:List Rec)(lk:Int->Option Int):σ.put u recs (σ.us u) lk={ σ with recs:=recs,lk:=lk }:=by
 simp only[Dsk.put,Dsk.setU,Dsk.mk.injEq,true_and,and_true]
 funext v
 by_cases e:v=u
 ·rw[if_pos e,e]
 ·rw[if_neg e]
theorem yJM(h:Inv σ){k:Int}(h1:1<=k)(h2:k<=σ.recs.length):zQD σ.flds σ.page (recK σ k)=0:=by
 obtain⟨r,hr⟩:=zXe (l:=σ.recs) (k:=(k - 1).toNat) (by omega)
 have:recK σ k=r:=by unfold recK;rw[List.getD_eq_getElem?_getD,hr];rfl
 rw[this];exact h.gr r (List.mem_of_getElem? hr)
theorem Inv.alter (h:Inv σ) (hu:u<4) (h0:(σ.us u).at_ ≠ 0) {f:Rec->Rec} (hf:∀r,zQD σ.flds σ.page r=0->zQD σ.flds σ.page (f r)=0):Inv (alterS u f σ):=by
 have hat:=h.at_ u hu
 simp only[alterS]
 by_cases c1:(σ.us u).at_<0
 ·rw[if_pos c1,zJ6]
  refine h.chg hu h.gr (Nat.le_refl _) (λr hr=>?_) (h.gc u hu) (h.cn u hu) ⟨hat.1,by simpa using hat.2⟩ (λh1 h2=>?_) (.inl (by simp)) h.lr
  ·rcases zKE hr with hr|⟨y,hy,rfl⟩
   ·exact h.ga u hu r hr
   ·exact hf y (h.ga u hu y hy)
  ·have hne:(σ.us u).ap ≠ []:=λe=>h2 (by simp[e])
   have:=h.rw_ u hu h1 hne
   exact⟨by simpa using this.1,this.2⟩
 rw[if_neg c1]
 by_cases c2:(σ.us u).mode=0
 ·rw[if_pos c2]
  have e:=yZs (σ:=σ) (u:=u) (σ.recs.modify ((σ.us u).at_ - 1).toNat f) σ.lk
  rw[show({ σ with recs:=σ.recs.modify ((σ.us u).at_ - 1).toNat f }:Dsk)={ σ with recs:=σ.recs.modify ((σ.us u).at_ - 1).toNat f,lk:=σ.lk }from rfl,←e]
  refine h.chg hu (λr hr=>?_) (by simp) (h.ga u hu) (by simpa using h.gc u hu) (h.cn u hu) (by simpa using hat) (h.rw_ u hu) (.inl (by simp)) (by simpa using h.lr)
  rcases zKE hr with hr|⟨y,hy,rfl⟩
  ·exact h.gr r hr
  ·exact hf y (h.gr y hy)
 ·rw[if_neg c2]
  have hk1:1<=(σ.us u).at_:=by omega
  have hL:∃lk',lockS u σ={ σ with lk:=lk' }/\∀k v,lk' k=some v->1<=k/\k<=σ.recs.length/\0<=v/\v<4:=by
   simp only[lockS]
   split
   ·exact⟨σ.lk,rfl,h.lr⟩
   ·refine⟨_,rfl,λk v hk=>?_⟩
    split at hk
    ·next e=>cases hk;omega
    ·exact h.lr k v hk
  obtain⟨lk',eL,hl⟩:=hL
  rw[eL]
  have e:({ σ with lk:=lk' }:Dsk).setU u { σ.us u with ch:=AL.put (σ.us u).ch (σ.us u).at_ (((AL.get (σ.us u).ch (σ.us u).at_).getD (recK σ (σ.us u).at_,recK σ (σ.us u).at_)).1,f ((AL.get (σ.us u).ch (σ.us u).at_).getD (recK σ (σ.us u).at_,recK σ (σ.us u).at_)).2) }
   = σ.put u σ.recs { σ.us u with ch:=AL.put (σ.us u).ch (σ.us u).at_ (((AL.get (σ.us u).ch (σ.us u).at_).getD (recK σ (σ.us u).at_,recK σ (σ.us u).at_)).1,f ((AL.get (σ.us u).ch (σ.us u).at_).getD (recK σ (σ.us u).at_,recK σ (σ.us u).at_)).2) } lk':=rfl
  rw[e]
  have hg:zQD σ.flds σ.page ((AL.get (σ.us u).ch (σ.us u).at_).getD (recK σ (σ.us u).at_,recK σ (σ.us u).at_)).1=0/\zQD σ.flds σ.page ((AL.get (σ.us u).ch (σ.us u).at_).getD (recK σ (σ.us u).at_,recK σ (σ.us u).at_)).2=0:=by
   have hr:=yJM h hk1 hat.1
   cases hg:AL.get (σ.us u).ch (σ.us u).at_ with
   | none=>exact⟨hr,hr⟩
   | some c=>exact(h.gc u hu _ (AL.get_mem hg)).1
  refine h.chg hu h.gr (Nat.le_refl _) (h.ga u hu) (λc hc=>?_) (AL.nodup_put (h.cn u hu) _ _) hat (h.rw_ u hu) (.inl (Nat.le_refl _)) hl
  rcases yK2 hc with hc|rfl
  ·exact h.gc u hu c hc
  ·exact⟨⟨hg.1,hf _ hg.2⟩,hk1,hat.1⟩
theorem Inv.set(h:Inv σ)(v:Int)(field:ByteArray)(x:Val):Inv (setS v field x σ):=by
 unfold setS
 split
 ·next hc=>
  unfold setC at hc
  split at hc
  ·cases hc
  ·next hv=>
   have hv:isU v=true:=by simpa using hv
   have hu:v.toNat<4:=by simp[isU]at hv;omega
   split at hc
   ·cases hc
   ·next h0=>
    cases hi:zWl σ.flds field with
    | none=>exact h
    | some i=>
     rw[hi]at hc
     simp only at hc ⊢
     split at hc
     ·next hne=>exact absurd hc hne
     ·next he=>
      have he:(zZM (σ.flds.getD i default) σ.page x).2=0:=by simpa using he
      refine h.alter hu h0 λr hr=>yKD hr λf hf=>?_
      rw[List.getD_eq_getElem?_getD,hf]
      rw[List.getD_eq_getElem?_getD,hf]at he
      exact yYD he
 ·exact h
theorem Inv.mark(h:Inv σ)(v:Int)(g:Bool):Inv (markS v g σ):=by
 unfold markS
 split
 ·next hc=>
  unfold markC at hc
  split at hc
  ·cases hc
  ·next hv=>
   have hv:isU v=true:=by simpa using hv
   have hu:v.toNat<4:=by simp[isU]at hv;omega
   split at hc
   ·cases hc
   ·next h0=>exact h.alter hu h0 λr hr=>yZH hr g
 ·exact h
theorem Inv.revU(h:Inv σ)(hu:u<4):Inv (revertU u σ):=by
 have hat:=h.at_ u hu
 have e:revertU u σ=σ.put u σ.recs { σ.us u with at_:=if (σ.us u).at_<0 then 0 else(σ.us u).at_,ch:=[],ap:=[] } λk=>if σ.lk k=some (u:Int)then none else σ.lk k:=by
  simp only[revertU,zXB,Dsk.put,Dsk.setU,Dsk.mk.injEq,true_and,and_true]
  funext v
  by_cases e:v=u
  ·simp[e]
  ·simp[e]
 rw[e]
 refine h.chg hu h.gr (Nat.le_refl _) (by simp) (by simp) (by simp) ⟨?_,?_⟩ (by simp) (.inl (by simp)) λk v hk=>?_
 ·show(if (σ.us u).at_<0 then 0 else(σ.us u).at_)<=_;split <;> omega
 ·show -(if (σ.us u).at_<0 then 0 else(σ.us u).at_)<=0;split <;> omega
 ·split at hk
  ·cases hk
  ·exact h.lr k v hk
theorem Inv.revert(h:Inv σ)(v:Int):Inv (revertS v σ):=by
 unfold revertS;split
 ·next hv=>exact h.revU (by simp[isU]at hv;omega)
 ·exact h
theorem Inv.fall(h:Inv σ)(v:Int):Inv (fallS v σ):=by
 unfold fallS;split
 ·next hv=>
  have hu:v.toNat<4:=by simp[isU]at hv;omega
  have h':=h.revU hu
  generalize v.toNat=u at *
  have ea:((revertU u σ).us u).ap=[]:=by simp[revertU,zXB,Dsk.setU]
  simp only
  rw[zJ6]
  refine h'.chg hu h'.gr (Nat.le_refl _) (h'.ga u hu) (h'.gc u hu) (h'.cn u hu) ⟨by show(0:Int)<=_;omega,by show -(0:Int)<=_;omega⟩ (λ_ e=>absurd ea e) (.inl (Nat.le_refl _)) h'.lr
 ·exact h
end Go.Proofs.YtcihcbfcgjepfaaGreatDoor
/- Desks: Go. No condition but those stated. -/
set_option maxRecDepth 100000
namespace Go.Proofs.YtcihcbfcgjepfaaGreatDoor
open Go.Sh Go.RowKit Tryz
variable {w w' : World} {d d' : zQs} {val : Nat -> List Val} {mu : Int}
theorem go_c (h:zQg w d 0 val) (hI:Inv (zQa d val)) (u k:Int) :
  Calls prog 15 #[d.ptr,.int .i64 u,.int .i64 k] w λe w'=>e=.returned (.int .i64 (goC u k (zQa d val)))/\∃d' val',zQB w w' d d' 0 val'/\zQa d' val'=goS u k (zQa d val):=by
 refine yKF _ u k w _ ((zQU h (Pu.refl w) u).mono ?_)
 rintro e w2 ⟨rfl,h2,dh,fC⟩
 have bad:∀{w3:World} (n:Int),yQ4 w w3 d val->goC u k (zQa d val)=n->n ≠ 0->zQe prog [zX3 d] w3 λw'=>Ending.returned (.int .i64 n)=.returned (.int .i64 (goC u k (zQa d val)))/\∃d' val',zQB w w' d d' 0 val'/\zQa d' val'=goS u k (zQa d val):=λ{w3} n h3 hn h0=>
  h3.left λw' hL _ _=>⟨by rw[hn],d,val,hL,by rw[goS,if_pos (by rw[hn];exact h0)]⟩
 refine⟨_,_,_,rfl,Br.of (λc=>?_) (λc=>?_)⟩
 ·have hu:=zJZ c
  have e1:uC u=1:=by rw[uC,if_neg hu]
  rw[e1]
  exact bad 1 h2 (by rw[goC,if_pos hu]) (by decide)
 have hu:=zKs c
 obtain⟨n,rfl,hn⟩:=zQY hu
 rw[zWf hn]
 have eA:((zQa d val).us n).at_=d.at_ n:=rfl
 refine(yWc h2.at_ hn k (by have:=hI.ah hn;omega) (by have:=hI.rh;omega)).mono ?_
 rintro e w3 ⟨rfl,am⟩
 refine⟨_,((zXy d n k).getD h0).s,_,rfl,alB λw4 ar aZ=>zQj aZ yQk.symm rfl rfl λw5 aP bT _=>?_⟩
 have kw:Pu w2 w5:=(am.trans ar).andNew bT λi hi=>by rw[show i=w3.heap.size from hi];exact am.size
 have h5:=h2.pu kw
 have es:seenR (zQa d val) n k=(zXy d n k).map (toR val):=(zKr d val n k).symm
 have e0:goC (n:Int) k (zQa d val)=if seenR (zQa d val) n k=none then 4 else if k=d.at_ n then 0 else leaveC n (zQa d val):=by
  rw[goC,if_neg (by simp[hu]),zQI,eA]
 refine Br.of (λc1=>?_) (λc1=>?_)
 ·have c1:zXy d n k=none:=by simpa using c1
  exact bad 4 h5 (by rw[e0,es,c1];rfl) (by decide)
 have c1:(zXy d n k).isSome=true:=by simpa using c1
 obtain⟨x,hx⟩:=Option.isSome_iff_exists.1 c1
 rw[es,hx,if_neg (by simp)]at e0
 -- the end, behind leaving
 have fin:∀{w8:World} {d8:zQs} {kD:Nat->List Val},zQB w w8 d d8 1 kD->goC (n:Int) k (zQa d val)=0->zQa d8 kD=(if k=d.at_ n then zQa d val else leaveS n (zQa d val))->
   zQi (some (uA d n)) λcW=>st1 (cW.add 1) (.int .i64 k) w8 λav=>zQe prog [zX3 d] av λao=>Ending.returned (.int .i64 0)=.returned (.int .i64 (goC (n:Int) k (zQa d val)))/\∃d' val',zQB w ao d d' 0 val'/\zQa d' val'=goS n k (zQa d val):=λ{w8 d8 kD} L8 hc hab=>by
  have eu:uA d n=uA d8 n:=by show(⟨d.S,_,_⟩:Addr)=⟨d8.S,_,_⟩;rw[L8.ptr]
  rw[zQn,eu,zQc]
  refine L8.sys.own (d':=d8.withAt n k) (mu':=1) (by omega) (zJD hn k) rfl rfl (λx hb=>hb.same _ _) λav m5 c9 hs11=>?_
  have L11:zQB w av d (d8.withAt n k) 1 kD:=L8.trans ⟨m5,c9.mono λi hi _=>by rw[show i=d8.S from hi,L8.sys.bd.oS];simp,λ_ h=>.inl h,rfl⟩
  rw[←show zX3 (d8.withAt n k)=zX3 d by unfold zX3 zQs.ptr;rw[L11.ptr]]
  refine zXg L11 λw' hL _ _=>⟨by rw[hc],_,_,hL,?_⟩
  have eG:goS (n:Int) k (zQa d val)=(if k=d.at_ n then zQa d val else leaveS n (zQa d val)).setU n { (if k=d.at_ n then zQa d val else leaveS n (zQa d val)).us n with at_:=k }:=by
   rw[goS,if_neg (by rw[hc];simp)]
   simp only[zQI,eA]
  rw[zVS,hab,eG]
 refine⟨d.at_ n,h5.at_.uAt hn,Br.of (λc2=>?_) (λc2=>?_)⟩
 ·have c2:k ≠ d.at_ n:=zQ4 c2
  rw[if_neg c2]at e0
  refine(yZf h5.at_ hI hn).mono ?_
  rintro e w8 ⟨rfl,d8,kD,hL,habs⟩
  refine⟨_,rfl,Br.of (λc3=>?_) (λc3=>?_)⟩
  ·have c3:leaveC n (zQa d val) ≠ 0:=zQ4 c3
   have LL:=h5.dl.trans hL
   rw[←show d8.ptr=d.ptr by unfold zQs.ptr;rw[hL.ptr]]
   exact zXg LL λw' hL' _ _=>⟨by rw[e0],d8,kD,hL',by rw[habs,zJ7 c3,goS,if_pos (by rw[e0];exact c3)]⟩
  ·have c3:leaveC n (zQa d val)=0:=zQu c3
   exact fin (h5.dl.trans hL) (by rw[e0,c3]) (by rw[habs,if_neg c2])
 ·have c2:k=d.at_ n:=zQu c2
  exact fin h5.dl (by rw[e0,if_pos c2]) (by rw[if_pos c2])
end Go.Proofs.YtcihcbfcgjepfaaGreatDoor
/- Desks: Append. No condition but those stated. -/
namespace Go.Proofs.YtcihcbfcgjepfaaGreatDoor
open Go.Sh Go.RowKit Tryz
variable {w w' : World} {d d' : zQs} {val : Nat -> List Val} {mu : Int}
theorem yX6 {d:zQs} {A B:List zQx} {x:zQx} (hp:(zQX d).Perm (A ++ B)) (hnd:(vB (zQX d)).Nodup) (hx:∀b ∈ zQb x.s,b ∉ vB (zQX d)):(vB (A ++ x :: B)).Nodup:=by
 refine(zXF (List.perm_middle)).nodup_iff.2 ?_
 rw[zXl]
 have h1:=(zXF hp).nodup_iff.1 hnd
 refine List.nodup_append.2 ⟨zZT _,h1,λa ha b hb e=>?_⟩
 subst e
 exact hx a ha ((zXF hp).mem_iff.2 hb)
theorem yYm (h:zQg w d 1 val) {u:Nat} (hu:u<4) {x:zQx} {r':SV} (at':Int) {w5:World} (hst:w5.heap[d.S]?=some (.cells (zQR 1 (({ d with rs:=r' }:zQs).withAt u at')) 93)) (hrow:zQl w5 77 2 r' ((d.rh ++ [x]).flatMap zJR))
  (hb:∀b ∈ zQb r',b ∈ zQb d.rs∨w.heap.size<=b) (hf:Fr (λb=>b=d.S∨b ∈ zQb d.rs) w w5) (hx:zQl w 28 3 x.s ((hv val x).flatMap zXJ)) (hxo:∀b ∈ zQb x.s,d.o b=some .V) (hxn:∀b ∈ zQb x.s,b ∉ vB (zQX d)) :
  ∃d',zQB w w5 d d' 1 val/\zQa d' val=({ zQa d val with recs:=(zQa d val).recs ++ [toR val x] }:Dsk).setU u { (zQa d val).us u with at_:=at' }:=by
 have oR:=h.bd.oR
 have ne:∀{b:Nat} {κ:zXx},d.o b=some κ->κ ≠ .S->κ ≠ .R->¬(b=d.S∨b ∈ zQb d.rs):=λ{b κ} hb h1 h3 e=>by
  rcases e with e|e
  ·rw[e,h.bd.oS]at hb;exact h1 (Option.some.inj hb).symm
  ·rw[oR b e]at hb;exact h3 (Option.some.inj hb).symm
 have up:∀{b:Nat} {κ:zXx},d.o b=some κ->κ ≠ .R->(if b ∈ zQb r' then some zXx.R else d.o b)=some κ:=λ{b κ} hbo hk=>by
  have hlw:b<w.heap.size:=h.bd.lt b (by rw[hbo];simp)
  rw[if_neg λe=>?_]
  ·exact hbo
  ·rcases hb b e with e|e
   ·rw[oR b e]at hbo;exact hk (Option.some.inj hbo).symm
   ·omega
 have hbd:=h.bd.gen hu (o':=λb=>if b ∈ zQb r' then some .R else d.o b) (rs':=r') (rh':=d.rh ++ [x]) (as':=d.asv u) (ah':=d.ah u) (cs':=d.cs u) (ch':=d.ch u) (C':=d.C u) hf
  (λb κ hbo k1 k2 k3 k4=>⟨ne hbo k1 k2,up hbo k2⟩) (up h.bd.oS (by simp)) hrow (λb ag=>if_pos ag) ((h.bd.aw u hu).fr hf λb hb=>ne (h.bd.oA u hu b hb) (by simp) (by simp)) (λb hb=>up (h.bd.oA u hu b hb) (by simp))
  (λe=>⟨(h.bd.mp e u hu).fr hf (ne (h.bd.oC e u hu) (by simp) (by simp)),up (h.bd.oC e u hu) (by simp)⟩) (λe=>⟨(h.bd.ml e u hu).fr hf λb hb=>ne (h.bd.oK e u hu b hb) (by simp) (by simp),λb hb=>up (h.bd.oK e u hu b hb) (by simp)⟩)
  (λz hz=>by
   simp only[List.mem_append,List.mem_singleton]at hz
   rcases hz with(hz|hz)|hz|rfl
   ·exact .inl ⟨z,zZr hu (List.mem_append_left _ hz),rfl⟩
   ·exact .inl ⟨z,zXj hu hz,rfl⟩
   ·exact .inl ⟨z,zQJ hz,rfl⟩
   ·exact .inr ⟨hx.fr hf λb hb=>ne (hxo b hb) (by simp) (by simp),λb hb=>up (hxo b hb) (by simp)⟩) (by
   have p:=zJo d hu
   have e:zXa d u=d.rh ++ (zXa d u).drop d.rh.length:=by simp[zXa]
   rw[e,←List.append_assoc]at p
   have:=yX6 p h.bd.nd hxn
   simpa[zKO,uH,List.append_assoc] using this) (λb hbo=>by
   by_cases e2:b ∈ zQb r'
   ·exact hrow.lt b e2
   ·rw[if_neg e2]at hbo
    exact Nat.lt_of_lt_of_le (h.bd.lt b hbo) hf.size)
 have hC:zQR 1 ({ (d.gen u (λb=>if b ∈ zQb r' then some .R else d.o b) r' (d.rh ++ [x]) (d.asv u) (d.ah u) (d.cs u) (d.ch u) (d.C u))with at_:=λv=>if v=u then at' else d.at_ v }:zQs)=zQR 1 (({ d with rs:=r' }:zQs).withAt u at'):=by
  have e:∀{α:Type} (f:Nat->α),(λv=>if v=u then f u else f v)=f:=λf=>by funext v;by_cases e:v=u <;> simp[e]
  simp only[zQs.gen,e]
  rfl
 refine⟨{ (d.gen u (λb=>if b ∈ zQb r' then some .R else d.o b) r' (d.rh ++ [x]) (d.asv u) (d.ah u) (d.cs u) (d.ch u) (d.C u))with at_:=λv=>if v=u then at' else d.at_ v },⟨⟨by rw[hC];exact hst,hbd.same d.mode (λv=>if v=u then at' else d.at_ v),h.sd⟩,hf.mono λi hi _=>?_,λb hbo=>?_,rfl⟩,?_⟩
 ·rcases hi with rfl|hi
  ·rw[h.bd.oS];simp
  ·rw[oR i hi];simp
 ·have hbo:(if b ∈ zQb r' then some zXx.R else d.o b) ≠ none:=hbo
  by_cases e2:b ∈ zQb r'
  ·rcases hb b e2 with h1|h1
   ·left;rw[oR b h1];simp
   ·right;exact h1
  ·rw[if_neg e2]at hbo;exact .inl hbo
 ·simp only[zQa,Dsk.setU,Dsk.mk.injEq]
  refine⟨rfl,rfl,by simp[zQs.gen],?_,rfl⟩
  funext v
  by_cases e:v=u
  ·subst e;simp[zZ9,zQs.gen]
  ·simp[zZ9,zQs.gen,e]
theorem ap_fin (h:zQg w d 1 val) {u:Nat} (hu:u<4) {x:zQx} {r':SV} (at':Int) {w5:World} (hst:w5.heap[d.S]?=some (.cells (zQR 1 (({ d with asv:=λv=>if v=u then r' else d.asv v }:zQs).withAt u at')) 93)) (hrow:zQl w5 77 2 r' ((d.ah u ++ [x]).flatMap zJR))
  (hb:∀b ∈ zQb r',b ∈ zQb (d.asv u)∨w.heap.size<=b) (hf:Fr (λb=>b=d.S∨b ∈ zQb (d.asv u)) w w5) (hx:zQl w 28 3 x.s ((hv val x).flatMap zXJ)) (hxo:∀b ∈ zQb x.s,d.o b=some .V) (hxn:∀b ∈ zQb x.s,b ∉ vB (zQX d)) :
  ∃d',zQB w w5 d d' 1 val/\zQa d' val=(zQa d val).setU u { (zQa d val).us u with ap:=((zQa d val).us u).ap ++ [toR val x],at_:=at' }:=by
 have oR:=h.bd.oA u hu
 have ne:∀{b:Nat} {κ:zXx},d.o b=some κ->κ ≠ .S->κ ≠ .A u->¬(b=d.S∨b ∈ zQb (d.asv u)):=λ{b κ} hb h1 h3 e=>by
  rcases e with e|e
  ·rw[e,h.bd.oS]at hb;exact h1 (Option.some.inj hb).symm
  ·rw[oR b e]at hb;exact h3 (Option.some.inj hb).symm
 have up:∀{b:Nat} {κ:zXx},d.o b=some κ->κ ≠ .A u->(if b ∈ zQb r' then some (zXx.A u)else d.o b)=some κ:=λ{b κ} hbo hk=>by
  have hlw:b<w.heap.size:=h.bd.lt b (by rw[hbo];simp)
  rw[if_neg λe=>?_]
  ·exact hbo
  ·rcases hb b e with e|e
   ·rw[oR b e]at hbo;exact hk (Option.some.inj hbo).symm
   ·omega
 have hbd:=h.bd.gen hu (o':=λb=>if b ∈ zQb r' then some (.A u)else d.o b) (rs':=d.rs) (rh':=d.rh) (as':=r') (ah':=d.ah u ++ [x]) (cs':=d.cs u) (ch':=d.ch u) (C':=d.C u) hf
  (λb κ hbo k1 k2 k3 k4=>⟨ne hbo k1 k3,up hbo k3⟩) (up h.bd.oS (by simp)) (h.bd.rw_.fr hf λb hb=>ne (h.bd.oR b hb) (by simp) (by simp)) (λb hb=>up (h.bd.oR b hb) (by simp)) hrow (λb ag=>if_pos ag)
  (λe=>⟨(h.bd.mp e u hu).fr hf (ne (h.bd.oC e u hu) (by simp) (by simp)),up (h.bd.oC e u hu) (by simp)⟩) (λe=>⟨(h.bd.ml e u hu).fr hf λb hb=>ne (h.bd.oK e u hu b hb) (by simp) (by simp),λb hb=>up (h.bd.oK e u hu b hb) (by simp)⟩)
  (λz hz=>by
   simp only[List.mem_append,List.mem_singleton]at hz
   rcases hz with(hz|hz|rfl)|hz
   ·exact .inl ⟨z,zZr hu (List.mem_append_left _ hz),rfl⟩
   ·exact .inl ⟨z,zXj hu hz,rfl⟩
   ·exact .inr ⟨hx.fr hf λb hb=>ne (hxo b hb) (by simp) (by simp),λb hb=>up (hxo b hb) (by simp)⟩
   ·exact .inl ⟨z,zQJ hz,rfl⟩) (by
   have p:=zJo d hu
   have e:zXa d u=d.rh ++ (zXa d u).drop d.rh.length:=by simp[zXa]
   rw[e]at p
   have:=yX6 p h.bd.nd hxn
   simpa[zKO,uH,List.append_assoc] using this) (λb hbo=>by
   by_cases e2:b ∈ zQb r'
   ·exact hrow.lt b e2
   ·rw[if_neg e2]at hbo
    exact Nat.lt_of_lt_of_le (h.bd.lt b hbo) hf.size)
 have hC:zQR 1 ({ (d.gen u (λb=>if b ∈ zQb r' then some (.A u)else d.o b) d.rs d.rh r' (d.ah u ++ [x]) (d.cs u) (d.ch u) (d.C u))with at_:=λv=>if v=u then at' else d.at_ v }:zQs)=zQR 1 (({ d with asv:=λv=>if v=u then r' else d.asv v }:zQs).withAt u at'):=by
  have e:∀{α:Type} (f:Nat->α),(λv=>if v=u then f u else f v)=f:=λf=>by funext v;by_cases e:v=u <;> simp[e]
  simp only[zQs.gen,e]
  rfl
 refine⟨{ (d.gen u (λb=>if b ∈ zQb r' then some (.A u)else d.o b) d.rs d.rh r' (d.ah u ++ [x]) (d.cs u) (d.ch u) (d.C u))with at_:=λv=>if v=u then at' else d.at_ v },⟨⟨by rw[hC];exact hst,hbd.same d.mode (λv=>if v=u then at' else d.at_ v),h.sd⟩,hf.mono λi hi _=>?_,λb hbo=>?_,rfl⟩,?_⟩
 ·rcases hi with rfl|hi
  ·rw[h.bd.oS];simp
  ·rw[oR i hi];simp
 ·have hbo:(if b ∈ zQb r' then some (zXx.A u)else d.o b) ≠ none:=hbo
  by_cases e2:b ∈ zQb r'
  ·rcases hb b e2 with h1|h1
   ·left;rw[oR b h1];simp
   ·right;exact h1
  ·rw[if_neg e2]at hbo;exact .inl hbo
 ·simp only[zQa,Dsk.setU,Dsk.mk.injEq]
  refine⟨rfl,rfl,rfl,?_,rfl⟩
  funext v
  by_cases e:v=u
  ·subst e;simp[zZ9,zQs.gen]
  ·simp[zZ9,zQs.gen,e]
end Go.Proofs.YtcihcbfcgjepfaaGreatDoor
/- Desks: Append, walked. No condition but those stated. -/
namespace Go.Proofs.YtcihcbfcgjepfaaGreatDoor
open Go.Sh Go.RowKit Tryz
variable {w w' : World} {d d' : zQs} {val : Nat -> List Val} {mu : Int}
theorem bu91:prog.underlying 91=some (.array 4 90):=by kernel_rfl
theorem bs90:zX1 prog 90=4:=by kernel_rfl
theorem xKe{cs:Array Value}{p:Nat}(hp:p<4)(w:World):(Instr.index 91 (.agg cs) (.int .i64 (p:Int))).run prog w=.ok (.agg (cs.extract (p * 4) (p * 4+4))) w:=by
 have h1:(part 90 cs (p * 4)).run prog w=.ok (.agg (cs.extract (p * 4) (p * 4+4))) w:=by
  unfold part
  have a:(isAgg 90).run prog w=.ok true w:=Tryz.isAgg90 w
  have s:(sizeOf 90).run prog w=.ok 4 w:=Tryz.sizeOf90 w
  simp only[Sem.run_bind,a,Result.andThen_ok,if_true,s,Sem.run_pure]
 have s:(sizeOf 90).run prog w=.ok 4 w:=Tryz.sizeOf90 w
 unfold Instr.index
 simp only[asIntOf,Sem.run_bind,Sem.run_pure,Result.andThen_ok,zQv bu91]
 have h0:(0:Int)<=(p:Int)/\(p:Int)<((4:Nat):Int):=by omega
 rw[if_pos h0]
 simp only[Sem.run_bind,s,Result.andThen_ok,zQI,h1]
def usA(d:zQs):Array Value:=#[.int .i64 (d.mode 0),.int .i64 (d.at_ 0),.map (some (d.C 0)),.slice (d.asv 0).a (d.asv 0).len (d.asv 0).cap,
 .int .i64 (d.mode 1),.int .i64 (d.at_ 1),.map (some (d.C 1)),.slice (d.asv 1).a (d.asv 1).len (d.asv 1).cap,
 .int .i64 (d.mode 2),.int .i64 (d.at_ 2),.map (some (d.C 2)),.slice (d.asv 2).a (d.asv 2).len (d.asv 2).cap,
 .int .i64 (d.mode 3),.int .i64 (d.at_ 3),.map (some (d.C 3)),.slice (d.asv 3).a (d.asv 3).len (d.asv 3).cap]
theorem idxU(d:zQs){k:Nat}(hk:k<4)(w:World):(Instr.index 91 (.agg (usA d)) (.int .i64 (k:Int))).run prog w=.ok (.agg #[.int .i64 (d.mode k),.int .i64 (d.at_ k),.map (some (d.C k)),.slice (d.asv k).a (d.asv k).len (d.asv k).cap]) w:=by
 rw[xKe hk]
 rcases(by omega:k=0∨k=1∨k=2∨k=3)with rfl|rfl|rfl|rfl <;> rfl
def zJl(d:zQs):Nat->Nat
 | 0=>0
 | k+1=>zJl d k+(d.ah k).length
theorem yQl(d:zQs)(val:Nat->List Val):d.rh.length+zJl d 4=allN (zQa d val):=by
 unfold allN
 rw[zXr,zXr,zXr,zXr,show(zQa d val).recs.length=d.rh.length by simp[zQa]]
 simp only[zJl];omega
theorem yYQ (h:zQg w d 0 val) (hI:Inv (zQa d val)) (u:Int) :
  Calls prog 28 #[d.ptr,.int .i64 u] w λe w'=>e=.returned (.tuple #[.int .i64 (appN u (zQa d val)),.int .i64 (appC u (zQa d val))])/\∃d' val',zQB w w' d d' 0 val'/\zQa d' val'=appS u (zQa d val):=by
 refine yKX _ u w _ ((zQU h (Pu.refl w) u).mono ?_)
 rintro e w2 ⟨rfl,h2,dh,fC⟩
 refine⟨_,_,_,rfl,Br.of (λc=>?_) (λc=>?_)⟩
 ·have hu:=zJZ c
  have e1:uC u=1:=by rw[uC,if_neg hu]
  have e2:appC u (zQa d val)=1:=by rw[appC,if_pos hu]
  exact h2.left λw' hL _ _=>⟨by rw[e1,appN,e2,if_neg (by decide)],d,val,hL,by rw[appS,if_pos hu]⟩
 have hu:=zKs c
 obtain⟨n,rfl,hn⟩:=zQY hu
 rw[zWf hn]
 refine(yZf h2.at_ hI hn).mono ?_
 rintro e w3 ⟨rfl,d3,cH,db,rf⟩
 have LL:=h2.dl.trans db
 have eLv:zX3 d3=zX3 d:=by unfold zX3 zQs.ptr;rw[db.ptr]
 have eC:appC (n:Int) (zQa d val)=if leaveC n (zQa d val) ≠ 0 then leaveC n (zQa d val)else if 300<=allN (leaveS n (zQa d val))then 3 else 0:=by
  rw[appC,if_neg (by simp[hu]),zQI]
 have eS:appS (n:Int) (zQa d val)=if leaveC n (zQa d val) ≠ 0 then zQa d val else if 300<=allN (leaveS n (zQa d val))then leaveS n (zQa d val)else appendedS n (leaveS n (zQa d val)):=by
  rw[appS,if_neg (by simp[hu]),zQI]
 refine⟨_,rfl,Br.of (λc1=>?_) (λc1=>?_)⟩
 ·have c1:leaveC n (zQa d val) ≠ 0:=zQ4 c1
  rw[if_pos c1]at eC eS
  show zQe prog [zX3 d] w3 _
  rw[←eLv]
  exact zXg LL λw' hL' _ _=>⟨by rw[appN,eC,if_neg c1],d3,cH,hL',by rw[rf,zJ7 c1,eS]⟩
 have c1:leaveC n (zQa d val)=0:=zQu c1
 rw[if_neg (by simp[c1])]at eC eS
 have si:Inv (zQa d3 cH):=by rw[rf];exact hI.leave hn
 rw[←rf]at eC eS
 clear rf hI
 have h3:=db.sys
 have jM:=si.rh
 have hrl:=h3.rs_len
 have fG:∀v,v<4->(d3.ah v).length<=300:=λv hv=>si.ah hv
 show zQi (some (⟨d.S,0,none⟩:Addr)) _
 rw[show(⟨d.S,0,none⟩:Addr)=⟨d3.S,0,none⟩by rw[db.ptr]]
 rw[show uA d n=uA d3 n by show(⟨d.S,_,_⟩:Addr)=⟨d3.S,_,_⟩;rw[db.ptr]]
 have cx:∀j,w3.cell? (((⟨d3.S,0,none⟩:Addr).add 5).add j)=(zQR 1 d3)[0+5+j]?:=λj=>by rw[zQc,zQc,h3.cell]
 refine⟨d3.rs,h3.recs,?_⟩
 refine⟨d3.mode 0,cx 0,d3.at_ 0,cx 1,some (d3.C 0),cx 2,d3.asv 0,cx 3,d3.mode 1,cx 4,d3.at_ 1,cx 5,some (d3.C 1),cx 6,d3.asv 1,cx 7,d3.mode 2,cx 8,d3.at_ 2,cx 9,some (d3.C 2),cx 10,d3.asv 2,cx 11,d3.mode 3,cx 12,d3.at_ 3,cx 13,some (d3.C 3),cx 14,d3.asv 3,cx 15,?_⟩
 refine zQ1 4 (λk t w'=>t.2=(k:Int)/\t.1=((d3.rh.length+zJl d3 k:Nat):Int)/\Pu w3 w') ⟨rfl,by rw[hrl];rfl,Pu.refl _⟩ ?_
 rintro k J ⟨t,m⟩ w4 hk ⟨hm,ht,ar⟩ hJ
 obtain rfl:m=(k:Int):=hm
 obtain rfl:t=((d3.rh.length+zJl d3 k:Nat):Int):=ht
 refine Br.of (λd1=>?_) (λd1=>?_)
 ·have ak:k<4:=by have:=zQm d1;dsimp only at this;omega
  refine⟨d3.mode k,d3.at_ k,some (d3.C k),d3.asv k,w4,idxU d3 ak w4,alB λw5 aB aP=>zQj aP bs90.symm rfl rfl λw6 dx bb _=>⟨d3.asv k,cl dx 3,?_⟩⟩
  have h1:=fG k ak
  have h2:=h3.as_len ak
  have hsum:zJl d3 k<=300 * k:=by
   clear hJ ar aB aP dx bb
   have:∀j,j<=4->zJl d3 j<=300 * j:=λj=>by
    induction j with
    | zero=>intro _;simp[zJl]
    | succ j ih=>
     intro hj
     have:=ih (by omega)
     have:=fG j (by omega)
     simp only[zJl];omega
   exact this k (by omega)
  rw[zQd (n:=_+((d3.asv k).len:Int)) (by omega) (by omega),zQd (n:=(k:Int)+1) (by omega) (by omega)]
  refine hJ _ _ ak ⟨by simp,?_,ar.trans (aB.andNew bb λi hi=>by rw[show i=w4.heap.size from hi];exact Nat.le_refl _)⟩
  show _=(((d3.rh.length+(zJl d3 k+(d3.ah k).length):Nat)):Int)
  rw[h2];omega
 have ak:k=4:=by have:=zQh d1;dsimp only at this;omega
 subst ak
 have h4:=h3.pu ar
 have L4:zQB w w4 d d3 1 cH:=LL.putU ar
 rw[yQl d3 cH]
 refine Br.of (λc2=>?_) (λc2=>?_)
 ·have c2:300<=allN (zQa d3 cH):=by have:=zQm c2;omega
  rw[if_pos c2]at eC eS
  show zQe prog [zX3 d] w4 _
  rw[←eLv]
  exact zXg L4 λw' hL' _ _=>⟨by rw[appN,eC,if_neg (by decide)],d3,cH,hL',by rw[eS]⟩
 have c2:¬300<=allN (zQa d3 cH):=by have:=zQh c2;omega
 rw[if_neg c2]at eC eS
 have dA:d3.flds.length<=16:=si.f16
 have nf:0<d3.flds.length:=List.length_pos_iff.2 (zQG si.vf).1
 refine⟨d3.fs,h4.flds,(yKC (h4.fld si.vf) (zWo si.vf)).mono ?_⟩
 rintro e w5 ⟨q,rfl,hq,aB⟩
 have eB:zWE d3.flds=d3.flds.map zQ9:=by unfold zWE;rw[if_pos (show zQW d3.flds=0 from si.vf)]
 rw[eB]at hq
 refine⟨_,q,_,rfl,alB λw6 bx dx=>zQj dx yQk.symm rfl rfl λw7 bQ dg _=>?_⟩
 have dr:Pu w5 w7:=bx.andNew dg λi hi=>by rw[show i=w5.heap.size from hi];exact Nat.le_refl _
 have fm:=aB.trans dr
 have h7:=h4.pu fm
 obtain⟨aq,haq⟩:=zX8 (i:=0) hq.1 (by simpa using nf)
 have bq:zQb q=[aq.block]:=by simp[zQb,haq]
 have q1:w4.heap.size<=aq.block:=hq.2 _ (by rw[bq];simp)
 have q2:aq.block<w5.heap.size:=hq.1.lt _ (by rw[bq];simp)
 have oq:d3.o aq.block=none:=h4.bd.out q1
 have z57:=dr.size
 -- the state in which the new record's values are owned
 have own:∀w9,Pu w7 w9->zQg w9 (d3.ad aq.block) 1 (zXE cH aq.block (d3.flds.map zQ9)):=λw9 hp=>by
  have h9:=h7.pu hp
  have z:=hp.size
  exact⟨h9.st,h9.bd.ad oq (by omega) _,h9.sd⟩
 have xv:hv (zXE cH aq.block (d3.flds.map zQ9)) ⟨false,q⟩=d3.flds.map zQ9:=zZs haq rfl
 have xo:∀b ∈ zQb (⟨false,q⟩:zQx).s,(d3.ad aq.block).o b=some .V:=λb hb=>by
  have hb:b ∈ zQb q:=hb
  rw[bq]at hb;simp at hb
  show(if b=aq.block then _ else _)=_
  rw[if_pos hb]
 have xn:∀b ∈ zQb (⟨false,q⟩:zQx).s,b ∉ vB (zQX (d3.ad aq.block)):=λb hb hx=>by
  have hb:b ∈ zQb q:=hb
  rw[bq]at hb;simp at hb
  have:=h4.bd.oV b hx
  rw[hb,oq]at this;cases this
 have ha9:zQa (d3.ad aq.block) (zXE cH aq.block (d3.flds.map zQ9))=zQa d3 cH:=zVB h4.bd oq
 have xr:toR (zXE cH aq.block (d3.flds.map zQ9)) ⟨false,q⟩=blankR (zQa d3 cH):=by rw[toR,xv];rfl
 have L9:∀w9,Pu w7 w9->zQB w w9 d (d3.ad aq.block) 1 (zXE cH aq.block (d3.flds.map zQ9)):=λw9 hp=>by
  refine L4.trans ⟨own w9 hp,Fr.pu (fm.trans hp),λb hb=>?_,rfl⟩
  have hb:(if b=aq.block then some zXx.V else d3.o b) ≠ none:=hb
  by_cases e:b=aq.block
  ·right;omega
  ·rw[if_neg e]at hb;exact .inl hb
 -- the end
 have fin:∀{wF:World} {dF:zQs} {valF:Nat->List Val} (at':Int),zQB w wF d dF 1 valF->zQa dF valF=appendedS n (zQa d3 cH)->((appendedS n (zQa d3 cH)).us n).at_=at'->zQe prog [zX3 d] wF λw'=>
   Ending.returned (.tuple #[.int .i64 at',.int .i64 0])=.returned (.tuple #[.int .i64 (appN (n:Int) (zQa d val)),.int .i64 (appC (n:Int) (zQa d val))])/\∃d' val',zQB w w' d d' 0 val'/\zQa d' val'=appS (n:Int) (zQa d val):=λ{wF dF valF}at' LF hab hat=>by
  rw[←show zX3 dF=zX3 d by unfold zX3 zQs.ptr;rw[LF.ptr]]
  exact zXg LF λw' hL' _ _=>⟨by rw[appN,eC,if_pos rfl,eS,zQI,hat],dF,valF,hL',by rw[hab,eS]⟩
 have eM:((zQa d3 cH).us n).mode=d3.mode n:=rfl
 refine⟨_,h7.uMode hn,Br.of (λc3=>zQf λw8 aV _=>?_) (λc3=>zQf λw8 aV _=>?_)⟩
 ·have c3:d3.mode n=0:=zQA c3
  have h8:=h7.pu aV
  have dz:=aV.blk bQ
  refine⟨λy=>Pu w8 y,Pu.refl _,d3.rs,λy hy=>(h8.pu hy).recs,_,λy hy=>cl (hy.blk dz) 0,q,λy hy=>cl (hy.blk dz) 1,alB λw9 bR kR=>⟨bR,?_⟩⟩
  have h9:=own w9 (aV.trans bR)
  have kE:zQl w9 77 2 d3.rs (d3.rh.flatMap zJR):=h9.bd.rw_
  obtain⟨r',au,hra,dt,dy,gV,_⟩:=zQ6 (P:=prog) (ty:=23) xZy zJd rfl (by omega) kE (A:=some ⟨w8.heap.size,0,none⟩) (m:=1) (c:=1) (news:=[.bool false,.slice q.a q.len q.cap]) rfl (λj y hy=>⟨_,rfl,by rw[cl kR];simpa using hy⟩) (λy hy=>by simp at hy;rcases hy with rfl|rfl <;> rfl) (by show(d3.rs.len+1) * (32+1)<=_;omega)
  refine⟨r',au,hra,?_⟩
  have hrb:∀b ∈ zQb r',b ∈ zQb d3.rs∨w9.heap.size<=b:=gV
  have nSr:∀b ∈ zQb d3.rs,¬b=d3.S:=λb hb e=>by
   have:=h3.bd.oR b hb;rw[e,h3.bd.oS]at this;cases this
  have nSr':∀b ∈ zQb r',¬b=d3.S:=λb hb e=>by
   rcases hrb b hb with h1|h1
   ·exact nSr b h1 e
   ·have:=h9.bd.lt d3.S (by have:=h9.bd.oS;rw[show(d3.ad aq.block).S=d3.S from rfl]at this;rw[this];simp)
    omega
  have kF:au.heap[d3.S]?=some (.cells (zQR 1 d3) 93):=dy.blk h9.st λe=>nSr _ e rfl
  rw[zQn,zQc,zQc]
  refine zQt kF (by show 0+2+2<22;omega) λav gJ bK=>?_
  have c9:Fr (·=d3.S) au av:=by rw[gJ];exact Fr.cell au _ _ _
  have bK:av.heap[d3.S]?=some (.cells (zQR 1 { d3 with rs:=r' }) 93):=bK
  refine⟨r',by rw[zQc,zQc,zQq bK];rfl,?_⟩
  rw[zQn,zQc]
  refine zQt bK (by show 5+n * 4+1<22;omega) λao jQ bL=>?_
  have cQ:Fr (·=d3.S) av ao:=by rw[jQ];exact Fr.cell av _ _ _
  rw[zJD hn]at bL
  have er:r'.len=d3.rh.length+1:=by
   have h1:=dt.1
   simp only[List.length_append,zQ0 zQk,List.length_cons,List.length_nil]at h1
   omega
  have eat:((r'.len:Nat):Int)=(d3.rh.length:Int)+1:=by rw[er];omega
  have kG:zQl ao 77 2 r' ((d3.rh ++ [(⟨false,q⟩:zQx)]).flatMap zJR):=by
   rw[List.flatMap_append,List.flatMap_singleton]
   exact(dt.fr c9 nSr').fr cQ nSr'
  have hF:Fr (λb=>b=d3.S∨b ∈ zQb d3.rs) w9 ao:=((dy.mono (B':=λb=>b=d3.S∨b ∈ zQb d3.rs) λi hi _=>.inr hi).trans c9 λi hi _=>.inl hi).trans cQ λi hi _=>.inl hi
  obtain⟨dF,hLF,habF⟩:=yYm h9 hn ((r'.len:Nat):Int) bL kG hrb hF (by rw[xv];exact(hq.1.pu dr).pu (aV.trans bR)) xo xn
  rw[zQn]
  refine⟨((r'.len:Nat):Int),by rw[zQc,zQq bL];exact(zKN (d:=({ d3 with rs:=r' }:zQs).withAt n ((r'.len:Nat):Int)) hn).trans (by simp[zQs.withAt]),?_⟩
  rw[ha9,xr]at habF
  have eA:appendedS n (zQa d3 cH)=({ zQa d3 cH with recs:=(zQa d3 cH).recs ++ [blankR (zQa d3 cH)] }:Dsk).setU n { (zQa d3 cH).us n with at_:=((zQa d3 cH).recs.length:Int)+1 }:=by
   unfold appendedS;rw[eM,if_pos c3]
  have eL:(zQa d3 cH).recs.length=d3.rh.length:=by simp[zQa]
  refine fin _ ((L9 w9 (aV.trans bR)).trans hLF) ?_ ?_
  ·rw[habF,eA,eL,eat]
  ·rw[eA,eL,eat];simp[Dsk.setU]
 ·have c3:d3.mode n ≠ 0:=zQo c3
  have h8:=h7.pu aV
  have dz:=aV.blk bQ
  refine⟨λy=>Pu w8 y,Pu.refl _,d3.asv n,λy hy=>(h8.pu hy).uAp hn,_,λy hy=>cl (hy.blk dz) 0,q,λy hy=>cl (hy.blk dz) 1,alB λw9 bR kR=>⟨bR,?_⟩⟩
  have h9:=own w9 (aV.trans bR)
  have kE:zQl w9 77 2 (d3.asv n) ((d3.ah n).flatMap zJR):=h9.bd.aw n hn
  have hal:=h3.as_len hn
  have hal3:=fG n hn
  obtain⟨r',au,hra,dt,dy,gV,_⟩:=zQ6 (P:=prog) (ty:=23) xZy zJd rfl (by omega) kE (A:=some ⟨w8.heap.size,0,none⟩) (m:=1) (c:=1) (news:=[.bool false,.slice q.a q.len q.cap]) rfl (λj y hy=>⟨_,rfl,by rw[cl kR];simpa using hy⟩) (λy hy=>by simp at hy;rcases hy with rfl|rfl <;> rfl) (by show((d3.asv n).len+1) * (32+1)<=_;omega)
  refine⟨r',au,hra,?_⟩
  have hrb:∀b ∈ zQb r',b ∈ zQb (d3.asv n)∨w9.heap.size<=b:=gV
  have nSr:∀b ∈ zQb (d3.asv n),¬b=d3.S:=λb hb e=>by
   have:=h3.bd.oA n hn b hb;rw[e,h3.bd.oS]at this;cases this
  have nSr':∀b ∈ zQb r',¬b=d3.S:=λb hb e=>by
   rcases hrb b hb with h1|h1
   ·exact nSr b h1 e
   ·have:=h9.bd.lt d3.S (by have:=h9.bd.oS;rw[show(d3.ad aq.block).S=d3.S from rfl]at this;rw[this];simp)
    omega
  have kF:au.heap[d3.S]?=some (.cells (zQR 1 d3) 93):=dy.blk h9.st λe=>nSr _ e rfl
  rw[zQn,zQc]
  refine zQt kF (by show 5+n * 4+3<22;omega) λav gJ bK=>?_
  have c9:Fr (·=d3.S) au av:=by rw[gJ];exact Fr.cell au _ _ _
  rw[zYv hn]at bK
  refine⟨r',by rw[zQc,zQq bK];exact(zKG (d:={ d3 with asv:=λv=>if v=n then r' else d3.asv v }) hn).trans (by simp),?_⟩
  have er:r'.len=(d3.ah n).length+1:=by
   have h1:=dt.1
   simp only[List.length_append,zQ0 zQk,List.length_cons,List.length_nil]at h1
   omega
  rw[zQd (n:=0 - ((r'.len:Nat):Int)) (by omega) (by omega)]
  rw[zQn,zQc]
  refine zQt bK (by show 5+n * 4+1<22;omega) λao jQ bL=>?_
  have cQ:Fr (·=d3.S) av ao:=by rw[jQ];exact Fr.cell av _ _ _
  rw[zJD hn]at bL
  have eat:0 - ((r'.len:Nat):Int)=-((d3.ah n).length:Int) - 1:=by rw[er];omega
  have kG:zQl ao 77 2 r' ((d3.ah n ++ [(⟨false,q⟩:zQx)]).flatMap zJR):=by
   rw[List.flatMap_append,List.flatMap_singleton]
   exact(dt.fr c9 nSr').fr cQ nSr'
  have hF:Fr (λb=>b=d3.S∨b ∈ zQb (d3.asv n)) w9 ao:=((dy.mono (B':=λb=>b=d3.S∨b ∈ zQb (d3.asv n)) λi hi _=>.inr hi).trans c9 λi hi _=>.inl hi).trans cQ λi hi _=>.inl hi
  obtain⟨dF,hLF,habF⟩:=ap_fin h9 hn (0 - ((r'.len:Nat):Int)) bL kG hrb hF (by rw[xv];exact(hq.1.pu dr).pu (aV.trans bR)) xo xn
  rw[zQn]
  refine⟨0 - ((r'.len:Nat):Int),by rw[zQc,zQq bL];exact(zKN (d:=({ d3 with asv:=λv=>if v=n then r' else d3.asv v }:zQs).withAt n (0 - ((r'.len:Nat):Int))) hn).trans (by simp[zQs.withAt]),?_⟩
  rw[ha9,xr]at habF
  have eA:appendedS n (zQa d3 cH)=(zQa d3 cH).setU n { (zQa d3 cH).us n with ap:=((zQa d3 cH).us n).ap ++ [blankR (zQa d3 cH)],at_:=-((d3.ah n).length:Int) - 1 }:=by
   unfold appendedS;rw[eM,if_neg c3,zXr]
  refine fin _ ((L9 w9 (aV.trans bR)).trans hLF) ?_ ?_
  ·rw[habF,eA,eat]
  ·rw[eA,eat];simp[Dsk.setU]
end Go.Proofs.YtcihcbfcgjepfaaGreatDoor
/- Desks: a new desk. No condition but those stated. -/
namespace Go.Proofs.YtcihcbfcgjepfaaGreatDoor
open Go.Sh Go.RowKit Tryz
variable {w w' : World} {d d' : zQs} {val : Nat -> List Val} {mu : Int}
theorem zKZ{l:List Fld}{p:Int}:∀{rs:List Rec},zXL l p rs=0->∀r ∈ rs,zQD l p r=0
 | [],_,r,h=>by cases h
 | x :: rs,h,r,hr=>by
  unfold zXL at h
  split at h
  ·next hx=>exact absurd h hx
  ·next hx=>
   rcases List.mem_cons.1 hr with rfl|hr
   ·simpa using hx
   ·exact zKZ h r hr
theorem zVa{t:Tbl}(h:zQQ t=0):Inv (Dsk.new t):=by
 unfold zQQ at h
 split at h
 ·next hp=>
  split at h
  ·next hf=>exact absurd h hf
  ·next hf=>
   split at h
   ·cases h
   ·next hl=>
    refine⟨hp,(by simpa using hf:zQW t.fields=0),zKZ h,?_,?_,?_,?_,?_,?_,?_⟩
    ·intro u hu r hr;simp[Dsk.new,Usr.new]at hr
    ·intro u hu c hc;simp[Dsk.new,Usr.new]at hc
    ·intro u hu;simp[Dsk.new,Usr.new]
    ·intro u hu;simp[Dsk.new,Usr.new]
    ·intro u hu _ h2;simp[Dsk.new,Usr.new]at h2
    ·simp[allN,Dsk.new,Usr.new];omega
    ·intro k v hk;simp[Dsk.new]at hk
 ·cases h
def zWj:List zQx->List Rec->Nat->List Val
 | h :: hs,r :: rs=>λb=>if b ∈ zQb h.s then r.v else zWj hs rs b
 | _,_=>λ_=>[]
theorem yYG {s:SV} {l:List Val} (h:zQl w 28 3 s (l.flatMap zXJ)) (hn:s.a=none):l=[]:=by
 cases l with
 | nil=>rfl
 | cons v l=>
  obtain⟨a,ha⟩:=zX8 (i:=0) h (by simp)
  rw[hn]at ha;cases ha
theorem zKg:∀{hs:List zQx} {rs:List Rec},zQK w hs rs->(vB hs).Nodup->hs.map (toR (zWj hs rs))=rs
 | [],[],_,_=>rfl
 | h :: hs,r :: rs,⟨⟨h1,h2⟩,h3⟩,hn=>by
  rw[zXl]at hn
  obtain⟨_,n2,n3⟩:=List.nodup_append.1 hn
  have ih:=zKg h3 n2
  simp only[List.map_cons]
  congr 1
  ·rw[toR,h1]
   unfold hv
   cases ha:h.s.a with
   | none=>
    have:=yYG h2 ha
    cases r;simp only at this ⊢;rw[this]
   | some a=>
    simp only[zWj]
    rw[if_pos (by simp[zQb,ha])]
  ·refine Eq.trans (List.map_congr_left λx hx=>?_) ih
   have:hv (zWj (h :: hs) (r :: rs)) x=hv (zWj hs rs) x:=by
    unfold hv
    cases ha:x.s.a with
    | none=>rfl
    | some a=>
     simp only[zWj]
     rw[if_neg λe=>n3 _ e _ (zQN hx (show a.block ∈ zQb x.s by simp[zQb,ha])) rfl]
   rw[toR,this];rfl
theorem valOf_row:∀{hs:List zQx} {rs:List Rec},zQK w hs rs->(vB hs).Nodup->∀x ∈ hs,zQl w 28 3 x.s ((hv (zWj hs rs) x).flatMap zXJ)
 | hs,rs,h,hn,x,hx=>by
  obtain⟨i,hi⟩:=List.getElem?_of_mem hx
  have e:=zKg h hn
  have h1:rs[i]?=some (toR (zWj hs rs) x):=by rw[←e,List.getElem?_map,hi,e];rfl
  obtain⟨y,hy,_,hr⟩:=h.at_ h1
  rw[hi]at hy;cases hy
  exact hr
def xJA(page:Int)(fs rs:SV)(L c0 k:Nat):Array Value:=#[.int .i32 0,.int .u32 0,.int .i64 page,.slice fs.a fs.len fs.cap,.slice rs.a rs.len rs.cap,
 .int .i64 0,.int .i64 0,.map (if 0<k then some (c0+0)else none),.slice none 0 0,.int .i64 0,.int .i64 0,.map (if 1<k then some (c0+1)else none),.slice none 0 0,
 .int .i64 0,.int .i64 0,.map (if 2<k then some (c0+2)else none),.slice none 0 0,.int .i64 0,.int .i64 0,.map (if 3<k then some (c0+3)else none),.slice none 0 0,.map (some L)]
theorem yV1{page:Int}{fs rs:SV}{L c0 k:Nat}(hk:k<4):(xJA page fs rs L c0 k).setIfInBounds (5+k * 4+2) (.map (some (c0+k)))=xJA page fs rs L c0 (k+1):=by
 rcases(by omega:k=0∨k=1∨k=2∨k=3)with rfl|rfl|rfl|rfl <;> rfl
def zVp(S L c0:Nat)(t:Tbl)(fs rs:SV)(hs:List zQx):zQs where
 sd:=false
 o b:=if b=S then some .S else if b=L then some .L else if c0<=b/\b<c0+4 then some (.C (b - c0))else if b ∈ zQb fs then some .F else if b ∈ zQb rs then some .R else if b ∈ vB hs then some .V else none
 S:=S
 L:=L
 C u:=c0+u
 page:=t.page
 flds:=t.fields
 fs:=fs
 rs:=rs
 rh:=hs
 mode _:=0
 at_ _:=0
 asv _:=⟨none,0,0⟩
 ah _:=[]
 cs _:=⟨none,0,0⟩
 ch _:=[]
 lk _:=none
theorem new_c{t:Tbl}{f r:SV}(h:zJG w t f r)(hl:Lim.ok t.fields):Calls prog 11 #[zY2 t f r] w λe w'=>Pu w w'/\(zQQ t ≠ 0->e=.returned (.tuple #[.pointer none,.int .i64 (zQQ t)]))/\
  (zQQ t=0->∃d val,e=.returned (.tuple #[d.ptr,.int .i64 0])/\zQg w' d 0 val/\zQa d val=Dsk.new t/\∀b,d.o b ≠ none->w.heap.size<=b):=by
 refine yWh _ _ _ w _ (alB λw1 al ay=>?_)
 refine⟨_,cl ay 0,f,cl ay 1,r,cl ay 2,(zKB (h.pu al) hl).mono ?_⟩
 rintro e w2 ⟨rfl,aj⟩
 have aG:=al.trans aj
 refine⟨_,rfl,Br.of (λc=>?_) (λc=>zQf λw8 aV _=>?_)⟩
 ·have c:=zQ4 c
  exact⟨aG,λ_=>rfl,λe=>absurd e c⟩
 have c:=zQu c
 have hI:=zVa c
 have dz:=aV.blk (aj.blk ay)
 have pZ:=aG.trans aV
 have z1:w.heap.size<w1.heap.size:=zQy ay
 have zz:w1.heap.size<=w8.heap.size:=(aj.trans aV).size
 have f16:t.fields.length<=16:=hI.f16
 have r300:t.recs.length<=300:=hI.r300
 refine⟨λy=>Pu w8 y,Pu.refl _,f,λy hy=>cl (hy.blk dz) 1,r,λy hy=>cl (hy.blk dz) 2,(yZd (h.fields.pu pZ) (by omega)).mono ?_⟩
 rintro e w9 ⟨qf,rfl,hqf,hqn,bR⟩
 refine⟨qf,rfl,bR,(zJN (zXQ.of (h.recs.pu (pZ.trans bR))) (by omega) λx hx=>by have h1:=zQ2 (hI.gr x hx);have e:(Dsk.new t).flds.length=t.fields.length:=rfl;omega).mono ?_⟩
 rintro e au ⟨qr,hs,rfl,hN,cZ⟩
 have qa:=cZ.blk (bR.blk dz)
 have z9:=bR.size
 have z10:=cZ.size
 refine⟨qr,rfl,?_⟩
 rw[zQc]
 refine zQt qa (by show 0+1<3;omega) λav gJ bK=>?_
 rw[zQc]
 refine zQt bK (by show 0+2<3;omega) λao jQ bL=>?_
 have cQ:Fr (·=w.heap.size) au ao:=by
  refine(show Fr (·=w.heap.size) au av by rw[gJ];exact Fr.cell au _ _ _).trans (show Fr (·=w.heap.size) av ao by rw[jQ];exact Fr.cell av _ _ _) λi hi _=>hi
 have u3:ao.heap.size=au.heap.size:=by rw[jQ,gJ];simp
 have n1:∀{b:Nat},w8.heap.size<=b->¬b=w.heap.size:=λ{b} hb e=>by omega
 have hqf12:=(hqf.pu cZ).fr cQ λb hb=>n1 (hqn b hb)
 have kG:=hN.row.fr cQ λb hb=>n1 (by have:=hN.new b hb;omega)
 have qd:=hN.recs.fr cQ λb hb=>n1 (by have:=(hN.vnew b hb).1;omega)
 have uO:Pu w ao:=((pZ.trans bR).trans cZ).andNew cQ λi hi=>by rw[show i=w.heap.size from hi];exact Nat.le_refl _
 refine⟨_,cl bL 0,qf,cl bL 1,qr,cl bL 2,zXz λaE m9=>?_⟩
 have aQ:Pu ao aE:=by rw[m9];exact Pu.alloc ao _
 have s13:aE.heap.size=ao.heap.size+1:=by rw[m9];simp
 have hm13:zQ3 aE zQM zQM ao.heap.size ([]:List (Int × Int)):=by rw[m9];exact zQ3.new ao _ _
 refine alB λaI dq gH=>?_
 have z14:=dq.size
 have fy:aE.heap.size<aI.heap.size:=zQy gH
 have zf:∀b ∈ zQb qf,w8.heap.size<=b/\b<ao.heap.size:=λb hb=>⟨hqn b hb,by rw[u3];have:=hqf.lt b hb;omega⟩
 have zr:∀b ∈ zQb qr,w9.heap.size<=b/\b<ao.heap.size:=λb hb=>⟨hN.new b hb,by rw[u3];exact hN.row.lt b hb⟩
 have zv:∀b ∈ vB hs,w9.heap.size<=b/\b<ao.heap.size:=λb hb=>⟨(hN.vnew b hb).1,by
  obtain⟨x,hx,hxb⟩:=List.mem_flatMap.1 hb
  exact(valOf_row qd hN.nd x hx).lt b hxb⟩
 have zfr:∀b ∈ zQb qf,b<w9.heap.size:=hqf.lt
 refine zQ1 4 (λk t' w'=>t'=(k:Int)/\w'.heap.size=aI.heap.size+k/\w'.heap[aE.heap.size]?=some (.cells (xJA t.page qf qr ao.heap.size aI.heap.size k) 93)/\(∀v,v<k->zQ3 w' zQM chV (aI.heap.size+v) [])/\Fr (·=aE.heap.size) aI w') ⟨rfl,rfl,gH,λv hv=>absurd hv (by omega),Fr.refl _ _⟩ ?_
 rintro k J t' aD hk ⟨ht,hsz,hbk,hms,hf⟩ hJ
 obtain rfl:t'=(k:Int):=ht
 refine Br.of (λd1=>?_) (λd1=>?_)
 ·have ak:k<4:=by have:=zQm d1;omega
  refine zXz λaU uP=>?_
  have pq:Pu aD aU:=by rw[uP];exact Pu.alloc aD _
  have s16:aU.heap.size=aD.heap.size+1:=by rw[uP];simp
  have hm16:zQ3 aU zQM chV aD.heap.size []:=by rw[uP];exact zQ3.new aD _ _
  refine⟨by omega,by omega,?_⟩
  rw[zQI,zQc,zQc,zQc]
  have rN:=pq.blk hbk
  rw[show 0+5+k * 4+2=5+k * 4+2 by omega]
  refine zQt rN (by show 5+k * 4+2<22;omega) λbr hw17 hb17=>?_
  have hf17:Fr (·=aE.heap.size) aU br:=by rw[hw17];exact Fr.cell aU _ _ _
  have s17:br.heap.size=aU.heap.size:=by rw[hw17];simp
  rw[zQd (by omega) (by omega)]
  refine hJ _ _ ak ⟨by omega,by omega,?_,λv hv=>?_,(hf.trans (Fr.pu pq:Fr (·=aE.heap.size) aD aU) λi hi _=>hi).trans hf17 λi hi _=>hi⟩
  ·rw[hb17,hsz,yV1 ak]
  ·by_cases e:v=k
   ·subst e
    rw[←hsz]
    exact hm16.fr hf17 (by omega)
   ·exact((hms v (by omega)).pu pq).fr hf17 (by omega)
 ·have ak:k=4:=by have:=zQh d1;omega
  subst ak
  have hpF:Pu w aD:=((uO.trans aQ).trans dq).andNew hf λi hi=>by rw[show i=aE.heap.size from hi];have:=uO.size;omega
  have qe:Pu ao aI:=aQ.trans dq
  have nS:∀{b:Nat},b<ao.heap.size+1->¬b=aE.heap.size:=λ{b} hb e=>by omega
  have o0:∀{b:Nat},b<ao.heap.size->(zVp aE.heap.size ao.heap.size aI.heap.size t qf qr hs).o b=if b ∈ zQb qf then some .F else if b ∈ zQb qr then some .R else if b ∈ vB hs then some .V else none:=λ{b} hb=>by
   show(if b=aE.heap.size then _ else if b=ao.heap.size then _ else if aI.heap.size<=b/\b<aI.heap.size+4 then _ else _)=_
   rw[if_neg (by omega),if_neg (by omega),if_neg (by omega)]
  refine⟨hpF,λe=>absurd c e,λ_=>⟨zVp aE.heap.size ao.heap.size aI.heap.size t qf qr hs,zWj hs t.recs,rfl,⟨hbk,?_,rfl⟩,?_,λb hb=>?_⟩⟩
  ·have eAll:zQX (zVp aE.heap.size ao.heap.size aI.heap.size t qf qr hs)=hs:=by simp[zQX,uH,chH,zVp]
   have hrecF:zQK aD hs t.recs:=(qd.fr (Fr.pu qe:Fr (λ_=>False) ao aI) λ_ _ h=>h).fr hf λb hb=>nS (by have:=zv b hb;omega)
   refine⟨(hqf12.pu qe).fr hf λb hb=>nS (by have:=zf b hb;omega),(kG.pu qe).fr hf λb hb=>nS (by have:=zr b hb;omega),λu hu=>zQl.nil _ _ _,λ_ u hu=>hms u hu,λe=>(by cases e),⟨[],(hm13.pu dq).fr hf (nS (by omega)),λk=>rfl⟩,λx hx=>?_,λv hv=>⟨rfl,rfl⟩,by rw[eAll];exact hN.nd,?_,?_,λ_ u hu=>?_,λe=>(by cases e),λb hb=>?_,λb hb=>?_,λu hu b hb=>by simp[zVp,zQb]at hb,λb hb=>?_,λb hb=>?_⟩
   ·rw[eAll]at hx;exact valOf_row hrecF hN.nd x hx
   ·show(if aE.heap.size=aE.heap.size then _ else _)=_;rw[if_pos rfl]
   ·show(if ao.heap.size=aE.heap.size then _ else if ao.heap.size=ao.heap.size then _ else _)=_;rw[if_neg (by omega),if_pos rfl]
   ·show(if aI.heap.size+u=aE.heap.size then _ else if aI.heap.size+u=ao.heap.size then _ else if aI.heap.size<=aI.heap.size+u/\aI.heap.size+u<aI.heap.size+4 then some (zXx.C (aI.heap.size+u - aI.heap.size))else _)=_
    rw[if_neg (by omega),if_neg (by omega),if_pos (by omega),Nat.add_sub_cancel_left]
   ·replace hb:b ∈ zQb qf:=hb
    rw[o0 (zf b hb).2,if_pos hb]
   ·replace hb:b ∈ zQb qr:=hb
    rw[o0 (zr b hb).2,if_neg (λe=>by have:=zfr b e;have:=zr b hb;omega),if_pos hb]
   ·rw[eAll]at hb
    rw[o0 (zv b hb).2,if_neg (λe=>by have:=zfr b e;have:=zv b hb;omega),if_neg (hN.vnew b hb).2,if_pos hb]
   ·have hb:(if b=aE.heap.size then some zXx.S else if b=ao.heap.size then some .L else if aI.heap.size<=b/\b<aI.heap.size+4 then some (.C (b - aI.heap.size))else if b ∈ zQb qf then some .F else if b ∈ zQb qr then some .R else if b ∈ vB hs then some .V else none) ≠ none:=hb
    by_cases e1:b=aE.heap.size
    ·omega
    rw[if_neg e1]at hb
    by_cases e2:b=ao.heap.size
    ·omega
    rw[if_neg e2]at hb
    by_cases e3:aI.heap.size<=b/\b<aI.heap.size+4
    ·omega
    rw[if_neg e3]at hb
    by_cases e4:b ∈ zQb qf
    ·have:=zf b e4;omega
    rw[if_neg e4]at hb
    by_cases e5:b ∈ zQb qr
    ·have:=zr b e5;omega
    rw[if_neg e5]at hb
    by_cases e6:b ∈ vB hs
    ·have:=zv b e6;omega
    rw[if_neg e6]at hb;exact absurd rfl hb
  ·have e:=zKg qd hN.nd
   simp only[zQa,zVp,Dsk.new,e]
   rfl
  ·have hb:(if b=aE.heap.size then some zXx.S else if b=ao.heap.size then some .L else if aI.heap.size<=b/\b<aI.heap.size+4 then some (.C (b - aI.heap.size))else if b ∈ zQb qf then some .F else if b ∈ zQb qr then some .R else if b ∈ vB hs then some .V else none) ≠ none:=hb
   have:=uO.size
   by_cases e1:b=aE.heap.size
   ·omega
   rw[if_neg e1]at hb
   by_cases e2:b=ao.heap.size
   ·omega
   rw[if_neg e2]at hb
   by_cases e3:aI.heap.size<=b/\b<aI.heap.size+4
   ·omega
   rw[if_neg e3]at hb
   by_cases e4:b ∈ zQb qf
   ·have:=zf b e4;omega
   rw[if_neg e4]at hb
   by_cases e5:b ∈ zQb qr
   ·have:=zr b e5;omega
   rw[if_neg e5]at hb
   by_cases e6:b ∈ vB hs
   ·have:=zv b e6;omega
   rw[if_neg e6]at hb;exact absurd rfl hb
end Go.Proofs.YtcihcbfcgjepfaaGreatDoor
/- Desks: how the reference's desk lies in memory; its small questions; modes. No condition but those stated. -/
namespace Go.Proofs.YtcihcbfcgjepfaaGreatDoor
open Go.Sh Go.RowKit Tryz
variable {w w' : World} {d d' : zQs} {val : Nat -> List Val}
def zZ5(d:zQs):Array Value:=#[.int .i64 d.page,.slice d.fs.a d.fs.len d.fs.cap,.slice d.rs.a d.rs.len d.rs.cap,
 .int .i64 (d.mode 0),.int .i64 (d.at_ 0),.slice (d.cs 0).a (d.cs 0).len (d.cs 0).cap,.slice (d.asv 0).a (d.asv 0).len (d.asv 0).cap,
 .int .i64 (d.mode 1),.int .i64 (d.at_ 1),.slice (d.cs 1).a (d.cs 1).len (d.cs 1).cap,.slice (d.asv 1).a (d.asv 1).len (d.asv 1).cap,
 .int .i64 (d.mode 2),.int .i64 (d.at_ 2),.slice (d.cs 2).a (d.cs 2).len (d.cs 2).cap,.slice (d.asv 2).a (d.asv 2).len (d.asv 2).cap,
 .int .i64 (d.mode 3),.int .i64 (d.at_ 3),.slice (d.cs 3).a (d.cs 3).len (d.cs 3).cap,.slice (d.asv 3).a (d.asv 3).len (d.asv 3).cap,.map (some d.L)]
structure zQr(w:World)(d:zQs)(val:Nat->List Val):Prop where
 st:w.heap[d.S]?=some (.cells (zZ5 d) 125)
 bd:zQE w d val
 sd:d.sd=true
theorem zQr.fr{B:Nat->Prop}(h:zQr w d val)(hf:Fr B w w')(hn:∀b,d.o b ≠ none->¬B b):zQr w' d val:=
 ⟨hf.blk h.st (hn _ (by rw[h.bd.oS];simp)),h.bd.fr hf λb κ hb _=>hn b (by rw[hb];simp),h.sd⟩
theorem zQr.pu(h:zQr w d val)(hp:Pu w w'):zQr w' d val:=h.fr (Fr.pu hp:Fr (λ_=>False) w w') λ_ _ h=>h
theorem zQr.cs_row(h:zQr w d val){u:Nat}(hu:u<4):zQl w 136 5 (d.cs u) ((d.ch u).flatMap chC):=h.bd.ml h.sd u hu
theorem zQr.lm(h:zQr w d val):∃l,zQ3 w zQM zQM d.L l/\∀k,AL.get l k=(d.lk k).map (· + 1):=by
 obtain⟨l,h1,h2⟩:=h.bd.lm
 exact⟨l,h1,λk=>by rw[h2,h.sd];rfl⟩
abbrev uR(d:zQs)(u:Nat):Addr:=⟨d.S,3+u * 4,none⟩
theorem zJa(d:zQs)(u:Nat):((⟨d.S,0,none⟩:Addr).add 3).add ((u:Int).toNat * 4)=uR d u:=by rw[zQc,zQc,zQI,Nat.zero_add]
theorem xQs{u:Nat}(hu:u<4):(zZ5 d)[3+u * 4]?=some (.int .i64 (d.mode u)):=by
 rcases(by omega:u=0∨u=1∨u=2∨u=3)with rfl|rfl|rfl|rfl <;> rfl
theorem yZb{u:Nat}(hu:u<4):(zZ5 d)[3+u * 4+1]?=some (.int .i64 (d.at_ u)):=by
 rcases(by omega:u=0∨u=1∨u=2∨u=3)with rfl|rfl|rfl|rfl <;> rfl
theorem xXw{u:Nat}(hu:u<4):(zZ5 d)[3+u * 4+2]?=some (.slice (d.cs u).a (d.cs u).len (d.cs u).cap):=by
 rcases(by omega:u=0∨u=1∨u=2∨u=3)with rfl|rfl|rfl|rfl <;> rfl
theorem yWu{u:Nat}(hu:u<4):(zZ5 d)[3+u * 4+3]?=some (.slice (d.asv u).a (d.asv u).len (d.asv u).cap):=by
 rcases(by omega:u=0∨u=1∨u=2∨u=3)with rfl|rfl|rfl|rfl <;> rfl
theorem zWV{u:Nat}(hu:u<4)(m:Int):(zZ5 d).setIfInBounds (3+u * 4) (.int .i64 m)=zZ5 (d.withMode u m):=by
 rcases(by omega:u=0∨u=1∨u=2∨u=3)with rfl|rfl|rfl|rfl <;> rfl
theorem zJM{u:Nat}(hu:u<4)(m:Int):(zZ5 d).setIfInBounds (3+u * 4+1) (.int .i64 m)=zZ5 (d.withAt u m):=by
 rcases(by omega:u=0∨u=1∨u=2∨u=3)with rfl|rfl|rfl|rfl <;> rfl
theorem zYj{u:Nat}(hu:u<4)(s:SV):(zZ5 d).setIfInBounds (3+u * 4+2) (.slice s.a s.len s.cap)=zZ5 { d with cs:=λv=>if v=u then s else d.cs v }:=by
 rcases(by omega:u=0∨u=1∨u=2∨u=3)with rfl|rfl|rfl|rfl <;> rfl
theorem zY1{u:Nat}(hu:u<4)(s:SV):(zZ5 d).setIfInBounds (3+u * 4+3) (.slice s.a s.len s.cap)=zZ5 { d with asv:=λv=>if v=u then s else d.asv v }:=by
 rcases(by omega:u=0∨u=1∨u=2∨u=3)with rfl|rfl|rfl|rfl <;> rfl
theorem zQr.cell(h:zQr w d val)(o:Nat):w.cell? ((⟨d.S,0,none⟩:Addr).add o)=(zZ5 d)[o]?:=by rw[zQc,zQq h.st,Nat.zero_add]
theorem zQr.page(h:zQr w d val):w.cell? (⟨d.S,0,none⟩:Addr)=some (.int .i64 d.page):=by rw[zQq h.st];rfl
theorem zQr.flds(h:zQr w d val):w.cell? ((⟨d.S,0,none⟩:Addr).add 1)=some (.slice d.fs.a d.fs.len d.fs.cap):=by rw[h.cell];rfl
theorem zQr.recs(h:zQr w d val):w.cell? ((⟨d.S,0,none⟩:Addr).add 2)=some (.slice d.rs.a d.rs.len d.rs.cap):=by rw[h.cell];rfl
theorem zQr.locks(h:zQr w d val):w.cell? ((⟨d.S,0,none⟩:Addr).add 19)=some (.map (some d.L)):=by rw[h.cell];rfl
theorem zQr.uMode(h:zQr w d val){u:Nat}(hu:u<4):w.cell? (((⟨d.S,0,none⟩:Addr).add 3).add ((u:Int).toNat * 4))=some (.int .i64 (d.mode u)):=by rw[zJa,zQq h.st];exact xQs hu
theorem zQr.uAt(h:zQr w d val){u:Nat}(hu:u<4):w.cell? ((((⟨d.S,0,none⟩:Addr).add 3).add ((u:Int).toNat * 4)).add 1)=some (.int .i64 (d.at_ u)):=by rw[zJa,zQc,zQq h.st];exact yZb hu
theorem zQr.uCs(h:zQr w d val){u:Nat}(hu:u<4):w.cell? ((((⟨d.S,0,none⟩:Addr).add 3).add ((u:Int).toNat * 4)).add 2)=some (.slice (d.cs u).a (d.cs u).len (d.cs u).cap):=by rw[zJa,zQc,zQq h.st];exact xXw hu
theorem zQr.uAp(h:zQr w d val){u:Nat}(hu:u<4):w.cell? ((((⟨d.S,0,none⟩:Addr).add 3).add ((u:Int).toNat * 4)).add 3)=some (.slice (d.asv u).a (d.asv u).len (d.asv u).cap):=by rw[zJa,zQc,zQq h.st];exact yWu hu
theorem zQr.as_len(h:zQr w d val){u:Nat}(hu:u<4):(d.asv u).len=(d.ah u).length:=(h.bd.aw u hu).len zQk (by decide)
theorem zQr.rs_len(h:zQr w d val):d.rs.len=d.rh.length:=h.bd.rw_.len zQk (by decide)
theorem zQr.cs_len(h:zQr w d val){u:Nat}(hu:u<4):(d.cs u).len=(d.ch u).length:=(h.cs_row hu).len zXC (by decide)
theorem zQr.own (h:zQr w d val) {o:Nat} {v:Value} (ho:o<20) {K:World->Prop} (hc:(zZ5 d).setIfInBounds o v=zZ5 d') (hS:d'.S=d.S) (hsd:d'.sd=d.sd) (hb:∀x,zQE x d val->zQE x d' val)
  (hK:∀x,zQr x d' val->Fr (·=d.S) w x->x.heap.size=w.heap.size->K x):st1 ⟨d.S,o,none⟩ v w K:=by
 refine zQt h.st ho λx hx hbx=>?_
 have hf:Fr (·=d.S) w x:=by rw[hx];exact Fr.cell w _ _ _
 refine hK x ⟨by rw[hS,hbx,hc],hb x (h.bd.fr hf λb κ hb hne e=>?_),by rw[hsd,h.sd]⟩ hf (by rw[hx];simp)
 rw[show b=d.S from e,h.bd.oS]at hb
 exact hne (Option.some.inj hb).symm
structure zQ7(w w':World)(d d':zQs)(val':Nat->List Val):Prop where
 sys:zQr w' d' val'
 fr:Fr (λb=>d.o b ≠ none) w w'
 own:∀b,d'.o b ≠ none->d.o b ≠ none∨w.heap.size<=b
 ptr:d'.S=d.S
theorem zQ7.refl(h:zQr w d val):zQ7 w w d d val:=⟨h,Fr.refl _ _,λ_ h=>.inl h,rfl⟩
theorem zQ7.pu(h:zQr w d val)(hp:Pu w w'):zQ7 w w' d d val:=⟨h.pu hp,Fr.pu hp,λ_ h=>.inl h,rfl⟩
theorem zQ7.trans{w'':World}{d'':zQs}{val' val'':Nat->List Val}(h:zQ7 w w' d d' val')(k:zQ7 w' w'' d' d'' val''):zQ7 w w'' d d'' val'':=by
 refine⟨k.sys,h.fr.trans k.fr λb hb hlt=>(h.own b hb).resolve_right (by omega),λb hb=>?_,k.ptr.trans h.ptr⟩
 rcases k.own b hb with h1|h1
 ·exact h.own b h1
 ·exact .inr (Nat.le_trans h.fr.size h1)
theorem zQ7.putU{val':Nat->List Val}{w'':World}(h:zQ7 w w' d d' val')(hp:Pu w' w''):zQ7 w w'' d d' val':=h.trans (zQ7.pu h.sys hp)
theorem zQ7.cell {val':Nat->List Val} (h:zQr w d val) (h':zQr w' d' val') (hf:Fr (·=d.S) w w') (ho:d'.o=d.o) (hS:d'.S=d.S):zQ7 w w' d d' val':=
 ⟨h',hf.mono λi hi _=>by rw[show i=d.S from hi,h.bd.oS];simp,λb hb=>.inl (by rw[←ho];exact hb),hS⟩
theorem u4{u:Nat}(hu:u<4):(0:Int)<=(u:Int)/\(u:Int)<((4:Nat):Int):=by omega
theorem zYb(u:Int)(w:World):Calls prog 118 #[.int .i64 u] w λe w'=>e=.returned (.bool (isU u))/\w'=w:=by
 refine yZD u w _ (Br.of (λc=>?_) (λc=>?_))
 ·have c:=zQm c
  refine⟨?_,rfl⟩
  rw[isU,decide_eq_true (show(0:Int)<=u by omega),Bool.true_and]
 ·have c:=zQh c
  refine⟨?_,rfl⟩
  rw[isU,decide_eq_false (show ¬(0:Int)<=u by omega),Bool.false_and]
theorem yVd (h:zQr w d val) {u:Nat} (hu:u<4) (hc:(d.ch u).length<=1000000) (ha:(d.ah u).length<=1000000):Calls prog 119 #[d.ptr,.int .i64 (u:Int)] w λe w'=>e=.returned (.bool ((zQa d val).us u).emp)/\Pu w w':=by
 refine yZJ _ _ w _ (zQf λw1 al _=>?_)
 have h1:=h.pu al
 refine⟨(u4 hu).1,(u4 hu).2,d.cs u,h1.uCs hu,(u4 hu).1,(u4 hu).2,d.asv u,h1.uAp hu,?_,al⟩
 rw[h.cs_len hu,h.as_len hu,zQd (by omega) (by omega),Usr.emp,zKQ,zXr]
 congr 2
 rw[xJX,decide_eq_decide];omega
theorem yXD (h:zQr w d val) {u:Nat} (hu:u<4) (k:Int) (ha:(d.ah u).length<=1000000):Calls prog 120 #[d.ptr,.int .i64 (u:Int),.int .i64 k] w λe w'=>e=.returned (.bool (decide (seenR (zQa d val) u k ≠ none)))/\w'=w:=by
 have hal:=h.as_len hu
 have hrl:=h.rs_len
 have e1:((zQa d val).us u).ap.length=(d.ah u).length:=zXr
 have e2:(zQa d val).recs.length=d.rh.length:=by simp[zQa]
 have up:1<=k->k<=d.rh.length->seenR (zQa d val) u k ≠ none:=λa b=>by
  unfold seenR
  rw[if_neg (by omega),if_neg (by omega)]
  split
  ·simp
  ·rw[List.getElem?_eq_getElem (by omega)];simp
 have no:¬k<0->¬(1<=k/\k<=d.rh.length)->seenR (zQa d val) u k=none:=λa b=>by
  unfold seenR
  rw[if_neg a,if_pos (by omega)]
 have ng:k<0->(decide (k >= IntKind.i64.wrap (0 - (((d.asv u).len:Nat):Int)))=decide (seenR (zQa d val) u k ≠ none)):=λa=>by
  rw[zQd (by omega) (by omega),decide_eq_decide]
  unfold seenR
  rw[if_pos a]
  by_cases c:(-k - 1).toNat<((zQa d val).us u).ap.length
  ·rw[List.getElem?_eq_getElem c];simp;omega
  ·rw[List.getElem?_eq_none (by omega)];simp;omega
 have low:Br (decide (k<0)) (∃cL:SV,w.cell? ((((⟨d.S,0,none⟩:Addr).add 3).add ((u:Int).toNat * 4)).add 3)=some (.slice cL.a cL.len cL.cap)/\(Ending.returned (.bool (decide (k >= (IntKind.i64.wrap (0 - ((cL.len:Nat):Int))))))=.returned (.bool (decide (seenR (zQa d val) u k ≠ none)))/\w=w)) (¬(1<=k/\k<=d.rh.length)->Ending.returned (.bool false)=.returned (.bool (decide (seenR (zQa d val) u k ≠ none)))/\w=w):=by
  refine Br.of (λc=>⟨d.asv u,h.uAp hu,by rw[ng (zQm c)],rfl⟩) (λc b=>⟨by rw[no (zQh c) b];rfl,rfl⟩)
 refine yJC _ _ k w _ (Br.of (λc=>⟨d.rs,h.recs,Br.of (λc1=>?_) (λc1=>?_)⟩) (λc=>?_))
 ·have c:=zQm c;have c1:=zQm c1
  exact⟨by rw[decide_eq_true (up (by omega) (by omega))],rfl⟩
 ·have c:=zQm c;have c1:=zQh c1
  refine Br.of (λc2=>?_) (λc2=>⟨by rw[no (zQh c2) (by omega)];rfl,rfl⟩)
  have:=zQm c2;omega
 ·have c:=zQh c
  refine Br.of (λc2=>⟨(u4 hu).1,(u4 hu).2,d.asv u,h.uAp hu,by rw[ng (zQm c2)],rfl⟩) (λc2=>⟨by rw[no (zQh c2) (by omega)];rfl,rfl⟩)
theorem yVb(h:zQr w d val){u:Nat}(hu:u<4):Calls prog 121 #[d.ptr,.int .i64 (u:Int)] w λe w'=>e=.returned (.bool ((zQa d val).us u).rows)/\w'=w:=by
 have e:((zQa d val).us u).rows=(decide (d.mode u=1) || decide (d.mode u=2)):=rfl
 rw[e]
 refine yJ7 _ _ w _ ⟨(u4 hu).1,(u4 hu).2,_,h.uMode hu,Br.of (λc=>⟨?_,rfl⟩) (λc=>⟨(u4 hu).1,(u4 hu).2,_,h.uMode hu,?_,rfl⟩)⟩
 ·rw[decide_eq_true (zQA c)];rfl
 ·rw[decide_eq_false (zQo c),Bool.false_or];rfl
def zXw(l:List Chg)(k:Int):Option Nat:=l.findIdx? λc=>decide (c.1=k)
theorem zW3:∀{l:List Chg} {k:Int},AL.get l k=(zXw l k).bind λi=>l[i]?.map (·.2)
 | [],k=>rfl
 | (a,b) :: l,k=>by
  simp only[AL.get,zXw,List.findIdx?_cons]
  by_cases e:a=k
  ·simp[e]
  ·rw[if_neg e,zW3]
   simp only[e,decide_false,Bool.false_eq_true,if_false,zXw]
   cases l.findIdx? λc=>decide (c.1=k) <;> rfl
theorem zK6 (h:zQr w d val) {u:Nat} (hu:u<4) (k:Int) (hc:(d.ch u).length<=1000000):Calls prog 130 #[d.ptr,.int .i64 (u:Int),.int .i64 k] w λe w'=>e=.returned (.int .i64 (match zXw (d.ch u) k with|some i=>(i:Int)|none=>-1))/\w'=w:=by
 refine yJl _ _ k w _ ?_
 have hcl:=h.cs_len hu
 refine zQ1 (d.ch u).length (λi t w'=>t=(i:Int)/\w'=w/\∀c ∈ (d.ch u).take i,decide (c.1=k)=false) ⟨rfl,rfl,by simp⟩ ?_
 rintro i J t w1 hi ⟨ht,rfl,hno⟩ hJ
 obtain rfl:t=(i:Int):=ht
 refine⟨(u4 hu).1,(u4 hu).2,d.cs u,h.uCs hu,Br.of (λd1=>?_) (λd1=>?_)⟩
 ·have wj:i<(d.ch u).length:=by have:=zQm d1;omega
  obtain⟨c,hcx⟩:=zXe wj
  obtain⟨a,ea,_,c0⟩:=(h.cs_row hu).elem zXC hcx (o:=0) (v:=.int .i64 c.1) rfl
  rw[zKk]at c0
  refine⟨(u4 hu).1,(u4 hu).2,d.cs u,h.uCs hu,a,ea,by omega,by omega,c.1,c0,Br.of (λd2=>?_) (λd2=>?_)⟩
  ·have d2:=zQA d2
   have:zXw (d.ch u) k=some i:=by
    unfold zXw
    rw[List.findIdx?_eq_some_iff_getElem]
    obtain⟨hi3,e3⟩:=List.getElem?_eq_some_iff.1 hcx
    refine⟨hi3,by rw[e3];simp[d2],λj hj=>?_⟩
    have:=hno (d.ch u)[j] (List.mem_iff_getElem.2 ⟨j,by simp;omega,by simp⟩)
    simpa using this
   exact⟨by rw[this],rfl⟩
  ·have d2:=zQo d2
   rw[zQd (by omega) (by omega)]
   refine hJ _ _ wj ⟨by omega,rfl,λx hx=>?_⟩
   rw[zQP hcx,List.mem_append]at hx
   rcases hx with hx|hx
   ·exact hno x hx
   ·simp at hx;rw[hx];simp[d2]
 ·have wj:i=(d.ch u).length:=by have:=zQh d1;omega
  subst wj
  rw[List.take_length]at hno
  have:zXw (d.ch u) k=none:=by unfold zXw;rw[List.findIdx?_eq_none_iff];exact hno
  exact⟨by rw[this],rfl⟩
theorem xJU (h:zQr w d val) (hI:Inv (zQa d val)) (u m:Int):Calls prog 62 #[d.ptr,.int .i64 u,.int .i64 m] w λe w'=>e=.returned (.int .i64 (modeC u m (zQa d val)))/\∃d',zQ7 w w' d d' val/\zQa d' val=modeS u m (zQa d val):=by
 refine yJT _ u m w _ (Calls.mono (zYb u w) ?_)
 rintro e w1 ⟨rfl,rfl⟩
 have bad:∀{w2:World} (n:Int),Pu w1 w2->n ≠ 0->modeC u m (zQa d val)=n->Ending.returned (.int .i64 n)=.returned (.int .i64 (modeC u m (zQa d val)))/\∃d',zQ7 w1 w2 d d' val/\zQa d' val=modeS u m (zQa d val):=λ{w2} n hp hn hC=>⟨by rw[hC],d,zQ7.pu h hp,by rw[modeS,hC,if_neg hn]⟩
 refine⟨_,rfl,Br.of (λc=>?_) (λc=>?_)⟩
 ·have c:isU u=false:=by simpa using c
  exact bad 1 (Pu.refl _) (by decide) (by rw[modeC,if_pos (by rw[c];simp)])
 have hu:isU u=true:=by simpa using c
 refine Br.of (λc1=>bad 1 (Pu.refl _) (by decide) (by rw[modeC,if_neg (by simp[hu]),if_pos (.inl (zQm c1))])) (λc1=>Br.of (λc2=>bad 1 (Pu.refl _) (by decide) (by rw[modeC,if_neg (by simp[hu]),if_pos (.inr (zQm c2))])) (λc2=>?_))
 have c1:=zQh c1
 have c2:=zQh c2
 obtain⟨n,rfl,hn⟩:=zQY hu
 refine(yVd h hn (by have:=hI.chl hn;omega) (by have:=hI.ah hn;omega)).mono ?_
 rintro e w2 ⟨rfl,aj⟩
 refine⟨_,rfl,Br.of (λc3=>bad 9 aj (by decide) ?_) (λc3=>?_)⟩
 ·rw[modeC,if_neg (by simp[hu]),if_neg (by omega),if_pos (by simpa using c3)]
 have hC:modeC (n:Int) m (zQa d val)=0:=by
  have c3:((zQa d val).us n).emp=true:=by simpa using c3
  rw[modeC,if_neg (by simp[hu]),if_neg (by omega),if_neg (by rw[zQI,c3];simp)]
 refine⟨(u4 hn).1,(u4 hn).2,?_⟩
 rw[zJa]
 refine(h.pu aj).own (d':=d.withMode n m) (by omega) (zWV hn m) rfl rfl (λx hb=>hb.same _ _) λw3 h3 bP pL=>?_
 exact⟨by rw[hC],_,(zQ7.pu h aj).trans (zQ7.cell (h.pu aj) h3 bP rfl rfl),by rw[modeS,if_pos hC,zWt,zQI]⟩
end Go.Proofs.YtcihcbfcgjepfaaGreatDoor
