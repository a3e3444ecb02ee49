import Derived.Test.YtaeecpjhfmcliaaGreatDoorLgOwE
import Derived.Test.YtaeecpjhfmcliaaGreatDoorLgOwC
import Derived.Test.YtaeecpjhfmcliaaGreatDoorShFourteen
import Derived.Test.YtaeecpjhfmcliaaGreatDoorShTwentyOne
import Derived.Test.YtaeecpjhfmcliaaGreatDoorShTwentyTwo
import Derived.Test.YtaeecpjhfmcliaaGreatDoorShTwentyFive
import Derived.Test.YtaeecpjhfmcliaaGreatDoorShTwentyNine
import Derived.Test.YtaeecpjhfmcliaaGreatDoorLgPrB
/- The log: what bytes of the log tell, record by record; what is cut off or put behind; recoveries. In plain words. No condition but those stated. -/
set_option linter.unusedVariables false
set_option linter.unusedSimpArgs false
noncomputable section
namespace Go.Proofs.YtaeecpjhfmcliaaGreatDoor
open Go.Sh Go.RowKit Tryz
def zJs(cur:Option Tbl)(a:Bool)(k:UInt8)(body:List UInt8):Option Tbl × Bool:=
 if k=119 then(zXA body,true)else if k ≠ 99 then(none,a)else(cur.bind λt=>zQX t body,a)
theorem zZA{cur:Option Tbl}{a:Bool}{rest:List UInt8}(h:zZ2 rest=none):zKh cur a rest=(cur,rest,a):=by
 rw[zKh];split
 ·rfl
 ·next hx=>rw[h]at hx;cases hx
theorem zZ0 {cur:Option Tbl} {a:Bool} {rest body more:List UInt8} {k:UInt8} (h:zZ2 rest=some (k,body,more)):zKh cur a rest=zKh (zJs cur a k body).1 (zJs cur a k body).2 more:=by
 rw[zKh];split
 ·next hx=>rw[h]at hx;cases hx
 ·next k' body' more' hx=>
  rw[h]at hx
  simp only[Option.some.injEq,Prod.mk.injEq]at hx
  obtain⟨rfl,rfl,rfl⟩:=hx
  unfold zJs
  split
  ·rfl
  ·split <;> rfl
theorem yJe{M:Option Tbl->Bool->List UInt8->Prop}(h0:∀cur a rest,zZ2 rest=none->M cur a rest)
  (h1:∀cur a rest k body more,zZ2 rest=some (k,body,more)->M (zJs cur a k body).1 (zJs cur a k body).2 more->M cur a rest):∀cur a rest,M cur a rest:=by
 have key:∀n cur a rest,rest.length=n->M cur a rest:=by
  intro n
  induction n using Nat.strongRecOn with
  | _ n ih=>
   intro cur a rest hn
   cases h:zZ2 rest with
   | none=>exact h0 cur a rest h
   | some x=>
    obtain⟨k,body,more⟩:=x
    exact h1 cur a rest k body more h (ih more.length (by rw[←hn];exact yQV h) _ _ more rfl)
 exact λcur a rest=>key _ cur a rest rfl
theorem seg{b x:List UInt8}{m i j:Nat}(h:i+j<=m)(hm:m<=b.length):((b.take m ++ x).drop i).take j=(b.drop i).take j:=by
 have hl:(b.take m).length=m:=by rw[List.length_take];omega
 rw[List.drop_append_of_le_length (by omega),List.take_append_of_le_length (by rw[List.length_drop];omega),List.drop_take,List.take_take,Nat.min_eq_left (by omega)]
theorem yJ4 {b body more:List UInt8} {k:UInt8} (h:zZ2 b=some (k,body,more)):∃front,b=front ++ more/\9<=front.length/\∀x,zZ2 (front ++ x)=some (k,body,x):=by
 unfold zZ2 at h
 split at h
 ·cases h
 rename_i h9
 split at h
 ·cases h
 rename_i hn
 split at h
 ·cases h
 rename_i hs
 simp only[Option.some.injEq,Prod.mk.injEq]at h
 obtain⟨rfl,rfl,rfl⟩:=h
 obtain⟨n,en⟩:∃n,n=zQW ((b.drop 1).take 4):=⟨_,rfl⟩
 rw[←en]at hn hs ⊢
 have hm:9+n<=b.length:=by omega
 have hl:(b.take (9+n)).length=9+n:=by rw[List.length_take];omega
 refine⟨b.take (9+n),(List.take_append_drop _ _).symm,by omega,λx=>?_⟩
 have e1:(((b.take (9+n)) ++ x).drop 1).take 4=(b.drop 1).take 4:=seg (by omega) hm
 have e2:(((b.take (9+n)) ++ x).drop (5+n)).take 4=(b.drop (5+n)).take 4:=seg (by omega) hm
 have e3:((b.take (9+n)) ++ x).take (5+n)=b.take (5+n):=seg (i:=0) (by omega) hm
 have e4:(((b.take (9+n)) ++ x).drop 5).take n=(b.drop 5).take n:=seg (by omega) hm
 have e5:((b.take (9+n)) ++ x).drop (9+n)=x:=by
  conv=>lhs;rw[←hl]
  rw[hl]
  have:=List.drop_left (l₁:=b.take (9+n)) (l₂:=x)
  rw[hl]at this;exact this
 have e6:((b.take (9+n)) ++ x).headD 0=b.headD 0:=by
  cases b with
  | nil=>simp at hm
  | cons c b=>rw[show 9+n=(8+n)+1 by omega];rfl
 unfold zZ2
 rw[e1,←en,if_neg (by rw[List.length_append];omega),if_neg (by rw[List.length_append];omega),e2,e3,if_neg hs,e4,e5,e6]
theorem yQQ:∀(cur:Option Tbl) (a:Bool) (rest:List UInt8),zZ2 (zKh cur a rest).2.1=none/\∃front,rest=front ++ (zKh cur a rest).2.1/\∀x,zKh cur a (front ++ x)=zKh (zKh cur a rest).1 (zKh cur a rest).2.2 x:=by
 refine yJe (λcur a rest h=>?_) (λcur a rest k body more h ih=>?_)
 ·rw[zZA h]
  exact⟨h,[],rfl,λx=>rfl⟩
 ·rw[zZ0 h]
  obtain⟨h1,f,h2,h3⟩:=ih
  obtain⟨g,g1,_,g3⟩:=yJ4 h
  refine⟨h1,g ++ f,?_,λx=>?_⟩
  ·rw[List.append_assoc,←h2];exact g1
  ·rw[List.append_assoc,zZ0 (g3 (f ++ x)),h3]
theorem yYt:∀(cur:Option Tbl) (a:Bool) (rest:List UInt8),a=false->(zKh cur a rest).2.2=true->∀cur',zKh cur' a rest=zKh cur a rest:=by
 refine yJe (λcur a rest h ha hb=>?_) (λcur a rest k body more h ih ha hb cur'=>?_)
 ·rw[zZA h]at hb
  rw[show a=true from hb]at ha;cases ha
 ·rw[zZ0 h]at hb
  rw[zZ0 h,zZ0 h]
  by_cases hk:k=119
  ·have e:∀c,zJs c a k body=(zXA body,true):=λc=>by unfold zJs;rw[if_pos hk]
   rw[e,e]
  ·have e:∀c,(zJs c a k body).2=a:=λc=>by
    unfold zJs;rw[if_neg hk];split <;> rfl
   rw[e]at hb ih
   rw[e,e]
   exact ih ha hb _
theorem yK1{cur:Option Tbl}{a:Bool}{k:UInt8}{body x:List UInt8}(hb:body.length<4294967296):zKh cur a (zZV k body ++ x)=zKh (zJs cur a k body).1 (zJs cur a k body).2 x:=zZ0 (yVP hb)
theorem zWg {cur t:Option Tbl} {a b:Bool} {l:List UInt8} (h:zKh cur a l=(t,[],b)) (x:List UInt8):zKh cur a (l ++ x)=zKh t b x:=by
 obtain⟨_,f,h2,h3⟩:=yQQ cur a l
 rw[h]at h2 h3
 simp only[List.append_nil]at h2
 subst h2
 exact h3 x
theorem zYu:zZ2 []=none:=rfl
theorem Fls.put1(F:Fls)(b:List UInt8):F.put 1 b=(F.1,b):=rfl
theorem zK7(F:Fls)(x:Wr):zQP F x=F.put x.file ((F.get x.file).take (min x.at_ (F.get x.file).length).toNat ++ x.b):=by
 unfold zQP zJb
 rw[if_neg (by omega),List.take_of_length_le (l:=x.b) (by omega)]
theorem zJw(F:Fls)(x:Wr){k:Int}(h:k<=0):zJb F x k=F:=by unfold zJb;rw[if_pos h]
theorem zKj(F:Fls)(x:Wr){k:Int}(h:0<k):zJb F x k=F.put x.file ((F.get x.file).take (min x.at_ (F.get x.file).length).toNat ++ x.b.take k.toNat):=by unfold zJb;rw[if_neg (by omega)]
end Go.Proofs.YtaeecpjhfmcliaaGreatDoor
/- The log: what a record of changes makes of a table: of the table before, the table behind. In plain words. No condition but those stated. -/
namespace Go.Proofs.YtaeecpjhfmcliaaGreatDoor
open Go.Sh Go.RowKit Tryz
theorem zWh{t:Tbl}(hv:zQh t=0):zXA (zQk t)=some t:=by
 cases q:zXA (zQk t)with
 | none=>exact absurd rfl (yQo q t hv)
 | some u=>obtain⟨q1,q2⟩:=zXy q;rw[yVF q1 hv q2]
theorem yKL{t:Tbl}(hp:zQV t.page=true)(hf:zQT t.fields=0){r:Rec}(hr:zQ1 t.fields t.page r=0):yX8 t (zJI zQv t.fields r)=some r:=by
 have hv:zQh { t with recs:=[r] }=0:=zK9 hp hf (by simp) λx hx=>by rw[List.mem_singleton.1 hx];exact hr
 have e:zJC { t with recs:=[⟨false,zJm t.fields⟩] } ++ zJI zQv t.fields r ++ [26]=zQk { t with recs:=[r] }:=by
  unfold zQk
  rw[List.flatMap_cons,List.flatMap_nil,List.append_nil]
  rfl
 unfold yX8
 rw[e,zWh hv]
 rfl
theorem yQt{t:Tbl}(hp:zQV t.page=true)(hf:zQT t.fields=0){b:List UInt8}{r:Rec}(h:yX8 t b=some r):zQ1 t.fields t.page r=0:=by
 unfold yX8 at h
 obtain⟨x,h1,h2⟩:=Option.bind_eq_some_iff.1 h
 obtain⟨hx,hb⟩:=zXy h1
 rw[List.append_assoc]at hb
 obtain⟨e1,e2⟩:=xJq (t:={ t with recs:=[⟨false,zJm t.fields⟩] }) hx hp hf hb
 have hr:r ∈ x.recs:=List.mem_of_mem_head? (by rw[h2];rfl)
 have:=(zQM.of hx).recs r hr
 rw[e1,e2]at this
 exact this
theorem yQM(t:Tbl)(size:Nat)(recs:List Rec):goC t size recs []=some recs:=by rw[goC,dif_pos rfl]
theorem yXj {t:Tbl} {size:Nat} {recs:List Rec} {rest:List UInt8} (h:rest ≠ []):goC t size recs rest=(match yX8 t ((rest.drop 2).take size)with
  | none=>none
  | some r=>if zQW (rest.take 2)<1∨recs.length+1<zQW (rest.take 2)∨300<zQW (rest.take 2)then none
   else goC t size (if recs.length<zQW (rest.take 2)then recs ++ [r]else recs.set (zQW (rest.take 2) - 1) r) (rest.drop (size+2))):=by
 conv=>lhs;rw[goC]
 rw[dif_neg h]
 all_goals (cases yX8 t ((rest.drop 2).take size) <;> rfl)
theorem xQE{t:Tbl}(hp:zQV t.page=true)(hf:zQT t.fields=0){size:Nat}:∀(n:Nat) (rest:List UInt8) (recs l:List Rec),rest.length<=n->recs.length<=300->(∀r ∈ recs,zQ1 t.fields t.page r=0)->goC t size recs rest=some l->
  l.length<=300/\∀r ∈ l,zQ1 t.fields t.page r=0:=by
 intro n
 induction n with
 | zero=>
  intro rest recs l hn hl hr h
  obtain rfl:rest=[]:=List.eq_nil_of_length_eq_zero (by omega)
  rw[yQM]at h;cases h
  exact⟨hl,hr⟩
 | succ n ih=>
  intro rest recs l hn hl hr h
  by_cases h0:rest=[]
  ·subst h0
   rw[yQM]at h;cases h
   exact⟨hl,hr⟩
  rw[yXj h0]at h
  split at h
  ·cases h
  rename_i r q
  split at h
  ·cases h
  rename_i hk
  have hpos:=List.length_pos_iff.2 h0
  refine ih _ _ _ (by rw[List.length_drop];omega) ?_ ?_ h
  ·split
   ·rw[List.length_append,List.length_singleton];omega
   ·rw[List.length_set];exact hl
  ·intro x hx
   have hrv:=yQt hp hf q
   split at hx
   ·rcases List.mem_append.1 hx with hx|hx
    ·exact hr x hx
    ·rw[List.mem_singleton.1 hx];exact hrv
   ·rcases List.mem_or_eq_of_mem_set hx with hx|rfl
    ·exact hr x hx
    ·exact hrv
theorem zKV{t u:Tbl}{body:List UInt8}(hv:zQh t=0)(h:zQX t body=some u):zQh u=0:=by
 have hR:=zQM.of hv
 unfold zQX at h
 split at h
 ·cases h
 obtain⟨l,h1,h2⟩:=Option.bind_eq_some_iff.1 h
 split at h2
 ·cases h2
  obtain⟨g1,g2⟩:=xQE hR.page hR.vf _ _ _ _ (Nat.le_refl _) hR.n300 hR.recs h1
  exact zK9 hR.page hR.vf g1 g2
 ·cases h2
theorem yVw:∀(cur:Option Tbl) (a:Bool) (rest:List UInt8),(∀t,cur=some t->zQh t=0)->∀t,(zKh cur a rest).1=some t->zQh t=0:=by
 refine yJe (λcur a rest h hc t ht=>?_) (λcur a rest k body more h ih hc t ht=>?_)
 ·rw[zZA h]at ht;exact hc t ht
 ·rw[zZ0 h]at ht
  refine ih (λu hu=>?_) t ht
  unfold zJs at hu
  split at hu
  ·exact(zXy hu).1
  split at hu
  ·cases hu
  ·obtain⟨x,h1,h2⟩:=Option.bind_eq_some_iff.1 hu
   exact zKV (hc x h1) h2
theorem yZM {F:Fls} {t:Tbl} (h:(zQR F).1=some t):zQh t=0:=yVw _ _ _ (λu hu=>(zXy hu).1) t h
theorem yJX{n:Nat}(h:n<65536)(rest:List UInt8):zQW ((zJd n 2 ++ rest).take 2)=n:=by
 rw[List.take_append_of_le_length (by rw[zQ6];omega),List.take_of_length_le (by rw[zQ6];omega),zJz,Nat.mod_eq_of_lt h]
theorem zYH(n:Nat)(rest:List UInt8):(zJd n 2 ++ rest).drop 2=rest:=by
 have:=List.drop_left (l₁:=zJd n 2) (l₂:=rest)
 rw[zQ6]at this;exact this
def yJp(u:Tbl)(i:Nat):List UInt8:=zJd (i+1) 2 ++ (match u.recs[i]? with
 | some r=>zJI zQv u.fields r
 | none=>[])
theorem xZq{t u:Tbl}(ht:zQh t=0)(hu:zQh u=0)(hp:u.page=t.page)(hf:u.fields=t.fields)(hn:t.recs.length<=u.recs.length) :
  ∀(d j:Nat),j+d=u.recs.length->goC t (zXG t.fields).toNat (u.recs.take j ++ t.recs.drop j) (((List.range' j d).filter (zV2 t.recs u.recs)).flatMap (yJp u))=some u.recs:=by
 have hT:=zQM.of ht
 have hU:=zQM.of hu
 intro d
 induction d with
 | zero=>
  intro j hj
  rw[List.range'_zero,List.filter_nil,List.flatMap_nil,yQM,List.take_of_length_le (by omega),List.drop_eq_nil_of_le (by omega),List.append_nil]
 | succ d ih=>
  intro j hj
  have cJ:=hU.n300
  obtain⟨r,hr⟩:=zQK (l:=u.recs) (k:=j) (by omega)
  have rB:u.recs.take (j+1)=u.recs.take j ++ [r]:=zQC hr
  have hlen:(u.recs.take j).length=j:=by rw[List.length_take];omega
  rw[List.range'_succ]
  by_cases hd:zV2 t.recs u.recs j=true
  ·rw[List.filter_cons_of_pos hd,List.flatMap_cons]
   obtain⟨X,hX⟩:∃X,X=((List.range' (j+1) d).filter (zV2 t.recs u.recs)).flatMap (yJp u):=⟨_,rfl⟩
   rw[←hX]
   have hrv:zQ1 t.fields t.page r=0:=by rw[←hp,←hf];exact hU.recs r (List.mem_of_getElem? hr)
   have eB:yJp u j=zJd (j+1) 2 ++ zJI zQv t.fields r:=by unfold yJp;rw[hr,hf]
   have hrl:(zJI zQv t.fields r).length=(zXG t.fields).toNat:=by
    have:=zKE (zXl hT.vf).2.1 (zX7.of (zXl hT.vf).2.1 hrv)
    omega
   have e1:zQW ((yJp u j ++ X).take 2)=j+1:=by rw[eB,List.append_assoc];exact yJX (by omega) _
   have e2:((yJp u j ++ X).drop 2).take (zXG t.fields).toNat=zJI zQv t.fields r:=by
    rw[eB,List.append_assoc,zYH,←hrl,List.take_left]
   have e3:(yJp u j ++ X).drop ((zXG t.fields).toNat+2)=X:=by
    rw[Nat.add_comm,←List.drop_drop,eB,List.append_assoc,zYH,←hrl,List.drop_left]
   have hne:yJp u j ++ X ≠ []:=λe=>by
    have:=congrArg List.length e
    rw[eB]at this
    simp[zQ6]at this
   rw[yXj hne,e2,yKL hT.page hT.vf hrv]
   dsimp only
   rw[e1,e3]
   have hll:(u.recs.take j ++ t.recs.drop j).length=j+(t.recs.length - j):=by rw[List.length_append,hlen,List.length_drop]
   rw[if_neg (by omega)]
   have key:(if (u.recs.take j ++ t.recs.drop j).length<j+1 then u.recs.take j ++ t.recs.drop j ++ [r]else(u.recs.take j ++ t.recs.drop j).set (j+1 - 1) r)=u.recs.take (j+1) ++ t.recs.drop (j+1):=by
    by_cases hlt:t.recs.length<=j
    ·rw[if_pos (by omega),List.drop_eq_nil_of_le hlt,List.drop_eq_nil_of_le (show t.recs.length<=j+1 by omega),List.append_nil,List.append_nil,rB]
    ·rw[if_neg (by omega),Nat.add_sub_cancel,rB]
     obtain⟨y,hy⟩:=zQK (l:=t.recs) (k:=j) (by omega)
     rw[zXR hy,List.set_append,if_neg (by omega),hlen,Nat.sub_self,List.set_cons_zero,List.append_assoc]
     rfl
   rw[key,hX]
   exact ih (j+1) (by omega)
  ·rw[List.filter_cons_of_neg hd]
   have he:t.recs[j]?=u.recs[j]?:=by
    unfold zV2 at hd
    simpa using hd
   rw[hr]at he
   have:u.recs.take j ++ t.recs.drop j=u.recs.take (j+1) ++ t.recs.drop (j+1):=by rw[zXR he,rB,List.append_assoc];rfl
   rw[this]
   exact ih (j+1) (by omega)
theorem yJO{t u:Tbl}(hu:zQh u=0)(hf:u.fields=t.fields){l:List Nat}(h:∀i ∈ l,i<u.recs.length):(l.flatMap (yJp u)).length=l.length * ((zXG t.fields).toNat+2):=by
 have hU:=zQM.of hu
 induction l with
 | nil=>simp
 | cons i l ih=>
  obtain⟨r,hr⟩:=zQK (h i List.mem_cons_self)
  have hrl:=zKE (zXl hU.vf).2.1 (zX7.of (zXl hU.vf).2.1 (hU.recs r (List.mem_of_getElem? hr)))
  rw[hf]at hrl
  rw[List.flatMap_cons,List.length_append,ih λk hk=>h k (List.mem_cons_of_mem _ hk),List.length_cons,Nat.succ_mul]
  have:(yJp u i).length=2+(zJI zQv t.fields r).length:=by unfold yJp;rw[hr,hf,List.length_append,zQ6]
  omega
theorem zVD{t u:Tbl}(l:List Nat)(h:∀i ∈ l,i<u.recs.length):zXr u (l.map λ(i:Nat)=>(i:Int)+1)=zJd u.recs.length 2 ++ l.flatMap (yJp u):=by
 unfold zXr
 congr 1
 induction l with
 | nil=>rfl
 | cons i l ih=>
  rw[List.map_cons,List.flatMap_cons,List.flatMap_cons,ih λk hk=>h k (List.mem_cons_of_mem _ hk)]
  congr 1
  have:=h i List.mem_cons_self
  rw[if_neg (by omega)]
  unfold yJp xZf
  rw[show((i:Int)+1).toNat=i+1 by omega,show((i:Int)+1 - 1).toNat=i by omega]
  all_goals (cases u.recs[i]? <;> rfl)
theorem xJ1 {a b:List Rec} {i:Nat} (h:i ∈ (List.range (max a.length b.length)).filter (zV2 a b)) (hn:a.length<=b.length):i<b.length:=by
 have:=List.mem_range.1 (List.mem_filter.1 h).1
 omega
theorem yQa{t u:Tbl}(ht:zQh t=0)(hu:zQh u=0)(hp:u.page=t.page)(hf:u.fields=t.fields)(hn:t.recs.length<=u.recs.length) :
  zQX t (zXr u (zKX t.recs u.recs (max t.recs.length u.recs.length)))=some u:=by
 have hU:=zQM.of hu
 have cJ:=hU.n300
 have hall:∀i ∈ (List.range (max t.recs.length u.recs.length)).filter (zV2 t.recs u.recs),i<u.recs.length:=λi hi=>xJ1 hi hn
 have e:zXr u (zKX t.recs u.recs (max t.recs.length u.recs.length))=zJd u.recs.length 2 ++ ((List.range (max t.recs.length u.recs.length)).filter (zV2 t.recs u.recs)).flatMap (yJp u):=zVD (t:=t) _ hall
 have hl:=yJO (t:=t) hu hf hall
 have hg:=xZq ht hu hp hf hn u.recs.length 0 (by omega)
 rw[List.take_zero,List.drop_zero,List.nil_append,←List.range_eq_range']at hg
 rw[Nat.max_eq_right hn]at e hl ⊢
 have hsub:(zXr u (zKX t.recs u.recs u.recs.length)).length - 2=((List.range u.recs.length).filter (zV2 t.recs u.recs)).length * ((zXG t.fields).toNat+2):=by
  rw[e,List.length_append,zQ6,hl];omega
 have h2:2<=(zXr u (zKX t.recs u.recs u.recs.length)).length:=by rw[e,List.length_append,zQ6];omega
 unfold zQX
 rw[if_neg (by rw[hsub];exact λh=>h.elim (λh=>by omega) (λh=>h (Nat.mul_mod_left _ _)))]
 rw[e,zYH,hg,yJX (by omega)]
 simp only[Option.bind_some,if_pos]
 obtain⟨p,f,r⟩:=u
 obtain⟨p',f',r'⟩:=t
 dsimp only at hp hf
 rw[hp,hf]
theorem yQ0{t u:Tbl}(hu:zQh u=0)(hn:t.recs.length<=u.recs.length):(zXr u (zKX t.recs u.recs (max t.recs.length u.recs.length))).length<=650000:=by
 have hU:=zJf.of hu
 have cJ:=hU.m300
 have hw:=hU.w2
 have hall:∀i ∈ (List.range (max t.recs.length u.recs.length)).filter (zV2 t.recs u.recs),i<u.recs.length:=λi hi=>xJ1 hi hn
 have e:zXr u (zKX t.recs u.recs (max t.recs.length u.recs.length))=zJd u.recs.length 2 ++ ((List.range (max t.recs.length u.recs.length)).filter (zV2 t.recs u.recs)).flatMap (yJp u):=zVD (t:=t) _ hall
 have hl:=yJO (t:=u) hu rfl hall
 have hc:((List.range (max t.recs.length u.recs.length)).filter (zV2 t.recs u.recs)).length<=300:=Nat.le_trans (List.length_filter_le _ _) (by rw[List.length_range];omega)
 rw[e,List.length_append,zQ6,hl]
 have:=Nat.mul_le_mul hc (show(zXG u.fields).toNat+2<=2002 by omega)
 omega
theorem xYk {a b:List Rec} (h:zKX a b (max a.length b.length)=[]):a=b:=by
 unfold zKX at h
 have h1:=List.map_eq_nil_iff.1 h
 refine List.ext_getElem? λi=>?_
 by_cases hi:i<max a.length b.length
 ·by_cases hd:zV2 a b i=true
  ·exact absurd (List.mem_filter.2 ⟨List.mem_range.2 hi,hd⟩) (by rw[h1];exact List.not_mem_nil)
  ·unfold zV2 at hd
   simpa using hd
 ·rw[List.getElem?_eq_none (by omega),List.getElem?_eq_none (by omega)]
theorem xZx(a:List Rec):zKX a a (max a.length a.length)=[]:=by
 unfold zKX
 rw[List.filter_eq_nil_iff.2 λi _=>by unfold zV2;simp]
 rfl
end Go.Proofs.YtaeecpjhfmcliaaGreatDoor
/- The log: a store with its files: what each call leaves; what files tell behind any fall. In plain words. No condition but those stated. -/
namespace Go.Proofs.YtaeecpjhfmcliaaGreatDoor
open Go.Sh Go.RowKit Tryz
def zXD(F:Fls)(W:List Wr)(n:Nat):Fls:=(W.take n).foldl zQP F
def lst(P:List Int)(n:Nat):Nat:=(P.takeWhile λp=>decide (p<=(n:Int))).length
theorem yJt {P:List Int} {n:Nat} (h:∀p ∈ P,p<=(n:Int)):lst P n=P.length:=by
 unfold lst
 induction P with
 | nil=>rfl
 | cons p P ih=>
  rw[List.takeWhile_cons,if_pos (decide_eq_true (h p List.mem_cons_self)),List.length_cons,List.length_cons,ih λq hq=>h q (List.mem_cons_of_mem _ hq)]
theorem xXu(P:List Int)(n:Nat):lst P n<=P.length:=List.IsPrefix.length_le (List.takeWhile_prefix _)
theorem xJx {P:List Int} {n:Nat} {q:Int} (h:(n:Int)<q):lst (P ++ [q]) n=lst P n:=by
 unfold lst
 have hq:decide (q<=(n:Int))=false:=by simp;omega
 induction P with
 | nil=>simp[hq]
 | cons p P ih=>
  rw[List.cons_append,List.takeWhile_cons,List.takeWhile_cons]
  split
  ·rw[List.length_cons,List.length_cons,ih]
  ·rfl
structure yX6(F:Fls)(W:List Wr)(P:List Int)(D:List Tbl):Prop where
 len:P.length+1=D.length
 le:∀p ∈ P,1<=p/\p<=(W.length:Int)
 asc:P.Pairwise (· < ·)
 at_:∀n,n<=W.length->∃t,D[lst P n]?=some t/\(zQR (zXD F W n)).1=some t
 mid:∀n x,W[n]?=some x->∀k,∃t,(zQR (zJb (zXD F W n) x k)).1=some t/\(D[lst P n]?=some t∨D[lst P (n+1)]?=some t)
 one:∀n,lst P (n+1)<=lst P n+1
 adj:∀(j:Nat) a b,D[j]?=some a->D[j+1]?=some b->a ≠ b
variable {F : Fls} {W : List Wr} {P : List Int} {D : List Tbl} {t t' : Tbl} {x : Wr}
theorem zZw(F:Fls)(W:List Wr)(x:Wr){n:Nat}(h:n<=W.length):zXD F (W ++ [x]) n=zXD F W n:=by
 unfold zXD;rw[List.take_append_of_le_length h]
theorem zX9(F:Fls)(W:List Wr)(x:Wr):zXD F (W ++ [x]) (W.length+1)=zQP (zXD F W W.length) x:=by
 unfold zXD
 rw[List.take_of_length_le (by simp),List.take_length,List.foldl_append]
 rfl
theorem yX6.lstW(h:yX6 F W P D):lst P W.length=P.length:=yJt λp hp=>(h.le p hp).2
theorem yX6.start (h:(zQR F).1=some t):yX6 F [] [] [t] where
 len:=rfl
 le:=λp hp=>absurd hp List.not_mem_nil
 asc:=List.Pairwise.nil
 at_:=λn hn=>⟨t,rfl,by rw[show n=0 by simpa using hn];exact h⟩
 mid:=λn x hx=>by simp at hx
 one:=λn=>by simp[lst]
 adj:=λj a b _ hb=>by simp at hb
theorem yX6.lastD(h:yX6 F W P D)(hl:D.getLast?=some t):D[P.length]?=some t:=by
 rw[List.getLast?_eq_getElem?]at hl
 rw[←hl,←h.len];simp
theorem yX6.same (h:yX6 F W P D) (hl:D.getLast?=some t) (hk:∀k,(zQR (zJb (zXD F W W.length) x k)).1=some t):yX6 F (W ++ [x]) P D where
 len:=h.len
 le:=λp hp=>⟨(h.le p hp).1,by have:=(h.le p hp).2;rw[List.length_append,List.length_singleton];omega⟩
 asc:=h.asc
 at_:=λn hn=>by
  rw[List.length_append,List.length_singleton]at hn
  rcases Nat.lt_or_ge W.length n with h1|h1
  ·obtain rfl:n=W.length+1:=by omega
   refine⟨t,?_,?_⟩
   ·rw[yJt λp hp=>by have:=(h.le p hp).2;omega];exact h.lastD hl
   ·rw[zX9];exact hk _
  ·rw[zZw F W x h1];exact h.at_ n h1
 mid:=λn y hy k=>by
  rcases Nat.lt_trichotomy n W.length with h1|h1|h1
  ·rw[List.getElem?_append_left h1]at hy
   rw[zZw F W x (by omega)];exact h.mid n y hy k
  ·subst h1
   rw[List.getElem?_append_right (Nat.le_refl _),Nat.sub_self]at hy
   simp at hy;subst hy
   rw[zZw F W x (Nat.le_refl _)]
   exact⟨t,hk k,.inl (by rw[h.lstW];exact h.lastD hl)⟩
  ·rw[List.getElem?_eq_none (by rw[List.length_append,List.length_singleton];omega)]at hy;cases hy
 one:=h.one
 adj:=h.adj
theorem yX6.new (h:yX6 F W P D) (hl:D.getLast?=some t) (hne:t ≠ t') (hw:(zQR (zQP (zXD F W W.length) x)).1=some t')
  (hk:∀k,(zQR (zJb (zXD F W W.length) x k)).1=some t∨(zQR (zJb (zXD F W W.length) x k)).1=some t'):yX6 F (W ++ [x]) (P ++ [(W.length:Int)+1]) (D ++ [t']):=by
 have hlen:=h.len
 have hq:∀n,n<=W.length->lst (P ++ [(W.length:Int)+1]) n=lst P n:=λn hn=>xJx (by omega)
 have vT:∀n,W.length<n->lst (P ++ [(W.length:Int)+1]) n=P.length+1:=λn hn=>by
  rw[yJt]
  ·simp
  ·intro p hp
   rcases List.mem_append.1 hp with hp|hp
   ·have:=(h.le p hp).2;omega
   ·rw[List.mem_singleton.1 hp];omega
 have hD:∀j,j<=P.length->(D ++ [t'])[j]?=D[j]?:=λj hj=>List.getElem?_append_left (by omega)
 have hD1:(D ++ [t'])[P.length+1]?=some t':=by rw[List.getElem?_append_right (by omega),hlen,Nat.sub_self];rfl
 refine⟨by simp;omega,λp hp=>?_,?_,λn hn=>?_,λn y hy k=>?_,λn=>?_,λj a b ha hb=>?_⟩
 ·rw[List.length_append,List.length_singleton]
  rcases List.mem_append.1 hp with hp|hp
  ·have:=h.le p hp;omega
  ·rw[List.mem_singleton.1 hp];omega
 ·refine List.pairwise_append.2 ⟨h.asc,List.pairwise_singleton _ _,λa ha b hb=>?_⟩
  rw[List.mem_singleton.1 hb]
  have:=(h.le a ha).2
  omega
 ·rw[List.length_append,List.length_singleton]at hn
  rcases Nat.lt_or_ge W.length n with h1|h1
  ·obtain rfl:n=W.length+1:=by omega
   exact⟨t',by rw[vT _ h1];exact hD1,by rw[zX9];exact hw⟩
  ·rw[zZw F W x h1,hq n h1,hD _ (xXu P n)];exact h.at_ n h1
 ·rcases Nat.lt_trichotomy n W.length with h1|h1|h1
  ·rw[List.getElem?_append_left h1]at hy
   rw[zZw F W x (by omega),hq n (by omega),hq (n+1) (by omega),hD _ (xXu P n),hD _ (xXu P _)];exact h.mid n y hy k
  ·subst h1
   rw[List.getElem?_append_right (Nat.le_refl _),Nat.sub_self]at hy
   simp at hy;subst hy
   rw[zZw F W x (Nat.le_refl _),hq _ (Nat.le_refl _),vT _ (Nat.lt_succ_self _),h.lstW,hD _ (Nat.le_refl _),hD1,h.lastD hl]
   rcases hk k with h2|h2
   ·exact⟨t,h2,.inl rfl⟩
   ·exact⟨t',h2,.inr rfl⟩
  ·rw[List.getElem?_eq_none (by rw[List.length_append,List.length_singleton];omega)]at hy;cases hy
 ·rcases Nat.lt_trichotomy n W.length with h1|h1|h1
  ·rw[hq n (by omega),hq (n+1) (by omega)];exact h.one n
  ·subst h1;rw[hq _ (Nat.le_refl _),vT _ (Nat.lt_succ_self _),h.lstW];exact Nat.le_refl _
  ·rw[vT _ h1,vT _ (by omega)];omega
 ·by_cases hj:j+1<=P.length
  ·rw[hD _ (by omega)]at ha
   rw[hD _ hj]at hb
   exact h.adj j a b ha hb
  ·have mF:j+1<(D ++ [t']).length:=(List.getElem?_eq_some_iff.1 hb).1
   rw[List.length_append,List.length_singleton]at mF
   obtain rfl:j=P.length:=by omega
   rw[hD1]at hb
   rw[hD _ (Nat.le_refl _),h.lastD hl]at ha
   cases ha;cases hb
   exact hne
structure Dat where
 σ:Sto
 first:Fls
 last:Fls
 wr:List Wr
 pts:List Int
def Dat.write(d:Dat)(x:Wr):Dat:={ d with wr:=d.wr ++ [x],last:=zQP d.last x }
def Dat.to(d:Dat)(σ:Sto):Dat:={ d with σ:=σ }
def Dat.rec_(d:Dat):Wr:=⟨1,d.last.2.length,zZV 99 (zXr d.σ.t (zZD d.σ))⟩
def Dat.commit(d:Dat):Dat:=if d.σ.lev=[]/\d.σ.t ≠ d.σ.last then { d.write d.rec_ with σ:={ d.σ with done:=d.σ.done ++ [d.σ.t] },pts:=d.pts ++ [(d.wr.length:Int)+1] }else d
theorem Dat.commit_σ(d:Dat):d.commit.σ=zZt d.σ:=by
 unfold Dat.commit zZt
 split <;> rfl
def Dat.new(t:Tbl)(F:Fls):Dat:=⟨Sto.new t,F,F,[],[]⟩
def Dat.begin(d:Dat):Dat:=d.to (zZU d.σ)
def Dat.end_(d:Dat):Dat:=if d.σ.lev=[]then d else(d.to { d.σ with lev:=d.σ.lev.dropLast }).commit
def Dat.back(d:Dat):Dat:=d.to (zVj d.σ)
def Dat.recs(d:Dat)(l:List Rec):Dat:=(d.to { d.σ with t:={ d.σ.t with recs:=l } }).commit
def Dat.app(d:Dat)(r:Rec):Dat:=if yZJ d.σ r=0 then d.recs (d.σ.t.recs ++ [r])else d
def Dat.put(d:Dat)(k:Int)(r:Rec):Dat:=if yZI d.σ k r=0 then d.recs (d.σ.t.recs.set (k - 1).toNat r)else d
def Dat.mark(d:Dat)(k:Int)(g:Bool):Dat:=if zXc d.σ k then d.recs (d.σ.t.recs.modify (k - 1).toNat λr=>{ r with gone:=g })else d
def Dat.set(d:Dat)(k:Int)(nm:ByteArray)(v:Val):Dat:=match yQc d.σ.t.fields nm with
 | none=>d
 | some i=>if zXc d.σ k/\(zZO (d.σ.t.fields.getD i default) d.σ.t.page v).2=0 then d.recs (d.σ.t.recs.modify (k - 1).toNat λr=>{ r with v:=r.v.set i (zZO (d.σ.t.fields.getD i default) d.σ.t.page v).1 })else d
def Dat.whole(d:Dat):Wr:=⟨1,d.last.2.length,zZV 119 (zQI d.σ.t)⟩
def Dat.clean(d:Dat):Dat:=if d.σ.lev=[]/\d.last.2 ≠ []then(zZK (d.write d.whole).last).foldl Dat.write (d.write d.whole)else d
theorem Dat.recs_σ(d:Dat)(l:List Rec):(d.recs l).σ=zXE d.σ l:=Dat.commit_σ _
theorem Dat.end_σ(d:Dat):d.end_.σ=xKX d.σ:=by
 unfold Dat.end_ xKX
 split
 ·rfl
 ·exact Dat.commit_σ _
theorem Dat.app_σ(d:Dat)(r:Rec):(d.app r).σ=xJR d.σ r:=by
 unfold Dat.app xJR
 split
 ·exact Dat.recs_σ _ _
 ·rfl
theorem Dat.put_σ(d:Dat)(k:Int)(r:Rec):(d.put k r).σ=xJE d.σ k r:=by
 unfold Dat.put xJE
 split
 ·exact Dat.recs_σ _ _
 ·rfl
theorem Dat.mark_σ(d:Dat)(k:Int)(g:Bool):(d.mark k g).σ=yJw d.σ k g:=by
 unfold Dat.mark yJw
 split
 ·exact Dat.recs_σ _ _
 ·rfl
theorem Dat.set_σ(d:Dat)(k:Int)(nm:ByteArray)(v:Val):(d.set k nm v).σ=yWV d.σ k nm v:=by
 unfold Dat.set yWV
 cases yQc d.σ.t.fields nm with
 | none=>rfl
 | some i=>
  dsimp only
  split
  ·exact Dat.recs_σ _ _
  ·rfl
theorem yJM:∀(l:List Wr) (d:Dat),(l.foldl Dat.write d).σ=d.σ/\(l.foldl Dat.write d).first=d.first/\(l.foldl Dat.write d).pts=d.pts/\(l.foldl Dat.write d).wr=d.wr ++ l/\(l.foldl Dat.write d).last=l.foldl zQP d.last
 | [],d=>by simp
 | x :: l,d=>by
  obtain⟨h1,h2,h3,h4,h5⟩:=yJM l (d.write x)
  rw[List.foldl_cons,h1,h2,h3,h4,h5,List.foldl_cons]
  exact⟨rfl,rfl,rfl,by simp[Dat.write],rfl⟩
theorem Dat.clean_σ(d:Dat):d.clean.σ=d.σ:=by
 unfold Dat.clean
 split
 ·exact(yJM _ _).1
 ·rfl
end Go.Proofs.YtaeecpjhfmcliaaGreatDoor
/- The log: what every call keeps of a store and its files. In plain words. No condition but those stated. -/
namespace Go.Proofs.YtaeecpjhfmcliaaGreatDoor
open Go.Sh Go.RowKit Tryz
structure Like(p:Int)(f:List Fld)(t:Tbl):Prop where
 ok:zQh t=0
 page:t.page=p
 fields:t.fields=f
def okW(y:Wr):Prop:=(y.file=0∨y.file=1)/\0<=y.at_/\y.b.length<=700000
structure InvW(p:Int)(f:List Fld)(d:Dat):Prop where
 t:Like p f d.σ.t
 lev:∀u ∈ d.σ.lev,Like p f u/\d.σ.last.recs.length<=u.recs.length
 done:∀u ∈ d.σ.done,Like p f u
 ne:d.σ.done ≠ []
 ge:d.σ.last.recs.length<=d.σ.t.recs.length
 h0:∀u,d.σ.lev.head?=some u->u=d.σ.last
 l8:d.σ.lev.length<=8
 eq:d.last=zXD d.first d.wr d.wr.length
 file:zQR d.last=(some d.σ.last,[],false)
 hist:yX6 d.first d.wr d.pts d.σ.done
 wb:∀x ∈ d.wr,okW x
structure Inv(p:Int)(f:List Fld)(d:Dat):Prop extends InvW p f d where
 at0:d.σ.lev=[]->d.σ.t=d.σ.last
variable {p : Int} {f : List Fld} {d : Dat}
theorem zZ9 {σ:Sto} (h:σ.done ≠ []):σ.done.getLast?=some σ.last:=by
 unfold Sto.last
 rw[List.getLast?_eq_some_getLast h];rfl
theorem zYT {σ σ':Sto} (h:σ.done ≠ []) (e:σ'.done=σ.done):σ'.last=σ.last:=by
 have h1:=zZ9 h
 have h2:=zZ9 (σ:=σ') (by rw[e];exact h)
 rw[e]at h2
 exact Option.some.inj (h2.symm.trans h1)
theorem InvW.lastL(h:InvW p f d):Like p f d.σ.last:=h.done _ (List.mem_of_getLast? (zZ9 h.ne))
theorem InvW.write (h:InvW p f d) {x:Wr} (hb:okW x) (hk:∀k,(zQR (zJb d.last x k)).1=some d.σ.last) (hf:zQR (zQP d.last x)=(some d.σ.last,[],false)):InvW p f (d.write x) where
 t:=h.t
 lev:=h.lev
 done:=h.done
 ne:=h.ne
 ge:=h.ge
 h0:=h.h0
 l8:=h.l8
 eq:=by
  show zQP d.last x=zXD d.first (d.wr ++ [x]) (d.wr ++ [x]).length
  rw[List.length_append,List.length_singleton,zX9,←h.eq]
 file:=hf
 hist:=h.hist.same (zZ9 h.ne) (by rw[←h.eq];exact hk)
 wb:=λy hy=>by
  rcases List.mem_append.1 hy with hy|hy
  ·exact h.wb y hy
  ·rw[List.mem_singleton.1 hy];exact hb
theorem zYm {F:Fls} {t:Tbl} (h:zQR F=(some t,[],false)) {kind:UInt8} {body:List UInt8} (hb:body.length<4294967296) (k:Int) :
  (zQR (zJb F ⟨1,F.2.length,zZV kind body⟩ k)).1=some t∨zJb F ⟨1,F.2.length,zZV kind body⟩ k=(F.1,F.2 ++ zZV kind body):=by
 by_cases h0:k<=0
 ·rw[zJw _ _ h0,h];exact .inl rfl
 ·have e:zJb F ⟨1,F.2.length,zZV kind body⟩ k=(F.1,F.2 ++ (zZV kind body).take k.toNat):=by
   rw[zKj _ _ (by omega)]
   show F.put 1 (F.2.take (min (F.2.length:Int) F.2.length).toNat ++ _)=_
   rw[Fls.put1,show(min (F.2.length:Int) F.2.length).toNat=F.2.length by omega,List.take_length]
  rw[e]
  by_cases hl:(zZV kind body).length<=k.toNat
  ·rw[List.take_of_length_le hl];exact .inr rfl
  ·left
   have hn:zZ2 ((zZV kind body).take k.toNat)=none:=yVh hb (List.take_prefix _ _) (by rw[List.length_take];omega)
   show(zKh (zXA F.1) false (F.2 ++ _)).1=_
   rw[zWg (show zKh (zXA F.1) false F.2=_ from h),zZA hn]
theorem zKk{F:Fls}{t:Tbl}{kind:UInt8}{body:List UInt8}:zQP F ⟨1,F.2.length,zZV kind body⟩=(F.1,F.2 ++ zZV kind body):=by
 rw[zK7]
 show F.put 1 (F.2.take (min (F.2.length:Int) F.2.length).toNat ++ _)=_
 rw[Fls.put1,show(min (F.2.length:Int) F.2.length).toNat=F.2.length by omega,List.take_length]
theorem yZN {F:Fls} {t u:Tbl} (h:zQR F=(some t,[],false)) {body:List UInt8} (hb:body.length<4294967296) (hc:zQX t body=some u):zQR (F.1,F.2 ++ zZV 99 body)=(some u,[],false):=by
 show zKh (zXA F.1) false (F.2 ++ zZV 99 body)=_
 rw[zWg (show zKh (zXA F.1) false F.2=_ from h),←List.append_nil (zZV 99 body),yK1 hb]
 have e:zJs (some t) false 99 body=(some u,false):=by
  unfold zJs
  rw[if_neg (by decide),if_neg (by decide)]
  rw[Option.bind_some,hc]
 rw[e,zZA zYu]
theorem yQA {F:Fls} {t:Tbl} (h:zQR F=(some t,[],false)) (hv:zQh t=0):zQR (F.1,F.2 ++ zZV 119 (zQk t))=(some t,[],true):=by
 have hb:(zQk t).length<4294967296:=by have:=zZX (zJf.of hv);omega
 show zKh (zXA F.1) false (F.2 ++ zZV 119 (zQk t))=_
 rw[zWg (show zKh (zXA F.1) false F.2=_ from h),←List.append_nil (zZV 119 (zQk t)),yK1 hb]
 have e:zJs (some t) false 119 (zQk t)=(some t,true):=by unfold zJs;rw[if_pos rfl,zWh hv]
 rw[e,zZA zYu]
theorem yQp(h:InvW p f d):Inv p f d.commit:=by
 unfold Dat.commit
 split
 ·rename_i hc
  obtain⟨hl,hne⟩:=hc
  have hL:=h.lastL
  have hcl:=yQ0 (t:=d.σ.last) h.t.ok h.ge
  have hbody:(zXr d.σ.t (zZD d.σ)).length<=650000:=hcl
  have hch:zQX d.σ.last (zXr d.σ.t (zZD d.σ))=some d.σ.t:=yQa hL.ok h.t.ok (by rw[h.t.page,hL.page]) (by rw[h.t.fields,hL.fields]) h.ge
  have hlast:({ d.σ with done:=d.σ.done ++ [d.σ.t] }:Sto).last=d.σ.t:=by unfold Sto.last;simp
  have ew:zQP d.last d.rec_=(d.last.1,d.last.2 ++ zZV 99 (zXr d.σ.t (zZD d.σ))):=zKk (t:=d.σ.t)
  have hfile:=yZN h.file (by omega) hch
  refine⟨⟨h.t,λu hu=>?_,λu hu=>?_,by simp,Nat.le_of_eq (congrArg (λx=>x.recs.length) hlast),λu hu=>?_,h.l8,?_,?_,?_,?_⟩,λ_=>hlast.symm⟩
  ·have hu:u ∈ d.σ.lev:=hu
   rw[hl]at hu;cases hu
  ·rcases List.mem_append.1 hu with hu|hu
   ·exact h.done u hu
   ·rw[List.mem_singleton.1 hu];exact h.t
  ·have hu:d.σ.lev.head?=some u:=hu
   rw[hl]at hu;cases hu
  ·show zQP d.last d.rec_=zXD d.first (d.wr ++ [d.rec_]) (d.wr ++ [d.rec_]).length
   rw[List.length_append,List.length_singleton,zX9,←h.eq]
  ·show zQR (zQP d.last d.rec_)=_
   rw[ew,hfile,hlast]
  ·refine h.hist.new (zZ9 h.ne) (Ne.symm hne) (by rw[←h.eq,ew,hfile]) λk=>?_
   rw[←h.eq]
   rcases zYm h.file (kind:=99) (body:=zXr d.σ.t (zZD d.σ)) (by omega) k with h1|h1
   ·exact .inl h1
   ·right
    show(zQR (zJb d.last ⟨1,d.last.2.length,zZV 99 (zXr d.σ.t (zZD d.σ))⟩ k)).1=_
    rw[h1,hfile]
  ·intro y hy
   rcases List.mem_append.1 hy with hy|hy
   ·exact h.wb y hy
   ·rw[List.mem_singleton.1 hy]
    refine⟨.inr rfl,by show 0<=(d.last.2.length:Int);omega,?_⟩
    show(zZV 99 (zXr d.σ.t (zZD d.σ))).length<=_
    rw[zJk];omega
 ·rename_i hc
  exact⟨h,λhl=>Classical.byContradiction λhne=>hc ⟨hl,hne⟩⟩
theorem yZt {t:Tbl} {F:Fls} (hv:zQh t=0) (h:zQR F=(some t,[],false)):Inv t.page t.fields (Dat.new t F) where
 t:=⟨hv,rfl,rfl⟩
 lev:=λu hu=>absurd hu List.not_mem_nil
 done:=λu hu=>by rw[List.mem_singleton.1 hu];exact⟨hv,rfl,rfl⟩
 ne:=by simp[Dat.new,Sto.new]
 ge:=Nat.le_refl _
 h0:=λu hu=>by cases hu
 l8:=Nat.zero_le _
 eq:=rfl
 file:=h
 hist:=yX6.start (by show(zQR F).1=_;rw[h])
 wb:=λx hx=>absurd hx List.not_mem_nil
 at0:=λ_=>rfl
theorem yXv{t:Tbl}(hv:zQh t=0):zQR (zQk t,[])=(some t,[],false):=by
 show zKh (zXA (zQk t)) false []=_
 rw[zZA zYu,zWh hv]
theorem zY8(h:Inv p f d):Inv p f d.begin:=by
 by_cases h8:8<=d.σ.lev.length
 ·have:d.begin=d:=by unfold Dat.begin Dat.to zZU;rw[if_pos h8]
  rw[this];exact h
 ·have e:d.begin={ d with σ:={ d.σ with lev:=d.σ.lev ++ [d.σ.t] } }:=by unfold Dat.begin Dat.to zZU;rw[if_neg h8]
  rw[e]
  refine⟨⟨h.t,λu hu=>?_,h.done,h.ne,h.ge,λu hu=>?_,?_,h.eq,h.file,h.hist,h.wb⟩,λhl=>?_⟩
  ·rcases List.mem_append.1 hu with hu|hu
   ·exact h.lev u hu
   ·rw[List.mem_singleton.1 hu];exact⟨h.t,h.ge⟩
  ·have hu:(d.σ.lev ++ [d.σ.t]).head?=some u:=hu
   cases hl:d.σ.lev with
   | nil=>rw[hl]at hu;cases hu;exact h.at0 hl
   | cons a l=>rw[hl]at hu;cases hu;exact h.h0 u (by rw[hl];rfl)
  ·show(d.σ.lev ++ [d.σ.t]).length<=8
   rw[List.length_append,List.length_singleton];omega
  ·have hl:d.σ.lev ++ [d.σ.t]=[]:=hl
   simp at hl
theorem zWS{α:Type}{l:List α}{u:α}(h:l.dropLast.head?=some u):l.head?=some u:=by
 cases l with
 | nil=>cases h
 | cons a l=>cases l with
  | nil=>cases h
  | cons b l=>exact h
theorem yXn(h:Inv p f d):InvW p f (d.to { d.σ with lev:=d.σ.lev.dropLast }):=
 ⟨h.t,λu hu=>h.lev u (List.dropLast_subset _ hu),h.done,h.ne,h.ge,λu hu=>h.h0 u (zWS hu),Nat.le_trans (show d.σ.lev.dropLast.length<=d.σ.lev.length from Nat.le_trans (Nat.le_of_eq List.length_dropLast) (Nat.sub_le _ _)) h.l8,h.eq,h.file,h.hist,h.wb⟩
theorem yYw(h:Inv p f d):Inv p f d.end_:=by
 unfold Dat.end_
 split
 ·exact h
 ·exact yQp (yXn h)
theorem yKw(h:Inv p f d):Inv p f d.back:=by
 by_cases hl:d.σ.lev=[]
 ·have:d.back=d:=by unfold Dat.back Dat.to zVj;rw[if_pos hl]
  rw[this];exact h
 ·obtain⟨u,hu⟩:∃u,d.σ.lev.getLast?=some u:=⟨_,List.getLast?_eq_some_getLast hl⟩
  have e:d.back={ d with σ:={ d.σ with t:=u,lev:=d.σ.lev.dropLast } }:=by unfold Dat.back Dat.to zVj;rw[if_neg hl,hu];rfl
  have hm:=h.lev u (List.mem_of_getLast? hu)
  have hs:({ d.σ with t:=u,lev:=d.σ.lev.dropLast }:Sto).last=d.σ.last:=zYT h.ne rfl
  have hlw:=yXn h
  have hs':({ d.σ with lev:=d.σ.lev.dropLast }:Sto).last=d.σ.last:=zYT h.ne rfl
  rw[e]
  refine⟨⟨hm.1,λx hx=>?_,h.done,h.ne,Nat.le_trans (Nat.le_of_eq (congrArg (λx=>x.recs.length) hs)) hm.2,λx hx=>?_,hlw.l8,h.eq,?_,h.hist,h.wb⟩,λhd=>?_⟩
  ·rw[hs];exact h.lev x (List.dropLast_subset _ hx)
  ·rw[hs];exact h.h0 x (zWS hx)
  ·show zQR d.last=_;rw[hs];exact h.file
  ·rw[hs]
   have hd:d.σ.lev.dropLast=[]:=hd
   refine h.h0 u ?_
   cases hq:d.σ.lev with
   | nil=>exact absurd hq hl
   | cons a l=>cases l with
    | nil=>rw[hq]at hu;exact hu
    | cons b l=>rw[hq]at hd;simp at hd
theorem zJ8(h:Inv p f d){l:List Rec}(hn:l.length<=300)(hge:d.σ.t.recs.length<=l.length)(hr:∀r ∈ l,zQ1 f p r=0):InvW p f (d.to { d.σ with t:={ d.σ.t with recs:=l } }):=by
 have hR:=zQM.of h.t.ok
 have hs:({ d.σ with t:={ d.σ.t with recs:=l } }:Sto).last=d.σ.last:=zYT h.ne rfl
 refine⟨⟨?_,h.t.page,h.t.fields⟩,λu hu=>?_,h.done,h.ne,?_,λu hu=>?_,h.l8,h.eq,?_,h.hist,h.wb⟩
 ·exact zK9 hR.page hR.vf hn λr hr'=>by
   show zQ1 d.σ.t.fields d.σ.t.page r=0
   rw[h.t.fields,h.t.page];exact hr r hr'
 ·show _/\(Sto.last { d.σ with t:={ d.σ.t with recs:=l } }).recs.length<=_
  rw[hs];exact h.lev u hu
 ·show(Sto.last { d.σ with t:={ d.σ.t with recs:=l } }).recs.length<=_
  rw[hs];exact Nat.le_trans h.ge hge
 ·show u=Sto.last { d.σ with t:={ d.σ.t with recs:=l } }
  rw[hs];exact h.h0 u hu
 ·show zQR d.last=_;rw[show(d.to { d.σ with t:={ d.σ.t with recs:=l } }).σ.last=d.σ.last from hs];exact h.file
theorem zVZ(h:Inv p f d){l:List Rec}(hn:l.length<=300)(hge:d.σ.t.recs.length<=l.length)(hr:∀r ∈ l,zQ1 f p r=0):Inv p f (d.recs l):=yQp (zJ8 h hn hge hr)
theorem InvW.recR(h:InvW p f d):∀r ∈ d.σ.t.recs,zQ1 f p r=0:=λr hr=>by
 have:=(zQM.of h.t.ok).recs r hr
 rw[h.t.fields,h.t.page]at this;exact this
theorem xYq(h:Inv p f d)(r:Rec):Inv p f (d.app r):=by
 unfold Dat.app
 split
 ·rename_i hc
  unfold yZJ at hc
  split at hc
  ·omega
  ·rename_i cJ
   rw[h.t.fields,h.t.page]at hc
   refine zVZ h (by rw[List.length_append,List.length_singleton];omega) (by rw[List.length_append];omega) λx hx=>?_
   rcases List.mem_append.1 hx with hx|hx
   ·exact h.recR x hx
   ·rw[List.mem_singleton.1 hx];exact hc
 ·exact h
theorem xY9(h:Inv p f d)(k:Int)(r:Rec):Inv p f (d.put k r):=by
 have hn:=(zQM.of h.t.ok).n300
 unfold Dat.put
 split
 ·rename_i hc
  unfold yZI at hc
  split at hc
  ·rw[h.t.fields,h.t.page]at hc
   refine zVZ h (by rw[List.length_set];exact hn) (by rw[List.length_set];exact Nat.le_refl _) λx hx=>?_
   rcases List.mem_or_eq_of_mem_set hx with hx|rfl
   ·exact h.recR x hx
   ·exact hc
  ·cases hc
 ·exact h
theorem zVl{α:Type}{g:α->α}{x:α}:∀{l:List α} {i:Nat},x ∈ l.modify i g->x ∈ l∨∃y,l[i]?=some y/\x=g y:=λ{l i} h=>by
 obtain⟨j,hj⟩:=List.getElem?_of_mem h
 rw[List.getElem?_modify]at hj
 by_cases e:i=j
 ·subst e
  simp only[if_pos]at hj
  cases hl:l[i]? with
  | none=>rw[hl]at hj;cases hj
  | some y=>rw[hl]at hj;right;exact⟨y,rfl,by simpa using hj.symm⟩
 ·simp only[if_neg e]at hj
  left
  have hj:l[j]?=some x:=by simpa using hj
  exact List.mem_of_getElem? hj
theorem xJi(h:Inv p f d)(k:Int)(g:Bool):Inv p f (d.mark k g):=by
 have hn:=(zQM.of h.t.ok).n300
 unfold Dat.mark
 split
 ·refine zVZ h (by rw[List.length_modify];exact hn) (by rw[List.length_modify];exact Nat.le_refl _) λx hx=>?_
  rcases zVl hx with hx|⟨y,hy,rfl⟩
  ·exact h.recR x hx
  ·exact h.recR y (List.mem_of_getElem? hy)
 ·exact h
end Go.Proofs.YtaeecpjhfmcliaaGreatDoor
/- The log: values that are set, and a clean log, keep a store right; how large its files are. In plain words. No condition but those stated. -/
namespace Go.Proofs.YtaeecpjhfmcliaaGreatDoor
open Go.Sh Go.RowKit Tryz
theorem zX1{l:List Fld}{p:Int}{r:Rec}(h:zQ1 l p r=0):r.v.length=l.length:=(zYS h).1
theorem zKB{l:List Fld}{p:Int}{r:Rec}:zQ1 l p r=0 ↔ r.v.length=l.length/\∀(i:Nat) (f:Fld) (v:Val),l[i]?=some f->r.v[i]?=some v->zQO f p v=true:=by
 constructor
 ·intro h
  refine⟨zX1 h,λi f v hf hv=>?_⟩
  unfold zQ1 at h
  rw[if_neg (by simp[zX1 h])]at h
  split at h
  ·next ha=>
   have:=List.all_eq_true.1 ha (f,v) (List.mem_of_getElem? (i:=i) (by rw[List.getElem?_zip_eq_some];exact⟨hf,hv⟩))
   exact this
  ·cases h
 ·rintro⟨h1,h2⟩
  unfold zQ1
  rw[if_neg (by simp[h1]),if_pos]
  refine List.all_eq_true.2 λx hx=>?_
  obtain⟨i,hi⟩:=List.getElem?_of_mem hx
  obtain⟨a,b⟩:=List.getElem?_zip_eq_some.1 hi
  exact h2 i x.1 x.2 a b
theorem yX0 {f:Fld} {p:Int} {v:Val} (h:(zZO f p v).2=0):zQO f p (zZO f p v).1=true:=by
 cases hB:zQo f && zQV p
 ·rw[zJv hB]at h;simp at h
 by_cases hv:zXh v ≠ 0
 ·rw[zKr hB hv]at h;exact absurd h hv
 have hv:zXh v=0:=by simpa using hv
 rw[zJO hB hv]at h ⊢
 have hfB:zQo f=true:=by simp at hB;exact hB.1
 by_cases hk:v.kind=0
 ·unfold zQQ at h ⊢
  rw[if_pos hk]at h ⊢
  by_cases hn:f.null=true
  ·rw[if_pos hn]
   unfold zQO
   rw[if_neg (by simp[hv]),if_pos hk];exact hn
  ·rw[if_neg hn]at h;simp at h
 by_cases aH:v.kind ≠ (zXk f).kind
 ·unfold zQQ at h;rw[if_neg hk,if_pos aH]at h;simp at h
 by_cases h4:f.kind=4
 ·obtain⟨wl,wh⟩:=zVS hfB h4
  have e1:zQQ f p v=if zXJ (zZs (v.s.data.toList.take f.width.toNat)) p then(⟨4,0,bs (zZs (v.s.data.toList.take f.width.toNat))⟩,0)else(noV,10):=by
   unfold zQQ;rw[if_neg hk,if_neg aH,if_pos h4]
  cases ht:zXJ (zZs (v.s.data.toList.take f.width.toNat)) p
  ·rw[e1,ht]at h;simp at h
  rw[e1,ht,if_pos rfl]
  have hbl:=yX5 (v.s.data.toList.take f.width.toNat)
  have htl:=List.length_take_le f.width.toNat v.s.data.toList
  have aN:=xXz (v.s.data.toList.take f.width.toNat)
  generalize zZs (v.s.data.toList.take f.width.toNat)=B at *
  have hvB:zXh ⟨4,0,bs B⟩=0:=by
   rw[zZ1,if_neg (by dsimp only;rw[zQ8];omega)];rfl
  unfold zQO
  rw[if_neg (by simp[hvB]),if_neg (show ¬(4:Int)=0 by decide),if_neg (by omega),if_neg (by simp[h4]),if_neg (by omega),if_pos h4]
  rw[zQN,aN,ht,zQ8,decide_eq_true rfl,decide_eq_true (show((B.length:Nat):Int)<=f.width by omega)];rfl
 ·unfold zQQ at h ⊢
  rw[if_neg hk,if_neg aH,if_neg h4]at h ⊢
  cases hf:zQO f p v
  ·rw[hf]at h;simp at h
  ·simp[hf]
variable {p : Int} {f : List Fld} {d : Dat}
theorem zY6 {l:List Fld} {p:Int} {r:Rec} (h:zQ1 l p r=0) {i:Nat} {v:Val} (hv:∀g,l[i]?=some g->zQO g p v=true):zQ1 l p { r with v:=r.v.set i v }=0:=by
 obtain⟨h1,h2⟩:=zKB.1 h
 refine zKB.2 ⟨by rw[List.length_set];exact h1,λj g x hg hx=>?_⟩
 rw[List.getElem?_set]at hx
 split at hx
 ·rename_i e
  subst e
  split at hx
  ·cases hx;exact hv g hg
  ·cases hx
 ·exact h2 j g x hg hx
theorem xQr{l:List Fld}{s:ByteArray}{i:Nat}(h:yQc l s=some i):i<l.length:=by
 unfold yQc at h
 obtain⟨h1,_⟩:=List.findIdx?_eq_some_iff_getElem.1 h
 exact h1
theorem yZT(h:Inv p f d)(k:Int)(nm:ByteArray)(v:Val):Inv p f (d.set k nm v):=by
 have hn:=(zQM.of h.t.ok).n300
 unfold Dat.set
 split
 ·exact h
 ·rename_i i hi
  split
  ·rename_i hc
   have hil:=xQr hi
   refine zVZ h (by rw[List.length_modify];exact hn) (by rw[List.length_modify];exact Nat.le_refl _) λx hx=>?_
   rcases zVl hx with hx|⟨y,hy,rfl⟩
   ·exact h.recR x hx
   ·refine zY6 (h.recR y (List.mem_of_getElem? hy)) λg hg=>?_
    have e:d.σ.t.fields.getD i default=g:=by rw[List.getD_eq_getElem?_getD,h.t.fields,hg];rfl
    rw[e,h.t.page]at hc ⊢
    exact yX0 hc.2
  ·exact h
theorem zVG (h:Inv p f d) (hl:d.σ.lev=[]):zZK (d.write d.whole).last=[⟨0,0,[]⟩,⟨0,0,zQk d.σ.t⟩,⟨1,0,[]⟩]/\InvW p f ([⟨0,0,[]⟩,⟨0,0,zQk d.σ.t⟩,⟨1,0,[]⟩].foldl Dat.write (d.write d.whole)):=by
 have e0:=h.at0 hl
 have hv:=h.t.ok
 have hbl:=zZX (zJf.of hv)
 have hbo:zQI d.σ.t=zQk d.σ.t:=by unfold zQI;rw[if_pos hv]
 have hfile:zQR d.last=(some d.σ.t,[],false):=by rw[e0];exact h.file
 have hW:=yQA hfile hv
 obtain⟨A,L,eA⟩:∃A L,d.last=(A,L):=⟨_,_,rfl⟩
 have e1:zQP d.last d.whole=(d.last.1,d.last.2 ++ zZV 119 (zQk d.σ.t)):=by
  unfold Dat.whole;rw[hbo];exact zKk (t:=d.σ.t)
 obtain⟨B,eB⟩:∃B,B=d.last.2 ++ zZV 119 (zQk d.σ.t):=⟨_,rfl⟩
 rw[←eB]at e1 hW
 have hany:∀x,zQR (x,B)=(some d.σ.t,[],true):=λx=>by
  have q:zKh (zXA d.last.1) false B=(some d.σ.t,[],true):=hW
  show zKh (zXA x) false B=_
  rw[←q]
  exact yYt _ _ _ rfl (by rw[q]) _
 have hend:zQR (zQk d.σ.t,[])=(some d.σ.t,[],false):=yXv hv
 have w0:∀(a:List UInt8) k,∃a',zJb (a,B) ⟨0,0,[]⟩ k=(a',B):=λa k=>by
  by_cases h0:k<=0
  ·exact⟨a,zJw _ _ h0⟩
  ·exact⟨_,zKj _ _ (by omega)⟩
 have w1:∀(a:List UInt8) k,∃a',zJb (a,B) ⟨0,0,zQk d.σ.t⟩ k=(a',B):=λa k=>by
  by_cases h0:k<=0
  ·exact⟨a,zJw _ _ h0⟩
  ·exact⟨_,zKj _ _ (by omega)⟩
 have w2:∀(a:List UInt8) k,zJb (a,B) ⟨1,0,[]⟩ k=(a,B)∨zJb (a,B) ⟨1,0,[]⟩ k=(a,[]):=λa k=>by
  by_cases h0:k<=0
  ·exact .inl (zJw _ _ h0)
  ·right
   rw[zKj _ _ (by omega)]
   show(a,B.take (min (0:Int) B.length).toNat ++ List.take k.toNat [])=_
   rw[show(min (0:Int) B.length).toNat=0 by omega];simp
 have z0:∀a,zQP (a,B) ⟨0,0,[]⟩=([],B):=λa=>by
  rw[zK7]
  show(a.take (min (0:Int) a.length).toNat ++ [],B)=_
  rw[show(min (0:Int) a.length).toNat=0 by omega];rfl
 have z1:zQP ([],B) ⟨0,0,zQk d.σ.t⟩=(zQk d.σ.t,B):=by rw[zK7];rfl
 have z2:∀a,zQP (a,B) ⟨1,0,[]⟩=(a,[]):=λa=>by
  rw[zK7]
  show(a,B.take (min (0:Int) B.length).toNat ++ [])=_
  rw[show(min (0:Int) B.length).toNat=0 by omega];rfl
 have hm:zZK (d.write d.whole).last=[⟨0,0,[]⟩,⟨0,0,zQk d.σ.t⟩,⟨1,0,[]⟩]:=by
  show zZK (zQP d.last d.whole)=_
  rw[e1]
  unfold zZK
  rw[hany]
  simp[hbo]
 refine⟨hm,?_⟩
 have tl:d.σ.last=d.σ.t:=e0.symm
 -- every stage tells the table; only the last one is clean: a weaker invariant on the way
 have hD:=zZ9 h.ne
 rw[tl]at hD
 have s1:yX6 d.first (d.wr ++ [d.whole]) d.pts d.σ.done:=h.hist.same hD λk=>by
  rw[←h.eq]
  have hk:=zYm hfile (kind:=119) (body:=zQI d.σ.t) (by rw[hbo];omega) k
  rcases hk with h1|h1
  ·exact h1
  ·show(zQR (zJb d.last ⟨1,d.last.2.length,zZV 119 (zQI d.σ.t)⟩ k)).1=_
   rw[h1,hbo,←eB,hany]
 have q1:zXD d.first (d.wr ++ [d.whole]) (d.wr ++ [d.whole]).length=(d.last.1,B):=by
  rw[List.length_append,List.length_singleton,zX9,←h.eq,e1]
 have s2:yX6 d.first (d.wr ++ [d.whole] ++ [(⟨0,0,[]⟩:Wr)]) d.pts d.σ.done:=s1.same hD λk=>by
  rw[q1]
  obtain⟨a',ha⟩:=w0 d.last.1 k
  rw[ha,hany]
 have q2:zXD d.first (d.wr ++ [d.whole] ++ [(⟨0,0,[]⟩:Wr)]) (d.wr ++ [d.whole] ++ [(⟨0,0,[]⟩:Wr)]).length=([],B):=by
  rw[List.length_append,List.length_singleton,zX9,q1,z0]
 have s3:yX6 d.first (d.wr ++ [d.whole] ++ [(⟨0,0,[]⟩:Wr)] ++ [(⟨0,0,zQk d.σ.t⟩:Wr)]) d.pts d.σ.done:=s2.same hD λk=>by
  rw[q2]
  obtain⟨a',ha⟩:=w1 [] k
  rw[ha,hany]
 have q3:zXD d.first (d.wr ++ [d.whole] ++ [(⟨0,0,[]⟩:Wr)] ++ [(⟨0,0,zQk d.σ.t⟩:Wr)]) (d.wr ++ [d.whole] ++ [(⟨0,0,[]⟩:Wr)] ++ [(⟨0,0,zQk d.σ.t⟩:Wr)]).length=(zQk d.σ.t,B):=by
  rw[List.length_append,List.length_singleton,zX9,q2,z1]
 have s4:yX6 d.first (d.wr ++ [d.whole] ++ [(⟨0,0,[]⟩:Wr)] ++ [(⟨0,0,zQk d.σ.t⟩:Wr)] ++ [(⟨1,0,[]⟩:Wr)]) d.pts d.σ.done:=s3.same hD λk=>by
  rw[q3]
  rcases w2 (zQk d.σ.t) k with h1|h1
  ·rw[h1,hany]
  ·rw[h1,hend]
 have q4:zXD d.first (d.wr ++ [d.whole] ++ [(⟨0,0,[]⟩:Wr)] ++ [(⟨0,0,zQk d.σ.t⟩:Wr)] ++ [(⟨1,0,[]⟩:Wr)]) (d.wr ++ [d.whole] ++ [(⟨0,0,[]⟩:Wr)] ++ [(⟨0,0,zQk d.σ.t⟩:Wr)] ++ [(⟨1,0,[]⟩:Wr)]).length=(zQk d.σ.t,[]):=by
  rw[List.length_append,List.length_singleton,zX9,q3,z2]
 have hlast:zQP (zQP (zQP (zQP d.last d.whole) ⟨0,0,[]⟩) ⟨0,0,zQk d.σ.t⟩) ⟨1,0,[]⟩=(zQk d.σ.t,[]):=by rw[e1,z0,z1,z2]
 refine⟨h.t,h.lev,h.done,h.ne,h.ge,h.h0,h.l8,?_,?_,s4,?_⟩
 ·show zQP (zQP (zQP (zQP d.last d.whole) ⟨0,0,[]⟩) ⟨0,0,zQk d.σ.t⟩) ⟨1,0,[]⟩=zXD d.first (d.wr ++ [d.whole] ++ [(⟨0,0,[]⟩:Wr)] ++ [(⟨0,0,zQk d.σ.t⟩:Wr)] ++ [(⟨1,0,[]⟩:Wr)]) (d.wr ++ [d.whole] ++ [(⟨0,0,[]⟩:Wr)] ++ [(⟨0,0,zQk d.σ.t⟩:Wr)] ++ [(⟨1,0,[]⟩:Wr)]).length
  rw[hlast,q4]
 ·show zQR (zQP (zQP (zQP (zQP d.last d.whole) ⟨0,0,[]⟩) ⟨0,0,zQk d.σ.t⟩) ⟨1,0,[]⟩)=(some d.σ.last,[],false)
  rw[hlast,hend,tl]
 ·intro y hy
  have hy:y ∈ d.wr ++ [d.whole] ++ [(⟨0,0,[]⟩:Wr)] ++ [(⟨0,0,zQk d.σ.t⟩:Wr)] ++ [(⟨1,0,[]⟩:Wr)]:=hy
  simp only[List.mem_append,List.mem_singleton,or_assoc]at hy
  rcases hy with hy|rfl|rfl|rfl|rfl
  ·exact h.wb y hy
  ·refine⟨.inr rfl,by show 0<=(d.last.2.length:Int);omega,?_⟩
   show(zZV 119 (zQI d.σ.t)).length<=_
   rw[zJk,hbo];omega
  ·exact⟨.inl rfl,Int.le_refl _,by simp⟩
  ·exact⟨.inl rfl,Int.le_refl _,by show(zQk d.σ.t).length<=_;omega⟩
  ·exact⟨.inr rfl,Int.le_refl _,by simp⟩
theorem yVS(h:Inv p f d):Inv p f d.clean:=by
 unfold Dat.clean
 split
 ·rename_i hc
  obtain⟨h1,h2⟩:=zVG h hc.1
  rw[h1]
  exact⟨h2,λhl=>h.at0 hl⟩
 ·exact h
theorem yZ8{F:Fls}{W:List Wr}{c:Nat}(hF:F.1.length<=c/\F.2.length<=c)(hW:∀x ∈ W,x.b.length<=700000):(W.foldl zQP F).1.length<=c+700000 * W.length/\(W.foldl zQP F).2.length<=c+700000 * W.length:=by
 induction W generalizing F c with
 | nil=>simpa using hF
 | cons x W ih=>
  have hx:=hW x List.mem_cons_self
  have h1:(zQP F x).1.length<=c+700000/\(zQP F x).2.length<=c+700000:=by
   rw[zK7]
   unfold Fls.put Fls.get
   have l1:=List.length_take_le (min x.at_ F.1.length).toNat F.1
   have l2:=List.length_take_le (min x.at_ F.2.length).toNat F.2
   have m1:(F.1.take (min x.at_ F.1.length).toNat).length<=F.1.length:=by rw[List.length_take];exact Nat.min_le_right _ _
   have m2:(F.2.take (min x.at_ F.2.length).toNat).length<=F.2.length:=by rw[List.length_take];exact Nat.min_le_right _ _
   split <;> simp only[List.length_append] <;> omega
  have:=ih h1 λy hy=>hW y (List.mem_cons_of_mem _ hy)
  rw[List.foldl_cons,List.length_cons]
  omega
end Go.Proofs.YtaeecpjhfmcliaaGreatDoor
/- Table: the laws on the reading of bytes. No condition. -/
set_option maxRecDepth 100000
set_option maxHeartbeats 1000000
namespace Go.Proofs.YtaeecpjhfmcliaaGreatDoor
open Go.Sh Go.RowKit Tryz
theorem tbl_eq{a b:Tbl}:(a=b) ↔ (a.page=b.page/\a.fields=b.fields/\a.recs=b.recs):=by
 obtain⟨a1,a2,a3⟩:=a;obtain⟨b1,b2,b3⟩:=b;simp
theorem zYh{w:World}{a b:Tbl}{fa ra fb rb:SV}(ha:zXi w a fa ra)(hb:zXi w b fb rb):Calls prog 18 #[zKQ a fa ra,zKQ b fb rb] w λe w'=>e=.returned (.bool (decide (a=b)))/\Pu w w':=by
 refine xXa _ _ _ _ _ _ w _ (alB λw1 ar aA=>alB λw2 aq aN=>?_)
 have aE:=ar.trans aq
 have b1:∀{wz},Pu w2 wz->_:=λ{wz} (h:Pu w2 wz)=>zWZ (t:=a) (f:=fa) (q:=ra) (h.blk (aq.blk aA))
 have b2:∀{wz},Pu w2 wz->_:=λ{wz} (h:Pu w2 wz)=>zWZ (t:=b) (f:=fb) (q:=rb) (h.blk aN)
 have c1:=(b1 (Pu.refl _)).1
 have c2:=(b2 (Pu.refl _)).1
 rw[yVM]at c1 c2
 have no:∀{w':World},Pu w2 w'->a ≠ b->(Ending.returned (.bool false)=.returned (.bool (decide (a=b)))/\Pu w w'):=λh hne=>⟨by rw[decide_eq_false hne],aE.trans h⟩
 refine⟨_,c1,_,c2,Br.of (λd=>no (Pu.refl _) λe=>zQw d (by rw[e])) (λd=>⟨_,(b1 (Pu.refl _)).2.1,_,(b2 (Pu.refl _)).2.1,(zVC (RdF.of (ha.fields.pu aE)) (RdF.of (hb.fields.pu aE))).mono ?_⟩)⟩
 have hpg:=zQq d
 rintro e w3 ⟨rfl,au⟩
 refine⟨_,rfl,Br.of (λd1=>no au λe=>by rw[e]at d1;simp at d1) (λd1=>⟨_,(b1 au).2.2,_,(b2 au).2.2,?_⟩)⟩
 have hfl:a.fields=b.fields:=by simpa using d1
 have hla:=ha.recs.len
 have hlb:=hb.recs.len
 have hlm:=ha.recs.lim
 refine Br.of (λd2=>no au λe=>zQw d2 (by rw[hla,hlb,e])) (λd2=>?_)
 have hlen:a.recs.length=b.recs.length:=by have:=zQq d2;omega
 refine zQx a.recs.length (λk t w'=>t=(k:Int)/\a.recs.take k=b.recs.take k/\Pu w2 w') ⟨rfl,by simp,au⟩ ?_
 rintro k J t w4 hk ⟨ht,he,hp⟩ hJ
 obtain rfl:t=(k:Int):=ht
 refine⟨_,(b1 hp).2.2,Br.of (λd3=>zQc λw5 aT _=>?_) (λd3=>?_)⟩
 ·have aH:k<a.recs.length:=by have:=zQj d3;omega
  have p5:=hp.trans aT
  obtain⟨x,hx⟩:=zQK aH
  obtain⟨y,hy⟩:=zQK (show k<b.recs.length by omega)
  obtain⟨p,sx,hpa,_,vx,x0,x1⟩:=zKn (ha.recs.pu (aE.trans p5)) hx
  obtain⟨q,sy,hqa,_,vy,y0,y1⟩:=zKn (hb.recs.pu (aE.trans p5)) hy
  refine⟨_,(b1 p5).2.2,p,hpa,by omega,by omega,_,x0,_,x1,_,(b2 p5).2.2,q,hqa,by omega,by omega,_,y0,_,y1,(zVA (RdV.of vx) (RdV.of vy)).mono ?_⟩
  rintro e w6 ⟨rfl,bE⟩
  refine⟨_,rfl,Br.of (λd4=>no (p5.trans bE) λe=>?_) (λd4=>?_)⟩
  ·have:x=y:=by rw[e]at hx;rw[hx]at hy;exact Option.some.inj hy
   subst this
   simp at d4
  ·rw[zQa (by omega) (by omega)]
   have hxy:x=y:=by
    rw[xVN]
    simpa using d4
   exact hJ _ _ aH ⟨by omega,zJ2 he hx hy hxy,p5.trans bE⟩
 ·have aH:k=a.recs.length:=by have:=zQd d3;omega
  subst aH
  rw[List.take_length,hlen,List.take_length]at he
  exact⟨by rw[decide_eq_true (tbl_eq.2 ⟨hpg,hfl,he⟩)],aE.trans hp⟩
theorem zQi.set{w1 w:World}{s:SV}{l:List UInt8}(h:zQi w1 w s l)(hp:Pu w1 w){i:Nat}(hi:i<l.length)(b:UInt8):∃a,s.a=some a/\∀K:World->Prop,(∀w',zQi w1 w' s (l.set i b)->Pu w1 w'->K w')->st1 (a.add i) (u8V b) w K:=by
 obtain⟨a,ha,_⟩:=h.1.st1 (j:=i) (by simpa using hi) (u8V b) (K:=λ_=>True) λ_ _ _ _=>trivial
 refine⟨a,ha,λK hK=>?_⟩
 obtain⟨a',ha',hst⟩:=h.1.st1 (j:=i) (by simpa using hi) (u8V b) (K:=K) λw' h1 h2 _=>hK w' ⟨by rw[List.map_set];exact h1,h.2⟩ (hp.andNew h2 λi hi=>h.2 i hi)
 rw[ha]at ha';cases ha'
 exact hst
end Go.Proofs.YtaeecpjhfmcliaaGreatDoor
/- The log: how tables, files and a store lie in memory. No condition but those stated. -/
namespace Go.Proofs.YtaeecpjhfmcliaaGreatDoor
open Go.Sh Go.RowKit Tryz
variable {w w' : World}
theorem zK8:zX8 prog 35=3:=by kernel_rfl
theorem yWv:zX8 prog 67=2:=by kernel_rfl
theorem xYy:zX8 prog 73=3:=by kernel_rfl
theorem vk90:zX8 prog 90=3:=by kernel_rfl
theorem vu22:prog.underlying 22=some (.slice 5):=by kernel_rfl
theorem vu24:prog.underlying 24=some (.pointer 108):=by kernel_rfl
theorem vu33:prog.underlying 33=some (.slice 67):=by kernel_rfl
theorem vu38:prog.underlying 38=some (.slice 73):=by kernel_rfl
theorem vu32:prog.underlying 32=some (.slice 129):=by kernel_rfl
theorem vu52:prog.underlying 52=some (.slice 3):=by kernel_rfl
theorem vu82:prog.underlying 82=some (.slice 22):=by kernel_rfl
theorem vu87:prog.underlying 87=some (.slice 90):=by kernel_rfl
theorem xJc:prog.underlying 106=some (.slice 35):=by kernel_rfl
theorem vi5:(prog.info? 5).map (λi=>(i.zero,i.size,i.bytes))=some (some (.int .u8 0),1,1):=by kernel_rfl
theorem vi22:(prog.info? 22).map (λi=>(i.zero,i.size,i.bytes))=some (some (.slice none 0 0),1,24):=by kernel_rfl
theorem vi3:(prog.info? 3).map (λi=>(i.zero,i.size,i.bytes))=some (some (.int .i64 0),1,8):=by kernel_rfl
theorem vi35:(prog.info? 35).map (λi=>(i.zero,i.size,i.bytes))=some (some (.agg #[.int .i64 0,.slice none 0 0,.slice none 0 0]),3,56):=by kernel_rfl
theorem vi67:(prog.info? 67).map (λi=>(i.zero,i.size,i.bytes))=some (some (.agg #[.bool false,.slice none 0 0]),2,32):=by kernel_rfl
theorem vi73:(prog.info? 73).map (λi=>(i.zero,i.size,i.bytes))=some (some (.agg #[.int .i64 0,.int .i64 0,.string ⟨#[]⟩]),3,32):=by kernel_rfl
theorem vi90:(prog.info? 90).map (λi=>(i.zero,i.size,i.bytes))=some (some (.agg #[.int .i64 0,.int .i64 0,.slice none 0 0]),3,40):=by kernel_rfl
theorem vi129:(prog.info? 129).map (λi=>(i.zero,i.size,i.bytes))=some (some (.agg #[.string ⟨#[]⟩,.int .i64 0,.int .i64 0,.bool false]),4,40):=by kernel_rfl
abbrev slV(s:SV):Value:=.slice s.a s.len s.cap
structure HT where
 page:Int
 f:SV
 r:SV
 hs:List (Bool × SV)
abbrev zVE(h:HT):List Value:=[.int .i64 h.page,slV h.f,slV h.r]
theorem zQt(h:HT):(zVE h).length=3:=rfl
def vBl (hs:List (Bool × SV)):List Nat:=hs.flatMap λx=>zQe x.2
theorem zYa (x:Bool × SV) (hs:List (Bool × SV)):vBl (x :: hs)=zQe x.2 ++ vBl hs:=rfl
theorem zVi {hs:List (Bool × SV)} {x:Bool × SV} {b:Nat} (hx:x ∈ hs) (hb:b ∈ zQe x.2):b ∈ vBl hs:=List.mem_flatMap.2 ⟨x,hx,hb⟩
def HT.own(h:HT)(b:Nat):Prop:=b ∈ zQe h.r∨b ∈ vBl h.hs
structure zJF(w:World)(t:Tbl)(h:HT):Prop where
 page:h.page=t.page
 rw_:zQl w 67 2 h.r (h.hs.flatMap yKp)
 len:h.hs.length=t.recs.length
 rec_:∀(i:Nat) (x:Bool × SV) (r:Rec),h.hs[i]?=some x->t.recs[i]?=some r->x.1=r.gone/\zQl w 73 3 x.2 (r.v.flatMap zVt)
 nd:(vBl h.hs).Nodup
variable {t : Tbl} {h : HT}
theorem zJF.fr{B:Nat->Prop}(ht:zJF w t h)(hf:Fr B w w')(hn:∀b,h.own b->¬B b):zJF w' t h where
 page:=ht.page
 rw_:=ht.rw_.fr hf λb hb=>hn b (.inl hb)
 len:=ht.len
 rec_:=λi x r hx hr=>⟨(ht.rec_ i x r hx hr).1,(ht.rec_ i x r hx hr).2.fr hf λb hb=>hn b (.inr (zVi (List.mem_of_getElem? hx) hb))⟩
 nd:=ht.nd
theorem zJF.pu(ht:zJF w t h)(hp:Pu w w'):zJF w' t h:=ht.fr (Fr.pu hp:Fr (λ_=>False) w w') λ_ _ h=>h
theorem zJF.lt(ht:zJF w t h):∀b,h.own b->b<w.heap.size:=λb hb=>by
 rcases hb with hb|hb
 ·exact ht.rw_.lt b hb
 ·obtain⟨x,hx,hb⟩:=List.mem_flatMap.1 hb
  obtain⟨i,hi⟩:=List.getElem?_of_mem hx
  obtain⟨r,hr⟩:=zQK (l:=t.recs) (k:=i) (by rw[←ht.len];exact(List.getElem?_eq_some_iff.1 hi).1)
  exact(ht.rec_ i x r hi hr).2.lt b hb
theorem zJF.other (ht:zJF w t h) {b:Nat} {c:Array Value} {e:TypeId} {f:Nat × Nat} (hb:w.heap[b]?=some (.cells c e f)) (h1:e ≠ 67) (h2:e ≠ 73):¬h.own b:=λho=>by
 rcases ho with ho|ho
 ·exact ht.rw_.other hb (Ne.symm h1) ho
 ·obtain⟨x,hx,ho⟩:=List.mem_flatMap.1 ho
  obtain⟨i,hi⟩:=List.getElem?_of_mem hx
  obtain⟨r,hr⟩:=zQK (l:=t.recs) (k:=i) (by rw[←ht.len];exact(List.getElem?_eq_some_iff.1 hi).1)
  exact(ht.rec_ i x r hi hr).2.other hb (Ne.symm h2) ho
theorem yW8{f:Fld}{p:Int}{v:Val}(h:zQO f p v=true):zJe v.kind/\zJe v.n/\v.s.size<=2048:=by
 have hv:zXh v=0:=by
  unfold zQO at h
  split at h
  ·cases h
  ·rename_i hx;simpa using hx
 unfold zXh at hv
 split at hv
 ·cases hv
 rename_i hs
 split at hv
 ·rename_i hk
  simp only[Bool.and_eq_true]at hk
  have h1:=hk.1
  unfold okN at h1
  unfold zJe
  split at h1
  ·have:=of_decide_eq_true h1;omega
  split at h1
  ·simp at h1;omega
  split at h1
  ·simp at h1;omega
  split at h1
  ·simp at h1;omega
  split at h1
  ·have:=of_decide_eq_true h1;omega
  ·cases h1
 ·cases hv
theorem zZg{t:Tbl}(hv:zQh t=0):R64 t.recs:=λr hr=>by
 have hR:=zQM.of hv
 obtain⟨h1,h2⟩:=zKB.1 (hR.recs r hr)
 have iP:=(zXl hR.vf).2.2.2.1
 refine⟨λv hv=>?_,by omega⟩
 obtain⟨i,hi⟩:=List.getElem?_of_mem hv
 obtain⟨f,hf⟩:=zQK (l:=t.fields) (k:=i) (by have:=(List.getElem?_eq_some_iff.1 hi).1;omega)
 have:=yW8 (h2 i f v hf hi)
 exact⟨this.1,this.2.1⟩
theorem xXs {s:SV} {l:List Val} (h:zQl w 73 3 s (l.flatMap zVt)) (hb:l.length<=1000000) (oN:V64 l):zX3 w s l:=zJH.rdS (w0:={ w with heap:=#[] }) ⟨h,λ_ _=>Nat.zero_le _⟩ hb oN
theorem zJF.rd(ht:zJF w t h)(hf:zX3 w h.f t.fields)(hv:zQh t=0):zXi w t h.f h.r:=by
 have hR:=zQM.of hv
 have oN:=zZg hv
 have hl:=ht.rw_.len zQL (by decide)
 have pV:=ht.len
 have hn:=hR.n300
 have hp:=hR.page
 unfold zQV at hp
 simp only[Bool.and_eq_true,decide_eq_true_eq]at hp
 refine⟨⟨by omega,by omega⟩,hf,by omega,ht.rw_.le_cap.1,by omega,λi r hr=>?_⟩
 obtain⟨x,hx⟩:=zQK (l:=h.hs) (k:=i) (by have:=(List.getElem?_eq_some_iff.1 hr).1;omega)
 obtain⟨e1,e2⟩:=ht.rec_ i x r hx hr
 obtain⟨a,h1,_,c0⟩:=ht.rw_.elem zQL hx (o:=0) rfl
 obtain⟨a1,pA,_,c1⟩:=ht.rw_.elem zQL hx (o:=1) rfl
 rw[h1]at pA;cases pA
 obtain⟨q1,q2⟩:=oN r (List.mem_of_getElem? hr)
 refine⟨a,h1,_,⟨x.2,rfl,xXs e2 q2 q1⟩,λj v hv=>?_⟩
 rcases j with _|_|j <;> simp at hv
 ·subst hv;rw[←e1];exact c0
 ·subst hv;exact c1
theorem zXH{t:Tbl}(hv:zQh t=0):Lim.ok t.fields:=λf hf=>by
 have:=(zQZ (List.all_eq_true.1 (zJf.of hv).all f hf)).2.1
 show f.name.size<=140737488355328
 omega
structure zXP(w:World)(s q0 q1:SV)(F:Fls):Prop where
 len:s.len=2
 cap:2<=s.cap
 ex:∃a,s.a=some a/\w.cell? (a.add 0)=some (slV q0)/\w.cell? (a.add 1)=some (slV q1)
 b0:ByV w q0 F.1
 b1:ByV w q1 F.2
theorem zXP.pu{s q0 q1:SV}{F:Fls}(h:zXP w s q0 q1 F)(hp:Pu w w'):zXP w' s q0 q1 F:=by
 obtain⟨a,h1,h2,h3⟩:=h.ex
 exact⟨h.len,h.cap,⟨a,h1,hp.cell h2,hp.cell h3⟩,h.b0.pu hp,h.b1.pu hp⟩
structure SL where
 S:Nat
 now:HT
 lv:SV
 lh:List HT
 dn:SV
 dh:List HT
 first:SV
 f0:SV
 f1:SV
 last:SV
 l0:SV
 l1:SV
 wr:SV
 wh:List (Int × Int × SV)
 pt:SV
abbrev wrC(x:Int × Int × SV):List Value:=[.int .i64 x.1,.int .i64 x.2.1,slV x.2.2]
theorem zJa(x:Int × Int × SV):(wrC x).length=3:=rfl
def zJX(mu:Int)(L:SL):Array Value:=#[.int .i32 mu,.int .u32 0,.int .i64 L.now.page,slV L.now.f,slV L.now.r,slV L.lv,slV L.dn,slV L.first,slV L.last,slV L.wr,slV L.pt]
def SL.own(L:SL)(b:Nat):Prop:=b=L.S∨b ∈ zQe L.lv∨b ∈ zQe L.dn∨b ∈ zQe L.wr∨b ∈ zQe L.pt∨∃h ∈ L.now :: L.lh,h.own b
abbrev SL.ptr(L:SL):Value:=.pointer (some ⟨L.S,0,none⟩)
structure KpAt(w:World)(L:SL)(d:Dat):Prop where
 nf:zX3 w L.now.f d.σ.t.fields
 lf:∀(i:Nat) h t,L.lh[i]?=some h->d.σ.lev[i]?=some t->zX3 w h.f t.fields
 dt:∀(i:Nat) h t,L.dh[i]?=some h->d.σ.done[i]?=some t->h.page=t.page/\zXi w t h.f h.r
 fi:zXP w L.first L.f0 L.f1 d.first
 la:zXP w L.last L.l0 L.l1 d.last
 wb:∀(i:Nat) x y,L.wh[i]?=some x->d.wr[i]?=some y->x.1=y.file/\x.2.1=y.at_/\ByV w x.2.2 y.b
theorem KpAt.pu{L:SL}{d:Dat}(h:KpAt w L d)(hp:Pu w w'):KpAt w' L d:=
 ⟨h.nf.pu hp,λi x t hx ht=>(h.lf i x t hx ht).pu hp,λi x t hx ht=>⟨(h.dt i x t hx ht).1,(h.dt i x t hx ht).2.pu hp⟩,h.fi.pu hp,h.la.pu hp,λi x y hx hy=>⟨(h.wb i x y hx hy).1,(h.wb i x y hx hy).2.1,(h.wb i x y hx hy).2.2.pu hp⟩⟩
structure zQF(X:Nat->Prop)(w:World)(L:SL)(d:Dat)(mu:Int):Prop where
 st:w.heap[L.S]?=some (.cells (zJX mu L) 108)
 lv:zQl w 35 3 L.lv (L.lh.flatMap zVE)
 dn:zQl w 35 3 L.dn (L.dh.flatMap zVE)
 wr:zQl w 90 3 L.wr (L.wh.flatMap wrC)
 pt:zQl w 3 1 L.pt (d.pts.map (Value.int .i64))
 now:zJF w d.σ.t L.now
 ll:L.lh.length=d.σ.lev.length
 dl:L.dh.length=d.σ.done.length
 wl:L.wh.length=d.wr.length
 lvs:∀(i:Nat) h t,L.lh[i]?=some h->d.σ.lev[i]?=some t->zJF w t h
 ld:∀b ∈ zQe L.lv,b ∉ zQe L.dn
 dj:∀x ∈ L.lh,∀b,L.now.own b->¬x.own b
 djl:∀(i j:Nat) x y,i ≠ j->L.lh[i]?=some x->L.lh[j]?=some y->∀b,x.own b->¬y.own b
 xl:∀b,X b->b<w.heap.size
 kp:∀w',Fr (λb=>L.own b∨X b) w w'->KpAt w' L d
variable {X : Nat -> Prop} {L L' : SL} {d d' : Dat} {mu : Int}
theorem zQF.kp0(h:zQF X w L d mu):KpAt w L d:=h.kp w (Fr.refl _ _)
theorem zQF.lev_tab(h:zQF X w L d mu){x:HT}(hx:x ∈ L.lh):∃t,t ∈ d.σ.lev/\zJF w t x:=by
 obtain⟨i,hi⟩:=List.getElem?_of_mem hx
 obtain⟨t,ht⟩:=zQK (l:=d.σ.lev) (k:=i) (by rw[←h.ll];exact(List.getElem?_eq_some_iff.1 hi).1)
 exact⟨t,List.mem_of_getElem? ht,h.lvs i x t hi ht⟩
theorem zQF.any_tab(h:zQF X w L d mu){x:HT}(hx:x ∈ L.now :: L.lh):∃t,zJF w t x:=by
 rcases List.mem_cons.1 hx with rfl|hx
 ·exact⟨_,h.now⟩
 ·obtain⟨t,_,ht⟩:=h.lev_tab hx;exact⟨t,ht⟩
theorem zQF.own_lt(h:zQF X w L d mu){b:Nat}(hb:L.own b):b<w.heap.size:=by
 rcases hb with rfl|hb|hb|hb|hb|⟨x,hx,hb⟩
 ·exact zQy h.st
 ·exact h.lv.lt b hb
 ·exact h.dn.lt b hb
 ·exact h.wr.lt b hb
 ·exact h.pt.lt b hb
 ·obtain⟨t,ht⟩:=h.any_tab hx;exact ht.lt b hb
theorem zQF.fr{B:Nat->Prop}(h:zQF X w L d mu)(hf:Fr B w w')(hn:∀b,L.own b->¬B b)(hx:∀b,B b->b<w.heap.size->X b):zQF X w' L d mu where
 st:=hf.blk h.st (hn _ (.inl rfl))
 lv:=h.lv.fr hf λb hb=>hn b (.inr (.inl hb))
 dn:=h.dn.fr hf λb hb=>hn b (.inr (.inr (.inl hb)))
 wr:=h.wr.fr hf λb hb=>hn b (.inr (.inr (.inr (.inl hb))))
 pt:=h.pt.fr hf λb hb=>hn b (.inr (.inr (.inr (.inr (.inl hb)))))
 now:=h.now.fr hf λb hb=>hn b (.inr (.inr (.inr (.inr (.inr ⟨_,List.mem_cons_self,hb⟩)))))
 ll:=h.ll
 dl:=h.dl
 wl:=h.wl
 lvs:=λi x t h1 h2=>(h.lvs i x t h1 h2).fr hf λb hb=>hn b (.inr (.inr (.inr (.inr (.inr ⟨_,List.mem_cons_of_mem _ (List.mem_of_getElem? h1),hb⟩)))))
 ld:=h.ld
 dj:=h.dj
 djl:=h.djl
 xl:=λb hb=>Nat.lt_of_lt_of_le (h.xl b hb) hf.size
 kp:=λw2 h2=>h.kp w2 ((hf.mono λb hb hlt=>.inr (hx b hb hlt)).trans h2 λb hb _=>hb)
theorem zQF.pu(h:zQF X w L d mu)(hp:Pu w w'):zQF X w' L d mu:=h.fr (Fr.pu hp:Fr (λ_=>False) w w') (λ_ _ h=>h) (λ_ h=>h.elim)
theorem zQF.cell(h:zQF X w L d mu)(o:Nat):w.cell? ⟨L.S,o,none⟩=(zJX mu L)[o]?:=zQE h.st o
theorem zQF.cellA(h:zQF X w L d mu)(o:Nat):w.cell? ((⟨L.S,0,none⟩:Addr).add o)=(zJX mu L)[o]?:=by rw[zQs,Nat.zero_add];exact h.cell o
theorem zQF.cellB(h:zQF X w L d mu)(i o:Nat):w.cell? (((⟨L.S,0,none⟩:Addr).add i).add o)=(zJX mu L)[i+o]?:=by rw[zQs,zQs,Nat.zero_add];exact h.cell _
theorem zQF.rdNow(h:zQF X w L d mu)(hv:zQh d.σ.t=0):zXi w d.σ.t L.now.f L.now.r:=h.now.rd h.kp0.nf hv
structure zXY(w w':World)(L L':SL):Prop where
 fr:Fr L.own w w'
 own:∀b,L'.own b->L.own b∨w.heap.size<=b
 ptr:L'.S=L.S
theorem zXY.refl(w:World)(L:SL):zXY w w L L:=⟨Fr.refl _ _,λ_ h=>.inl h,rfl⟩
theorem zXY.pu(hp:Pu w w')(L:SL):zXY w w' L L:=⟨Fr.pu hp,λ_ h=>.inl h,rfl⟩
theorem zXY.trans{w'':World}{L'':SL}(h:zXY w w' L L')(k:zXY w' w'' L' L''):zXY w w'' L L'':=by
 refine⟨h.fr.trans k.fr λb hb hlt=>(h.own b hb).resolve_right (by omega),λb hb=>?_,k.ptr.trans h.ptr⟩
 rcases k.own b hb with h1|h1
 ·exact h.own b h1
 ·exact .inr (Nat.le_trans h.fr.size h1)
theorem zXY.keep {Q:World->Prop} (h:zXY w w' L L') (hq:∀w2,Fr (λb=>L.own b∨X b) w w2->Q w2) (hxl:∀b,X b->b<w.heap.size):∀w2,Fr (λb=>L'.own b∨X b) w' w2->Q w2:=λw2 h2=>
 hq w2 ((h.fr.mono λb hb _=>.inl hb).trans h2 λb hb hlt=>by
  rcases hb with hb|hb
  ·exact .inl ((h.own b hb).resolve_right (by omega))
  ·exact .inr hb)
end Go.Proofs.YtaeecpjhfmcliaaGreatDoor
/- The log: rows, tables and files are copied. No condition but those stated. -/
namespace Go.Proofs.YtaeecpjhfmcliaaGreatDoor
open Go.Sh Go.RowKit Tryz
variable {w w' : World}
def zVI(w:World)(e:TypeId)(sz:Nat)(news:List Value):Rt:=λx w'=>∃q:SV,x=.returned (slV q)/\zQl w' e sz q news/\(∀b ∈ zQe q,w.heap.size<=b)/\Pu w w'
theorem zJy {t e:TypeId} {sz b:Nat} {z:Value} (ht:prog.underlying t=some (.slice e)) (hi:(prog.info? e).map (λi=>(i.zero,i.size,i.bytes))=some (some z,sz,b)) (hz:z.cells.size=sz) (hsz:0<sz)
  (s:SV) {news:List Value} (hl:news.length=s.len * sz) (hn:∀j u,news[j]?=some u->∃a,s.a=some a/\w.cell? (a.add j)=some u) (h1:∀u ∈ news,u.oneCell'=true) (hb:s.len * (b+1)<=140737488355328)
  :
  ∃b4:Bool,∃w1:World,(eqS .eql t (.tmp 3) (.const (.slice none 0 0)) (.slice s.a s.len s.cap) (.slice none 0 0)).run prog w=.ok (.bool b4) w1/\
  Br b4 (zVI w e sz news (.returned (.slice none 0 0)) w1) (alE (.cells #[] e) w1 λr5 w3=>
   ∃l7:SV,∃w4:World,(Builtin.append_ #[t,t] t #[.slice (some ⟨r5,0,none⟩) 0 0,.slice s.a s.len s.cap]).run prog w3=.ok (.slice l7.a l7.len l7.cap) w4/\zVI w e sz news (.returned (.slice l7.a l7.len l7.cap)) w4):=by
 refine⟨_,w,yXx ht _ _ _ _ _ w,Br.of (λhn'=>?_) (λhn'=>?_)⟩
 ·have xO:news=[]:=by
   cases news with
   | nil=>rfl
   | cons v l=>
    obtain⟨a,ha,_⟩:=hn 0 v rfl
    rw[ha]at hn';cases hn'
  subst xO
  exact⟨⟨none,0,0⟩,rfl,zQl.nil _ _ _,by simp[zQe],Pu.refl w⟩
 ·refine zY4 λw1 jT=>?_
  have ar:Pu w w1:=by rw[jT];exact Pu.alloc w _
  have xi:zQl w1 e sz ⟨some ⟨w.heap.size,0,none⟩,0,0⟩ []:=⟨by simp,.inr ⟨_,#[],rfl,by rw[jT];exact zZi w _,Nat.le_refl _,Nat.zero_le _,by simp,by simp⟩⟩
  obtain⟨q,w2,hr,hrow,hf,hblk,_⟩:=zQz (P:=prog) (ty:=t) ht hi hz hsz xi (A:=s.a) (m:=s.len) (c:=s.cap) (news:=news) hl (λj u hu=>by
   obtain⟨a,ha,hc⟩:=hn j u hu
   exact⟨a,ha,ar.cell hc⟩) h1 (by show(0+s.len) * (b+1)<=_;rw[Nat.zero_add];exact hb)
  rw[List.nil_append]at hrow
  refine⟨q,w2,hr,q,rfl,hrow,λb hb=>?_,ar.andNew hf λb hb=>by simp[zQe]at hb;omega⟩
  rcases hblk b hb with h|h
  ·simp[zQe]at h;omega
  ·have:=ar.size;omega
theorem zJ0 {α:Type} {cells:α->List Value} {n:Nat} (hn:∀x,(cells x).length=n) (h0:0<n) {s:SV} {l:List α} (h:∀i x,l[i]?=some x->∃a,s.a=some a/\∀o v,(cells x)[o]?=some v->w.cell? ((a.add (i * n)).add o)=some v) :
  ∀j u,(l.flatMap cells)[j]?=some u->∃a,s.a=some a/\w.cell? (a.add j)=some u:=λj u hu=>by
 have hj:j<l.length * n:=by have:=(List.getElem?_eq_some_iff.1 hu).1;rwa [zQ3 hn]at this
 have hd:j / n<l.length:=(Nat.div_lt_iff_lt_mul h0).2 hj
 have hm:j / n * n+j % n=j:=by have:=Nat.div_add_mod j n;rw[Nat.mul_comm]at this;exact this
 obtain⟨x,hx⟩:=zQK hd
 obtain⟨a,ha,hc⟩:=h _ x hx
 have h2:=zKL hn hx (j % n) (Nat.mod_lt _ h0)
 rw[hm,hu]at h2
 have h3:=hc _ u h2.symm
 rw[Addr.add_add,hm]at h3
 exact⟨a,ha,h3⟩
theorem yXy{s:SV}{l:List Val}(h:RdV w s l)(hb:l.length<=1000000):Calls prog 78 #[slV s] w (zVI w 73 3 (l.flatMap zVt)):=by
 have hl:=h.len
 refine xXr s w _ (zJy vu38 vi73 rfl (by decide) s (by rw[zQ3 zX6,hl]) (zJ0 zX6 (by decide) λi v hv=>?_) (λu hu=>?_) (by omega))
 ·obtain⟨a,ha,c0,c1,c2⟩:=h.get i v hv
  refine⟨a,ha,λo u hu=>?_⟩
  rcases o with _|_|_|o <;> simp[zVt]at hu <;> subst hu <;> assumption
 ·obtain⟨y,_,hy⟩:=List.mem_flatMap.1 hu
  simp[zVt]at hy
  rcases hy with rfl|rfl|rfl <;> rfl
theorem xJy{s:SV}{l:List Fld}(h:zX3 w s l)(hb:l.length<=1000000):Calls prog 97 #[slV s] w (zVI w 129 4 (l.flatMap zVV)):=by
 have hl:=h.len
 refine xXf s w _ (zJy vu32 vi129 rfl (by decide) s (by rw[zQ3 zZx,hl]) (zJ0 zZx (by decide) λi v hv=>?_) (λu hu=>?_) (by omega))
 ·obtain⟨a,ha,_,_,_,_,c0,c1,c2,c3⟩:=zJi h hv
  refine⟨a,ha,λo u hu=>?_⟩
  rcases o with _|_|_|_|o <;> simp[zVV]at hu <;> subst hu <;> assumption
 ·obtain⟨y,_,hy⟩:=List.mem_flatMap.1 hu
  simp[zVV]at hy
  rcases hy with rfl|rfl|rfl|rfl <;> rfl
def RdR (w:World) (s:SV) (hs:List (Bool × SV)) (rs:List Rec):Prop:=s.len=rs.length/\hs.length=rs.length/\(∀(i:Nat) (x:Bool × SV),hs[i]?=some x->∃a,s.a=some a/\w.cell? ((a.add (i * 2)).add 0)=some (.bool x.1)/\w.cell? ((a.add (i * 2)).add 1)=some (slV x.2))/\∀(i:Nat) (x:Bool × SV) (r:Rec),hs[i]?=some x->rs[i]?=some r->x.1=r.gone/\RdV w x.2 r.v
theorem RdR.of{s:SV}{rs:List Rec}(h:zX3 w s rs):∃hs,RdR w s hs rs:=by
 have key:∀i r,rs[i]?=some r->∃x:Bool × SV,∃a,s.a=some a/\w.cell? ((a.add (i * 2)).add 0)=some (.bool x.1)/\w.cell? ((a.add (i * 2)).add 1)=some (slV x.2)/\x.1=r.gone/\RdV w x.2 r.v:=λi r hr=>by
  obtain⟨a,t,h1,_,h2,h3,h4⟩:=zKn h hr
  exact⟨(r.gone,t),a,h1,h3,h4,rfl,RdV.of h2⟩
 have wL:∀n,n<=rs.length->∃hs:List (Bool × SV),hs.length=n/\∀(i:Nat) (x:Bool × SV) (r:Rec),hs[i]?=some x->rs[i]?=some r->∃a,s.a=some a/\w.cell? ((a.add (i * 2)).add 0)=some (.bool x.1)/\w.cell? ((a.add (i * 2)).add 1)=some (slV x.2)/\x.1=r.gone/\RdV w x.2 r.v:=by
  intro n
  induction n with
  | zero=>exact λ_=>⟨[],rfl,λi x r hx=>by simp at hx⟩
  | succ n ih=>
   intro hn
   obtain⟨hs,h1,h2⟩:=ih (by omega)
   obtain⟨r,hr⟩:=zQK (l:=rs) (k:=n) (by omega)
   obtain⟨x,hx⟩:=key n r hr
   refine⟨hs ++ [x],by simp[h1],λi y r' hy hr'=>?_⟩
   rcases Nat.lt_trichotomy i n with hi|hi|hi
   ·rw[List.getElem?_append_left (by omega)]at hy;exact h2 i y r' hy hr'
   ·subst hi
    rw[List.getElem?_append_right (by omega),h1,Nat.sub_self]at hy
    simp at hy;subst hy
    rw[hr]at hr';cases hr'
    exact hx
   ·rw[List.getElem?_eq_none (by rw[List.length_append,h1,List.length_singleton];omega)]at hy;cases hy
 obtain⟨hs,h1,h2⟩:=wL rs.length (Nat.le_refl _)
 refine⟨hs,h.len,h1,λi x hx=>?_,λi x r hx hr=>?_⟩
 ·obtain⟨r,hr⟩:=zQK (l:=rs) (k:=i) (by have:=(List.getElem?_eq_some_iff.1 hx).1;omega)
  obtain⟨a,q1,q2,q3,_⟩:=h2 i x r hx hr
  exact⟨a,q1,q2,q3⟩
 ·obtain⟨a,_,_,_,q4,q5⟩:=h2 i x r hx hr
  exact⟨q4,q5⟩
theorem xZl {s:SV} {hs:List (Bool × SV)} {rs:List Rec} (h:RdR w s hs rs) (hb:rs.length<=1000000):Calls prog 98 #[slV s] w (zVI w 67 2 (hs.flatMap yKp)):=by
 obtain⟨hl,pV,h3,h4⟩:=h
 refine xQA s w _ (zJy vu33 vi67 rfl (by decide) s (by rw[zQ3 zQL,hl,pV]) (zJ0 zQL (by decide) λi v hv=>?_) (λu hu=>?_) (by omega))
 ·obtain⟨a,ha,c0,c1⟩:=h3 i v hv
  refine⟨a,ha,λo u hu=>?_⟩
  rcases o with _|_|o <;> simp[yKp]at hu <;> subst hu <;> assumption
 ·obtain⟨y,_,hy⟩:=List.mem_flatMap.1 hu
  simp[yKp]at hy
  rcases hy with rfl|rfl <;> rfl
theorem xJp {s:SV} {l:List Int} (h:zQl w 3 1 s (l.map (Value.int .i64))) (hb:l.length<=1000000):Calls prog 74 #[slV s] w (zVI w 3 1 (l.map (Value.int .i64))):=by
 have hl:=h.1
 rw[List.length_map,Nat.mul_one]at hl
 refine yY4 s w _ (zJy vu52 vi3 rfl (by decide) s (by rw[List.length_map,Nat.mul_one,hl]) (λj u hu=>?_) (λu hu=>?_) (by omega))
 ·obtain⟨a,ha,hc,_⟩:=h.cell hu;exact⟨a,ha,hc⟩
 ·obtain⟨y,_,rfl⟩:=List.mem_map.1 hu;rfl
theorem xZV{s:SV}{l:List UInt8}(h:ByV w s l)(hb:l.length<=1000000000):Calls prog 110 #[slV s] w λe w'=>∃q:SV,e=.returned (slV q)/\zQi w w' q l/\Pu w w':=by
 have hl:=h.len
 refine(yV8 s w (zVI w 5 1 (l.map u8V)) (zJy vu22 vi5 rfl (by decide) s (by rw[List.length_map,Nat.mul_one,hl]) (λj u hu=>?_) (λu hu=>?_) (by omega))).mono λe w' ⟨q,h0,h1,h2,h3⟩=>⟨q,h0,⟨h1,h2⟩,h3⟩
 ·obtain⟨b,hb,rfl⟩:∃b,l[j]?=some b/\u8V b=u:=by simpa using hu
  obtain⟨a,ha,hc⟩:=h.get j b hb
  exact⟨a,ha,by rw[Nat.mul_one]at hc;exact hc⟩
 ·obtain⟨y,_,rfl⟩:=List.mem_map.1 hu;rfl
theorem zXP.cells{s q0 q1:SV}{F:Fls}(h:zXP w s q0 q1 F):∀(j:Nat) u,[slV q0,slV q1][j]?=some u->∃a,s.a=some a/\w.cell? (a.add j)=some u:=by
 obtain⟨a,h1,h2,h3⟩:=h.ex
 refine λj u hu=>⟨a,h1,?_⟩
 rcases j with _|_|j <;> simp at hu <;> subst hu <;> assumption
theorem yYq{s q0 q1:SV}{F:Fls}(h:zXP w s q0 q1 F):Calls prog 109 #[slV s] w (zVI w 22 1 [slV q0,slV q1]):=by
 have hl:=h.len
 refine yVb s w _ (zJy vu82 vi22 rfl (by decide) s (by rw[hl];rfl) h.cells (λu hu=>?_) (by omega))
 simp at hu
 rcases hu with rfl|rfl <;> rfl
structure zWw(w0 w:World)(t:Tbl)(h:HT):Prop where
 tab:zJF w t h
 f:zQl w 129 4 h.f (t.fields.flatMap zVV)
 fn:∀b ∈ zQe h.f,w0.heap.size<=b
 rn:∀b ∈ zQe h.r,w0.heap.size<=b
 vn:∀b ∈ vBl h.hs,w0.heap.size<=b
theorem zWw.fr{w0:World}{t:Tbl}{h:HT}{B:Nat->Prop}(ht:zWw w0 w t h)(hf:Fr B w w')(hn:∀b,w0.heap.size<=b->b<w.heap.size->¬B b):zWw w0 w' t h where
 tab:=ht.tab.fr hf λb hb=>hn b (hb.elim (ht.rn b) (ht.vn b)) (ht.tab.lt b hb)
 f:=ht.f.fr hf λb hb=>hn b (ht.fn b hb) (ht.f.lt b hb)
 fn:=ht.fn
 rn:=ht.rn
 vn:=ht.vn
theorem zWw.pu{w0:World}{t:Tbl}{h:HT}(ht:zWw w0 w t h)(hp:Pu w w'):zWw w0 w' t h:=ht.fr (Fr.pu hp:Fr (λ_=>False) w w') λ_ _ _ h=>h
theorem zWw.low{w0 w1:World}{t:Tbl}{h:HT}(ht:zWw w1 w t h)(hz:w0.heap.size<=w1.heap.size):zWw w0 w t h:=
 ⟨ht.tab,ht.f,λb hb=>Nat.le_trans hz (ht.fn b hb),λb hb=>Nat.le_trans hz (ht.rn b hb),λb hb=>Nat.le_trans hz (ht.vn b hb)⟩
theorem zWC {t:Tbl} {s:SV} (hv:zQh t=0) (ht:zQl w 129 4 s (t.fields.flatMap zVV)):zX3 w s t.fields:=by
 have ho:=zJf.of hv
 have iP:=ho.n16
 refine zKz.rd (w0:={ w with heap:=#[] }) ⟨ht,λ_ _=>Nat.zero_le _⟩ (by omega) λg hg=>?_
 have hg:=List.all_eq_true.1 ho.all g hg
 have h1:=yQI hg
 have h2:=zXq hg
 exact⟨⟨by omega,by omega⟩,⟨by omega,by omega⟩⟩
theorem zWw.fields{w0:World}{t:Tbl}{h:HT}(ht:zWw w0 w t h)(hv:zQh t=0):zX3 w h.f t.fields:=zWC hv ht.f
theorem zWw.rd{w0:World}{t:Tbl}{h:HT}(ht:zWw w0 w t h)(hv:zQh t=0):zXi w t h.f h.r:=ht.tab.rd (ht.fields hv) hv
theorem zYx(s:SV):(zQe s).Nodup:=by unfold zQe;split <;> simp
theorem zXx (a b:List (Bool × SV)):vBl (a ++ b)=vBl a ++ vBl b:=by unfold vBl;rw[List.flatMap_append]
theorem xQe {hs:List (Bool × SV)} {k:Nat} {x:Bool × SV} (hk:k<hs.length):hs.set k x=hs.take k ++ x :: hs.drop (k+1):=by
 rw[List.set_eq_take_append_cons_drop,if_pos hk]
theorem RdR.pu {s:SV} {hs:List (Bool × SV)} {rs:List Rec} (h:RdR w s hs rs) (hp:Pu w w'):RdR w' s hs rs:=
 ⟨h.1,h.2.1,λi x hx=>let ⟨a,h1,h2,h3⟩:=h.2.2.1 i x hx;⟨a,h1,hp.cell h2,hp.cell h3⟩,λi x r hx hr=>⟨(h.2.2.2 i x r hx hr).1,(h.2.2.2 i x r hx hr).2.pu hp⟩⟩
theorem zJR{t:Tbl}{f r:SV}(h:zXi w t f r)(hv:zQh t=0):Calls prog 56 #[zKQ t f r] w λe w'=>∃q:HT,e=.returned (.agg #[.int .i64 q.page,slV q.f,slV q.r])/\zWw w w' t q/\Pu w w':=by
 have hR:=zQM.of hv
 have cJ:=hR.n300
 have oN:=zZg hv
 have iP:=(zJf.of hv).n16
 obtain⟨hs,hrr⟩:=RdR.of h.recs
 have r2:=hrr.2.1
 refine yYg _ _ _ w _ (alB λw1 ar aA=>alB λw2 aq aN=>?_)
 have cL:=aq.blk aA
 have aE:=ar.trans aq
 refine⟨f,cl cL 1,(xJy (h.fields.pu aE) (by omega)).mono ?_⟩
 rintro e w3 ⟨q,rfl,hq,hqn,au⟩
 have kv:=au.blk cL
 have pI:=au.blk aN
 have l1:w.heap.size<w1.heap.size:=zQy aA
 have l2:w1.heap.size<w2.heap.size:=zQy aN
 have z3:=au.size
 refine⟨q,rfl,zQu kv (by show 1<3;omega) λw4 hw4 iy=>?_⟩
 have f34:Fr (·=w.heap.size) w3 w4:=by rw[hw4];exact Fr.cell w3 _ _ _
 have ct:Pu w w4:=(aE.trans au).andNew f34 λi hi=>by rw[show i=_ from hi];exact Nat.le_refl _
 have sf:=f34.blk pI (show ¬w1.heap.size=w.heap.size by omega)
 have xG:=hq.fr f34 λb hb e=>by have:=hqn b hb;have e:b=w.heap.size:=e;omega
 refine⟨r,cl iy 2,(xZl (hrr.pu ct) (by omega)).mono ?_⟩
 rintro e w5 ⟨s,rfl,ou,hsn,aT⟩
 have iN:=aT.blk iy
 have qg:=aT.blk sf
 have z4:w4.heap.size=w3.heap.size:=by rw[hw4];simp
 have z5:=aT.size
 refine⟨s,rfl,zQu iN (by show 2<3;omega) λw6 hw6 iQ=>?_⟩
 have f56:Fr (·=w.heap.size) w5 w6:=by rw[hw6];exact Fr.cell w5 _ _ _
 have z6:w6.heap.size=w5.heap.size:=by rw[hw6];simp
 have eJ:Pu w w6:=(ct.trans aT).andNew f56 λi hi=>by rw[show i=_ from hi];exact Nat.le_refl _
 have pZ:=f56.blk qg (show ¬w1.heap.size=w.heap.size by omega)
 have xC:=ou.fr f56 λb hb e=>by have:=hsn b hb;have e:b=w.heap.size:=e;omega
 have sv:=(xG.pu aT).fr f56 λb hb e=>by have:=hqn b hb;have e:b=w.heap.size:=e;omega
 have hsl:=xC.len zQL (by decide)
 refine⟨s,cl iQ 2,?_⟩
 rw[show((s.len:Nat):Int)=((t.recs.length:Nat):Int)by rw[hsl,r2]]
 -- the loop: so many rows of values are new
 refine zQx t.recs.length (λk j w'=>j=(k:Int)/\∃ns:List (Bool × SV),ns.length=k/\zQl w' 67 2 s ((ns ++ hs.drop k).flatMap yKp)/\w'.heap[w.heap.size]?=some (.cells #[.int .i64 t.page,slV q,slV s] 35)/\w'.heap[w1.heap.size]?=some (.cells #[.int .i64 0,.slice none 0 0,.slice none 0 0] 35)/\
   Pu w w'/\zQl w' 129 4 q (t.fields.flatMap zVV)/\w6.heap.size<=w'.heap.size/\(vBl ns).Nodup/\(∀b ∈ vBl ns,w6.heap.size<=b)/\∀(i:Nat) (x:Bool × SV) (r:Rec),ns[i]?=some x->t.recs[i]?=some r->x.1=r.gone/\zQl w' 73 3 x.2 (r.v.flatMap zVt))
  ⟨rfl,[],rfl,by simpa using xC,iQ,pZ,eJ,sv,Nat.le_refl _,by simp[vBl],by simp[vBl],λi x r hx=>by simp at hx⟩ ?_
 rintro k J j wa hk ⟨hj,ns,n1,n2,n3,n4,n5,n6,n7,n8,n9,iU⟩ hJ
 obtain rfl:j=(k:Int):=hj
 have hsl:=n2.len zQL (by decide)
 rw[List.length_append,List.length_drop,n1,r2]at hsl
 refine Br.of (λc=>?_) (λc=>?_)
 ·have hkn:k<t.recs.length:=by have:=zQj c;omega
  obtain⟨x,hx⟩:=zQK (l:=hs) (k:=k) (by omega)
  obtain⟨rc,hrc⟩:=zQK hkn
  have hnx:(ns ++ hs.drop k)[k]?=some x:=by rw[List.getElem?_append_right (by omega),n1,Nat.sub_self,List.getElem?_drop,Nat.add_zero];exact hx
  obtain⟨e1,e2⟩:=hrr.2.2.2 k x rc hx hrc
  obtain⟨a,ha,_,c0⟩:=n2.elem zQL hnx (o:=0) rfl
  obtain⟨a',ha',_,c1⟩:=n2.elem zQL hnx (o:=1) rfl
  rw[ha]at ha';cases ha'
  refine⟨a,ha,by omega,by omega,x.1,by rw[zXn];exact c0,x.2,by rw[zXn];exact c1,?_⟩
  refine alB λwb hpb bb=>zQg bb yWv.symm rfl rfl λwc bc fc zc=>zQc λwd hpd hhd=>?_
  have hac:Pu wa wc:=hpb.andNew fc λi hi=>by rw[show i=_ from hi];exact Nat.le_refl _
  have had:=hac.trans hpd
  have bd:=hpd.blk bc
  have hr300:rc.v.length<=1000000:=(oN rc (List.mem_of_getElem? hrc)).2
  refine⟨λu=>Pu wd u,Pu.refl _,s,λu hu=>cl (hu.blk (had.blk n3)) 2,x.2,λu hu=>cl (hu.blk bd) 1,(yXy (e2.pu (n5.trans had)) hr300).mono ?_⟩
  rintro e we ⟨v,rfl,hv1,hv2,hpe⟩
  have hae:=had.trans hpe
  refine⟨v,rfl,hpe,a,ha,by omega,by omega,?_⟩
  obtain⟨a2,xS,hst⟩:∃a2,s.a=some a2/\Sh.st1 ((a2.add (k * 2)).add 1) (slV v) we λw'=>J (IntKind.i64.wrap ((k:Int)+1)) w':=by
   refine zQl.stField (n2.pu hae) zQL (i:=k) (o:=1) (by rw[List.length_append,List.length_drop,n1];omega) (by decide) (x.1,v) (slV v) (λy hy=>by rw[hnx]at hy;cases hy;rfl) λwf hwf ff zf=>?_
   rw[zQa (by omega) (by omega)]
   have hne:∀{b:Nat} {c:Array Value} {e:TypeId},we.heap[b]?=some (.cells c e)->e ≠ 67->¬b ∈ zQe s:=λhb he=>(n2.pu hae).other hb (Ne.symm he)
   have zae:=hae.size
   have hslo:∀b ∈ zQe s,w4.heap.size<=b:=hsn
   have hshi:∀b ∈ zQe s,b<w6.heap.size:=xC.lt
   refine hJ _ _ hkn ⟨by omega,ns ++ [(x.1,v)],by simp[n1],?_,ff.blk (hae.blk n3) (hne (hae.blk n3) (by decide)),ff.blk (hae.blk n4) (hne (hae.blk n4) (by decide)),(n5.trans hae).andNew ff λb hb=>by have:=hslo b hb;omega,(n6.pu hae).fr ff (λb hb aN=>zQr (n6.pu hae) (n2.pu hae) (by decide) b hb aN),by omega,?_,?_,?_⟩
   ·have e:(ns ++ hs.drop k).set k (x.1,v)=ns ++ [(x.1,v)] ++ hs.drop (k+1):=by
     rw[List.set_append,if_neg (by omega),n1,Nat.sub_self,zXR hx,List.set_cons_zero,List.append_assoc];rfl
    rw[←e];exact hwf
   ·rw[zXx]
    refine List.nodup_append.2 ⟨n8,by simp[vBl,zYx],λb hb c hc e=>?_⟩
    subst e
    have hc:b ∈ zQe v:=by simpa[vBl] using hc
    have h1:=hv2 b hc
    obtain⟨y,hy,hyb⟩:=List.mem_flatMap.1 hb
    obtain⟨i,hi⟩:=List.getElem?_of_mem hy
    obtain⟨ry,hry⟩:=zQK (l:=t.recs) (k:=i) (by have:=(List.getElem?_eq_some_iff.1 hi).1;omega)
    have h2:=(iU i y ry hi hry).2.lt b hyb
    have:=had.size
    omega
   ·intro b hb
    rw[zXx,List.mem_append]at hb
    rcases hb with hb|hb
    ·exact n9 b hb
    ·have hb:b ∈ zQe v:=by simpa[vBl] using hb
     have h1:=hv2 b hb
     have:=had.size
     omega
   ·intro i y ry hy hry
    rcases Nat.lt_trichotomy i k with hi|hi|hi
    ·rw[List.getElem?_append_left (by omega)]at hy
     obtain⟨q1,q2⟩:=iU i y ry hy hry
     exact⟨q1,(q2.pu hae).fr ff (zQr (q2.pu hae) (n2.pu hae) (by decide))⟩
    ·subst hi
     rw[List.getElem?_append_right (by omega),n1,Nat.sub_self]at hy
     simp at hy;subst hy
     rw[hrc]at hry;cases hry
     exact⟨e1,hv1.fr ff (zQr hv1 (n2.pu hae) (by decide))⟩
    ·rw[List.getElem?_eq_none (by rw[List.length_append,n1,List.length_singleton];omega)]at hy;cases hy
  rw[ha]at xS;cases xS
  rw[zXn];exact hst
 ·have hkn:k=t.recs.length:=by have:=zQd c;omega
  subst hkn
  refine⟨_,cl n3 0,q,cl n3 1,s,cl n3 2,zQg n4 zK8.symm rfl rfl λwz bz fz zz=>⟨_,cl bz 0,q,cl bz 1,s,cl bz 2,⟨t.page,q,s,ns⟩,rfl,?_,n5.andNew fz λi hi=>by rw[show i=_ from hi];omega⟩⟩
  rw[←r2,List.drop_length,List.append_nil]at n2
  have nz:∀b,w2.heap.size<=b->b ≠ w1.heap.size:=λb hb e=>by omega
  refine⟨⟨rfl,n2.fr fz λb hb=>nz b (by have:=hsn b hb;omega),n1,λi x r hx hr=>⟨(iU i x r hx hr).1,(iU i x r hx hr).2.fr fz λb hb=>nz b (by have:=n9 b (zVi (List.mem_of_getElem? hx) hb);omega)⟩,n8⟩,n6.fr fz λb hb=>nz b (hqn b hb),λb hb=>by have:=hqn b hb;omega,λb hb=>by have:=hsn b hb;omega,λb hb=>by have:=n9 b hb;omega⟩
end Go.Proofs.YtaeecpjhfmcliaaGreatDoor
