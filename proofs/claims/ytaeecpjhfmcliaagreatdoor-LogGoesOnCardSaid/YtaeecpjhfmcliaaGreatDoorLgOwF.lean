import Derived.Test.YtaeecpjhfmcliaaGreatDoorLgOwE
import Derived.Test.YtaeecpjhfmcliaaGreatDoorLgOwC
import Derived.Test.YtaeecpjhfmcliaaGreatDoorShFourteen
import Derived.Test.YtaeecpjhfmcliaaGreatDoorShTwentyOne
import Derived.Test.YtaeecpjhfmcliaaGreatDoorShTwentyTwo
import Derived.Test.YtaeecpjhfmcliaaGreatDoorShTwentyFive
import Derived.Test.YtaeecpjhfmcliaaGreatDoorShTwentyNine
/- The log: what bytes of the log tell, record by record; what is cut off or put behind; recoveries. In plain words. No condition but those stated. -/
set_option linter.unusedVariables false
set_option linter.unusedSimpArgs false
noncomputable section
namespace Go.Proofs.YtaeecpjhfmcliaaGreatDoor
open Go.Sh Go.RowKit Tryz
def zJu(cur:Option Tbl)(a:Bool)(k:UInt8)(body:List UInt8):Option Tbl × Bool:=
 if k=119 then(zXx body,true)else if k ≠ 99 then(none,a)else(cur.bind λt=>zQZ t body,a)
theorem zXO{cur:Option Tbl}{a:Bool}{rest:List UInt8}(h:zZH rest=none):zJK cur a rest=(cur,rest,a):=by
 rw[zJK];split
 ·rfl
 ·next hx=>rw[h]at hx;cases hx
theorem zZF {cur:Option Tbl} {a:Bool} {rest body more:List UInt8} {k:UInt8} (h:zZH rest=some (k,body,more)):zJK cur a rest=zJK (zJu cur a k body).1 (zJu cur a k body).2 more:=by
 rw[zJK];split
 ·next hx=>rw[h]at hx;cases hx
 ·next k' body' more' hx=>
  rw[h]at hx
  simp only[Option.some.injEq,Prod.mk.injEq]at hx
  obtain⟨rfl,rfl,rfl⟩:=hx
  unfold zJu
  split
  ·rfl
  ·split <;> rfl
theorem yJh{M:Option Tbl->Bool->List UInt8->Prop}(h0:∀cur a rest,zZH rest=none->M cur a rest)
  (h1:∀cur a rest k body more,zZH rest=some (k,body,more)->M (zJu cur a k body).1 (zJu cur a k body).2 more->M cur a rest):∀cur a rest,M cur a rest:=by
 have key:∀n cur a rest,rest.length=n->M cur a rest:=by
  intro n
  induction n using Nat.strongRecOn with
  | _ n ih=>
   intro cur a rest hn
   cases h:zZH rest with
   | none=>exact h0 cur a rest h
   | some x=>
    obtain⟨k,body,more⟩:=x
    exact h1 cur a rest k body more h (ih more.length (by rw[←hn];exact yXq h) _ _ more rfl)
 exact λcur a rest=>key _ cur a rest rfl
theorem seg{b x:List UInt8}{m i j:Nat}(h:i+j<=m)(hm:m<=b.length):((b.take m ++ x).drop i).take j=(b.drop i).take j:=by
 have hl:(b.take m).length=m:=by rw[List.length_take];omega
 rw[List.drop_append_of_le_length (by omega),List.take_append_of_le_length (by rw[List.length_drop];omega),List.drop_take,List.take_take,Nat.min_eq_left (by omega)]
theorem yJQ {b body more:List UInt8} {k:UInt8} (h:zZH b=some (k,body,more)):∃front,b=front ++ more/\9<=front.length/\∀x,zZH (front ++ x)=some (k,body,x):=by
 unfold zZH at h
 split at h
 ·cases h
 rename_i h9
 split at h
 ·cases h
 rename_i hn
 split at h
 ·cases h
 rename_i hs
 simp only[Option.some.injEq,Prod.mk.injEq]at h
 obtain⟨rfl,rfl,rfl⟩:=h
 obtain⟨n,en⟩:∃n,n=zQY ((b.drop 1).take 4):=⟨_,rfl⟩
 rw[←en]at hn hs ⊢
 have hm:9+n<=b.length:=by omega
 have hl:(b.take (9+n)).length=9+n:=by rw[List.length_take];omega
 refine⟨b.take (9+n),(List.take_append_drop _ _).symm,by omega,λx=>?_⟩
 have e1:(((b.take (9+n)) ++ x).drop 1).take 4=(b.drop 1).take 4:=seg (by omega) hm
 have e2:(((b.take (9+n)) ++ x).drop (5+n)).take 4=(b.drop (5+n)).take 4:=seg (by omega) hm
 have e3:((b.take (9+n)) ++ x).take (5+n)=b.take (5+n):=seg (i:=0) (by omega) hm
 have e4:(((b.take (9+n)) ++ x).drop 5).take n=(b.drop 5).take n:=seg (by omega) hm
 have e5:((b.take (9+n)) ++ x).drop (9+n)=x:=by
  conv=>lhs;rw[←hl]
  rw[hl]
  have:=List.drop_left (l₁:=b.take (9+n)) (l₂:=x)
  rw[hl]at this;exact this
 have e6:((b.take (9+n)) ++ x).headD 0=b.headD 0:=by
  cases b with
  | nil=>simp at hm
  | cons c b=>rw[show 9+n=(8+n)+1 by omega];rfl
 unfold zZH
 rw[e1,←en,if_neg (by rw[List.length_append];omega),if_neg (by rw[List.length_append];omega),e2,e3,if_neg hs,e4,e5,e6]
theorem zYj:∀(cur:Option Tbl) (a:Bool) (rest:List UInt8),zZH (zJK cur a rest).2.1=none/\∃front,rest=front ++ (zJK cur a rest).2.1/\∀x,zJK cur a (front ++ x)=zJK (zJK cur a rest).1 (zJK cur a rest).2.2 x:=by
 refine yJh (λcur a rest h=>?_) (λcur a rest k body more h ih=>?_)
 ·rw[zXO h]
  exact⟨h,[],rfl,λx=>rfl⟩
 ·rw[zZF h]
  obtain⟨h1,f,h2,h3⟩:=ih
  obtain⟨g,g1,_,g3⟩:=yJQ h
  refine⟨h1,g ++ f,?_,λx=>?_⟩
  ·rw[List.append_assoc,←h2];exact g1
  ·rw[List.append_assoc,zZF (g3 (f ++ x)),h3]
theorem yZg:∀(cur:Option Tbl) (a:Bool) (rest:List UInt8),a=false->(zJK cur a rest).2.2=true->∀cur',zJK cur' a rest=zJK cur a rest:=by
 refine yJh (λcur a rest h ha hb=>?_) (λcur a rest k body more h ih ha hb cur'=>?_)
 ·rw[zXO h]at hb
  rw[show a=true from hb]at ha;cases ha
 ·rw[zZF h]at hb
  rw[zZF h,zZF h]
  by_cases hk:k=119
  ·have e:∀c,zJu c a k body=(zXx body,true):=λc=>by unfold zJu;rw[if_pos hk]
   rw[e,e]
  ·have e:∀c,(zJu c a k body).2=a:=λc=>by
    unfold zJu;rw[if_neg hk];split <;> rfl
   rw[e]at hb ih
   rw[e,e]
   exact ih ha hb _
theorem yJZ{cur:Option Tbl}{a:Bool}{k:UInt8}{body x:List UInt8}(hb:body.length<4294967296):zJK cur a (zZY k body ++ x)=zJK (zJu cur a k body).1 (zJu cur a k body).2 x:=zZF (yYo hb)
theorem zWp {cur t:Option Tbl} {a b:Bool} {l:List UInt8} (h:zJK cur a l=(t,[],b)) (x:List UInt8):zJK cur a (l ++ x)=zJK t b x:=by
 obtain⟨_,f,h2,h3⟩:=zYj cur a l
 rw[h]at h2 h3
 simp only[List.append_nil]at h2
 subst h2
 exact h3 x
theorem zKp:zZH []=none:=rfl
theorem Fls.put1(F:Fls)(b:List UInt8):F.put 1 b=(F.1,b):=rfl
theorem zZo(F:Fls)(x:Wr):zQ1 F x=F.put x.file ((F.get x.file).take (min x.at_ (F.get x.file).length).toNat ++ x.b):=by
 unfold zQ1 zZs
 rw[if_neg (by omega),List.take_of_length_le (l:=x.b) (by omega)]
theorem zZ2(F:Fls)(x:Wr){k:Int}(h:k<=0):zZs F x k=F:=by unfold zZs;rw[if_pos h]
theorem zJ4(F:Fls)(x:Wr){k:Int}(h:0<k):zZs F x k=F.put x.file ((F.get x.file).take (min x.at_ (F.get x.file).length).toNat ++ x.b.take k.toNat):=by unfold zZs;rw[if_neg (by omega)]
structure Mends(F:Fls)(t:Tbl):Prop where
 each:∀G ∈ zZu F,(zQA G).1=some t
 last:zQA (zKV F)=(some t,[],false)
 head:(zZu F).head?=some F
 end_:(zZu F).getLast?=some (zKV F)
theorem mends {F:Fls} {t:Tbl} (h:(zQA F).1=some t) (hv:zQf t=0):Mends F t:=by
 obtain⟨h1,f,h2,h3⟩:=zYj (zXx F.1) false F.2
 obtain⟨c,r,a,e⟩:∃c r a,zQA F=(c,r,a):=⟨_,_,_,rfl⟩
 have e':zJK (zXx F.1) false F.2=(c,r,a):=e
 rw[e]at h
 obtain rfl:c=some t:=h
 rw[e']at h1 h2 h3
 dsimp only at h1 h2 h3
 have hlen:F.2.length=f.length+r.length:=by rw[h2,List.length_append]
 have hf:zQA (F.1,f)=(some t,[],a):=by
  have:=h3 []
  rw[List.append_nil,zXO zKp]at this
  exact this
 have hcut:zQ1 F ⟨1,F.2.length - r.length,[]⟩=(F.1,f):=by
  rw[zZo]
  show F.put 1 (F.2.take (min ((F.2.length:Int) - r.length) F.2.length).toNat ++ [])=_
  rw[Fls.put1,List.append_nil,show(min ((F.2.length:Int) - r.length) F.2.length).toNat=f.length by omega,h2,List.take_left]
 have hro:zXx (zQj t)=some t:=by
  cases q:zXx (zQj t)with
  | none=>exact absurd rfl (zVl q t hv)
  | some u=>obtain⟨q1,q2⟩:=zXl q;rw[yQx q1 hv q2]
 have hbo:zQC t=zQj t:=by unfold zQC;rw[if_pos hv]
 cases a with
 | false=>
  by_cases hr:r=[]
  ·have em:zQL F=[]:=by unfold zQL;rw[e];simp[hr]
   subst hr
   have es:zZu F=[F]:=by unfold zZu;rw[em];rfl
   have eo:zKV F=F:=by unfold zKV;rw[em];rfl
   rw[List.append_nil]at h2
   refine⟨λG hG=>?_,by rw[eo];exact e,by rw[es];rfl,by rw[es,eo];rfl⟩
   rw[es,List.mem_singleton]at hG
   rw[hG,e]
  ·have em:zQL F=[⟨1,F.2.length - r.length,[]⟩]:=by unfold zQL;rw[e];simp[hr]
   have es:zZu F=[F,(F.1,f)]:=by unfold zZu;rw[em];simp[hcut]
   have eo:zKV F=(F.1,f):=by unfold zKV;rw[em];simp[hcut]
   refine⟨λG hG=>?_,by rw[eo];exact hf,by rw[es];rfl,by rw[es,eo];rfl⟩
   rw[es]at hG
   simp only[List.mem_cons,List.not_mem_nil,or_false]at hG
   rcases hG with rfl|rfl
   ·rw[e]
   ·rw[hf]
 | true=>
  have hany:∀cur,zJK cur false f=(some t,[],true):=λcur=>by
   have q:zJK (zXx F.1) false f=(some t,[],true):=hf
   rw[←q]
   exact yZg _ _ _ rfl (by rw[q]) cur
  have g1:∀d,zQA (d,f)=(some t,[],true):=λd=>hany _
  have g3:zQA (zQj t,[])=(some t,[],false):=by
   show zJK (zXx (zQj t)) false []=_
   rw[zXO zKp,hro]
  have w0:∀d,zQ1 (d,f) ⟨0,0,[]⟩=([],f):=λd=>by
   rw[zZo]
   show((List.take (min (0:Int) d.length).toNat d) ++ [],f)=_
   rw[show(min (0:Int) d.length).toNat=0 by omega];rfl
  have w1:zQ1 ([],f) ⟨0,0,zQC t⟩=(zQj t,f):=by rw[zZo,hbo];rfl
  have w2:zQ1 (zQj t,f) ⟨1,0,[]⟩=(zQj t,[]):=by
   rw[zZo]
   show(zQj t,(List.take (min (0:Int) f.length).toNat f) ++ [])=_
   rw[show(min (0:Int) f.length).toNat=0 by omega];rfl
  by_cases hr:r=[]
  ·have em:zQL F=[⟨0,0,[]⟩,⟨0,0,zQC t⟩,⟨1,0,[]⟩]:=by unfold zQL;rw[e];simp[hr]
   subst hr
   rw[List.append_nil]at h2
   have eF:F=(F.1,f):=by rw[←h2]
   have w0':zQ1 F ⟨0,0,[]⟩=([],f):=by rw[eF];exact w0 _
   have es:zZu F=[F,([],f),(zQj t,f),(zQj t,[])]:=by unfold zZu;rw[em];simp[w0',w1,w2]
   have eo:zKV F=(zQj t,[]):=by unfold zKV;rw[em];simp[w0',w1,w2]
   refine⟨λG hG=>?_,by rw[eo];exact g3,by rw[es];rfl,by rw[es,eo];rfl⟩
   rw[es]at hG
   simp only[List.mem_cons,List.not_mem_nil,or_false]at hG
   rcases hG with rfl|rfl|rfl|rfl
   ·rw[e]
   ·rw[g1]
   ·rw[g1]
   ·rw[g3]
  ·have em:zQL F=[⟨1,F.2.length - r.length,[]⟩,⟨0,0,[]⟩,⟨0,0,zQC t⟩,⟨1,0,[]⟩]:=by unfold zQL;rw[e];simp[hr]
   have es:zZu F=[F,(F.1,f),([],f),(zQj t,f),(zQj t,[])]:=by unfold zZu;rw[em];simp[hcut,w0,w1,w2]
   have eo:zKV F=(zQj t,[]):=by unfold zKV;rw[em];simp[hcut,w0,w1,w2]
   refine⟨λG hG=>?_,by rw[eo];exact g3,by rw[es];rfl,by rw[es,eo];rfl⟩
   rw[es]at hG
   simp only[List.mem_cons,List.not_mem_nil,or_false]at hG
   rcases hG with rfl|rfl|rfl|rfl|rfl
   ·rw[e]
   ·rw[hf]
   ·rw[g1]
   ·rw[g1]
   ·rw[g3]
end Go.Proofs.YtaeecpjhfmcliaaGreatDoor
/- The log: what a record of changes makes of a table: of the table before, the table behind. In plain words. No condition but those stated. -/
namespace Go.Proofs.YtaeecpjhfmcliaaGreatDoor
open Go.Sh Go.RowKit Tryz
theorem zWs{t:Tbl}(hv:zQf t=0):zXx (zQj t)=some t:=by
 cases q:zXx (zQj t)with
 | none=>exact absurd rfl (zVl q t hv)
 | some u=>obtain⟨q1,q2⟩:=zXl q;rw[yQx q1 hv q2]
theorem yWg{t:Tbl}(hp:zQX t.page=true)(hf:zQV t.fields=0){r:Rec}(hr:zQ0 t.fields t.page r=0):yXN t (zJO zQu t.fields r)=some r:=by
 have hv:zQf { t with recs:=[r] }=0:=zK3 hp hf (by simp) λx hx=>by rw[List.mem_singleton.1 hx];exact hr
 have e:zJA { t with recs:=[⟨false,zJp t.fields⟩] } ++ zJO zQu t.fields r ++ [26]=zQj { t with recs:=[r] }:=by
  unfold zQj
  rw[List.flatMap_cons,List.flatMap_nil,List.append_nil]
  rfl
 unfold yXN
 rw[e,zWs hv]
 rfl
theorem yQ2{t:Tbl}(hp:zQX t.page=true)(hf:zQV t.fields=0){b:List UInt8}{r:Rec}(h:yXN t b=some r):zQ0 t.fields t.page r=0:=by
 unfold yXN at h
 obtain⟨x,h1,h2⟩:=Option.bind_eq_some_iff.1 h
 obtain⟨hx,hb⟩:=zXl h1
 rw[List.append_assoc]at hb
 obtain⟨e1,e2⟩:=xJM (t:={ t with recs:=[⟨false,zJp t.fields⟩] }) hx hp hf hb
 have hr:r ∈ x.recs:=List.mem_of_mem_head? (by rw[h2];rfl)
 have:=(zQP.of hx).recs r hr
 rw[e1,e2]at this
 exact this
theorem yXH(t:Tbl)(size:Nat)(recs:List Rec):goC t size recs []=some recs:=by rw[goC,dif_pos rfl]
theorem yX7 {t:Tbl} {size:Nat} {recs:List Rec} {rest:List UInt8} (h:rest ≠ []):goC t size recs rest=(match yXN t ((rest.drop 2).take size)with
  | none=>none
  | some r=>if zQY (rest.take 2)<1∨recs.length+1<zQY (rest.take 2)∨300<zQY (rest.take 2)then none
   else goC t size (if recs.length<zQY (rest.take 2)then recs ++ [r]else recs.set (zQY (rest.take 2) - 1) r) (rest.drop (size+2))):=by
 conv=>lhs;rw[goC]
 rw[dif_neg h]
 all_goals (cases yXN t ((rest.drop 2).take size) <;> rfl)
theorem yY9{t:Tbl}(hp:zQX t.page=true)(hf:zQV t.fields=0){size:Nat}:∀(n:Nat) (rest:List UInt8) (recs l:List Rec),rest.length<=n->recs.length<=300->(∀r ∈ recs,zQ0 t.fields t.page r=0)->goC t size recs rest=some l->
  l.length<=300/\∀r ∈ l,zQ0 t.fields t.page r=0:=by
 intro n
 induction n with
 | zero=>
  intro rest recs l hn hl hr h
  obtain rfl:rest=[]:=List.eq_nil_of_length_eq_zero (by omega)
  rw[yXH]at h;cases h
  exact⟨hl,hr⟩
 | succ n ih=>
  intro rest recs l hn hl hr h
  by_cases h0:rest=[]
  ·subst h0
   rw[yXH]at h;cases h
   exact⟨hl,hr⟩
  rw[yX7 h0]at h
  split at h
  ·cases h
  rename_i r q
  split at h
  ·cases h
  rename_i hk
  have hpos:=List.length_pos_iff.2 h0
  refine ih _ _ _ (by rw[List.length_drop];omega) ?_ ?_ h
  ·split
   ·rw[List.length_append,List.length_singleton];omega
   ·rw[List.length_set];exact hl
  ·intro x hx
   have hrv:=yQ2 hp hf q
   split at hx
   ·rcases List.mem_append.1 hx with hx|hx
    ·exact hr x hx
    ·rw[List.mem_singleton.1 hx];exact hrv
   ·rcases List.mem_or_eq_of_mem_set hx with hx|rfl
    ·exact hr x hx
    ·exact hrv
theorem zWa{t u:Tbl}{body:List UInt8}(hv:zQf t=0)(h:zQZ t body=some u):zQf u=0:=by
 have hR:=zQP.of hv
 unfold zQZ at h
 split at h
 ·cases h
 obtain⟨l,h1,h2⟩:=Option.bind_eq_some_iff.1 h
 split at h2
 ·cases h2
  obtain⟨g1,g2⟩:=yY9 hR.page hR.vf _ _ _ _ (Nat.le_refl _) hR.n300 hR.recs h1
  exact zK3 hR.page hR.vf g1 g2
 ·cases h2
theorem yV1:∀(cur:Option Tbl) (a:Bool) (rest:List UInt8),(∀t,cur=some t->zQf t=0)->∀t,(zJK cur a rest).1=some t->zQf t=0:=by
 refine yJh (λcur a rest h hc t ht=>?_) (λcur a rest k body more h ih hc t ht=>?_)
 ·rw[zXO h]at ht;exact hc t ht
 ·rw[zZF h]at ht
  refine ih (λu hu=>?_) t ht
  unfold zJu at hu
  split at hu
  ·exact(zXl hu).1
  split at hu
  ·cases hu
  ·obtain⟨x,h1,h2⟩:=Option.bind_eq_some_iff.1 hu
   exact zWa (hc x h1) h2
theorem zJW {F:Fls} {t:Tbl} (h:(zQA F).1=some t):zQf t=0:=yV1 _ _ _ (λu hu=>(zXl hu).1) t h
theorem yJV{n:Nat}(h:n<65536)(rest:List UInt8):zQY ((zJh n 2 ++ rest).take 2)=n:=by
 rw[List.take_append_of_le_length (by rw[zQ7];omega),List.take_of_length_le (by rw[zQ7];omega),zJ5,Nat.mod_eq_of_lt h]
theorem zYn(n:Nat)(rest:List UInt8):(zJh n 2 ++ rest).drop 2=rest:=by
 have:=List.drop_left (l₁:=zJh n 2) (l₂:=rest)
 rw[zQ7]at this;exact this
def yJH(u:Tbl)(i:Nat):List UInt8:=zJh (i+1) 2 ++ (match u.recs[i]? with
 | some r=>zJO zQu u.fields r
 | none=>[])
theorem xJk{t u:Tbl}(ht:zQf t=0)(hu:zQf u=0)(hp:u.page=t.page)(hf:u.fields=t.fields)(hn:t.recs.length<=u.recs.length) :
  ∀(d j:Nat),j+d=u.recs.length->goC t (zXK t.fields).toNat (u.recs.take j ++ t.recs.drop j) (((List.range' j d).filter (zY0 t.recs u.recs)).flatMap (yJH u))=some u.recs:=by
 have hT:=zQP.of ht
 have hU:=zQP.of hu
 intro d
 induction d with
 | zero=>
  intro j hj
  rw[List.range'_zero,List.filter_nil,List.flatMap_nil,yXH,List.take_of_length_le (by omega),List.drop_eq_nil_of_le (by omega),List.append_nil]
 | succ d ih=>
  intro j hj
  have cM:=hU.n300
  obtain⟨r,hr⟩:=zQM (l:=u.recs) (k:=j) (by omega)
  have sw:u.recs.take (j+1)=u.recs.take j ++ [r]:=zQD hr
  have hlen:(u.recs.take j).length=j:=by rw[List.length_take];omega
  rw[List.range'_succ]
  by_cases hd:zY0 t.recs u.recs j=true
  ·rw[List.filter_cons_of_pos hd,List.flatMap_cons]
   obtain⟨X,hX⟩:∃X,X=((List.range' (j+1) d).filter (zY0 t.recs u.recs)).flatMap (yJH u):=⟨_,rfl⟩
   rw[←hX]
   have hrv:zQ0 t.fields t.page r=0:=by rw[←hp,←hf];exact hU.recs r (List.mem_of_getElem? hr)
   have eB:yJH u j=zJh (j+1) 2 ++ zJO zQu t.fields r:=by unfold yJH;rw[hr,hf]
   have hrl:(zJO zQu t.fields r).length=(zXK t.fields).toNat:=by
    have:=zKN (zXn hT.vf).2.1 (zXC.of (zXn hT.vf).2.1 hrv)
    omega
   have e1:zQY ((yJH u j ++ X).take 2)=j+1:=by rw[eB,List.append_assoc];exact yJV (by omega) _
   have e2:((yJH u j ++ X).drop 2).take (zXK t.fields).toNat=zJO zQu t.fields r:=by
    rw[eB,List.append_assoc,zYn,←hrl,List.take_left]
   have e3:(yJH u j ++ X).drop ((zXK t.fields).toNat+2)=X:=by
    rw[Nat.add_comm,←List.drop_drop,eB,List.append_assoc,zYn,←hrl,List.drop_left]
   have hne:yJH u j ++ X ≠ []:=λe=>by
    have:=congrArg List.length e
    rw[eB]at this
    simp[zQ7]at this
   rw[yX7 hne,e2,yWg hT.page hT.vf hrv]
   dsimp only
   rw[e1,e3]
   have hll:(u.recs.take j ++ t.recs.drop j).length=j+(t.recs.length - j):=by rw[List.length_append,hlen,List.length_drop]
   rw[if_neg (by omega)]
   have key:(if (u.recs.take j ++ t.recs.drop j).length<j+1 then u.recs.take j ++ t.recs.drop j ++ [r]else(u.recs.take j ++ t.recs.drop j).set (j+1 - 1) r)=u.recs.take (j+1) ++ t.recs.drop (j+1):=by
    by_cases hlt:t.recs.length<=j
    ·rw[if_pos (by omega),List.drop_eq_nil_of_le hlt,List.drop_eq_nil_of_le (show t.recs.length<=j+1 by omega),List.append_nil,List.append_nil,sw]
    ·rw[if_neg (by omega),Nat.add_sub_cancel,sw]
     obtain⟨y,hy⟩:=zQM (l:=t.recs) (k:=j) (by omega)
     rw[zXU hy,List.set_append,if_neg (by omega),hlen,Nat.sub_self,List.set_cons_zero,List.append_assoc]
     rfl
   rw[key,hX]
   exact ih (j+1) (by omega)
  ·rw[List.filter_cons_of_neg hd]
   have he:t.recs[j]?=u.recs[j]?:=by
    unfold zY0 at hd
    simpa using hd
   rw[hr]at he
   have:u.recs.take j ++ t.recs.drop j=u.recs.take (j+1) ++ t.recs.drop (j+1):=by rw[zXU he,sw,List.append_assoc];rfl
   rw[this]
   exact ih (j+1) (by omega)
theorem yJT{t u:Tbl}(hu:zQf u=0)(hf:u.fields=t.fields){l:List Nat}(h:∀i ∈ l,i<u.recs.length):(l.flatMap (yJH u)).length=l.length * ((zXK t.fields).toNat+2):=by
 have hU:=zQP.of hu
 induction l with
 | nil=>simp
 | cons i l ih=>
  obtain⟨r,hr⟩:=zQM (h i List.mem_cons_self)
  have hrl:=zKN (zXn hU.vf).2.1 (zXC.of (zXn hU.vf).2.1 (hU.recs r (List.mem_of_getElem? hr)))
  rw[hf]at hrl
  rw[List.flatMap_cons,List.length_append,ih λk hk=>h k (List.mem_cons_of_mem _ hk),List.length_cons,Nat.succ_mul]
  have:(yJH u i).length=2+(zJO zQu t.fields r).length:=by unfold yJH;rw[hr,hf,List.length_append,zQ7]
  omega
theorem zV4{t u:Tbl}(l:List Nat)(h:∀i ∈ l,i<u.recs.length):zXs u (l.map λ(i:Nat)=>(i:Int)+1)=zJh u.recs.length 2 ++ l.flatMap (yJH u):=by
 unfold zXs
 congr 1
 induction l with
 | nil=>rfl
 | cons i l ih=>
  rw[List.map_cons,List.flatMap_cons,List.flatMap_cons,ih λk hk=>h k (List.mem_cons_of_mem _ hk)]
  congr 1
  have:=h i List.mem_cons_self
  rw[if_neg (by omega)]
  unfold yJH xZ0
  rw[show((i:Int)+1).toNat=i+1 by omega,show((i:Int)+1 - 1).toNat=i by omega]
  all_goals (cases u.recs[i]? <;> rfl)
theorem xKy {a b:List Rec} {i:Nat} (h:i ∈ (List.range (max a.length b.length)).filter (zY0 a b)) (hn:a.length<=b.length):i<b.length:=by
 have:=List.mem_range.1 (List.mem_filter.1 h).1
 omega
theorem yQf{t u:Tbl}(ht:zQf t=0)(hu:zQf u=0)(hp:u.page=t.page)(hf:u.fields=t.fields)(hn:t.recs.length<=u.recs.length) :
  zQZ t (zXs u (zVP t.recs u.recs (max t.recs.length u.recs.length)))=some u:=by
 have hU:=zQP.of hu
 have cM:=hU.n300
 have hall:∀i ∈ (List.range (max t.recs.length u.recs.length)).filter (zY0 t.recs u.recs),i<u.recs.length:=λi hi=>xKy hi hn
 have e:zXs u (zVP t.recs u.recs (max t.recs.length u.recs.length))=zJh u.recs.length 2 ++ ((List.range (max t.recs.length u.recs.length)).filter (zY0 t.recs u.recs)).flatMap (yJH u):=zV4 (t:=t) _ hall
 have hl:=yJT (t:=t) hu hf hall
 have hg:=xJk ht hu hp hf hn u.recs.length 0 (by omega)
 rw[List.take_zero,List.drop_zero,List.nil_append,←List.range_eq_range']at hg
 rw[Nat.max_eq_right hn]at e hl ⊢
 have hsub:(zXs u (zVP t.recs u.recs u.recs.length)).length - 2=((List.range u.recs.length).filter (zY0 t.recs u.recs)).length * ((zXK t.fields).toNat+2):=by
  rw[e,List.length_append,zQ7,hl];omega
 have h2:2<=(zXs u (zVP t.recs u.recs u.recs.length)).length:=by rw[e,List.length_append,zQ7];omega
 unfold zQZ
 rw[if_neg (by rw[hsub];exact λh=>h.elim (λh=>by omega) (λh=>h (Nat.mul_mod_left _ _)))]
 rw[e,zYn,hg,yJV (by omega)]
 simp only[Option.bind_some,if_pos]
 obtain⟨p,f,r⟩:=u
 obtain⟨p',f',r'⟩:=t
 dsimp only at hp hf
 rw[hp,hf]
theorem yQL{t u:Tbl}(hu:zQf u=0)(hn:t.recs.length<=u.recs.length):(zXs u (zVP t.recs u.recs (max t.recs.length u.recs.length))).length<=650000:=by
 have hU:=zJg.of hu
 have cM:=hU.m300
 have hw:=hU.w2
 have hall:∀i ∈ (List.range (max t.recs.length u.recs.length)).filter (zY0 t.recs u.recs),i<u.recs.length:=λi hi=>xKy hi hn
 have e:zXs u (zVP t.recs u.recs (max t.recs.length u.recs.length))=zJh u.recs.length 2 ++ ((List.range (max t.recs.length u.recs.length)).filter (zY0 t.recs u.recs)).flatMap (yJH u):=zV4 (t:=t) _ hall
 have hl:=yJT (t:=u) hu rfl hall
 have hc:((List.range (max t.recs.length u.recs.length)).filter (zY0 t.recs u.recs)).length<=300:=Nat.le_trans (List.length_filter_le _ _) (by rw[List.length_range];omega)
 rw[e,List.length_append,zQ7,hl]
 have:=Nat.mul_le_mul hc (show(zXK u.fields).toNat+2<=2002 by omega)
 omega
theorem xYH {a b:List Rec} (h:zVP a b (max a.length b.length)=[]):a=b:=by
 unfold zVP at h
 have h1:=List.map_eq_nil_iff.1 h
 refine List.ext_getElem? λi=>?_
 by_cases hi:i<max a.length b.length
 ·by_cases hd:zY0 a b i=true
  ·exact absurd (List.mem_filter.2 ⟨List.mem_range.2 hi,hd⟩) (by rw[h1];exact List.not_mem_nil)
  ·unfold zY0 at hd
   simpa using hd
 ·rw[List.getElem?_eq_none (by omega),List.getElem?_eq_none (by omega)]
theorem xJz(a:List Rec):zVP a a (max a.length a.length)=[]:=by
 unfold zVP
 rw[List.filter_eq_nil_iff.2 λi _=>by unfold zY0;simp]
 rfl
end Go.Proofs.YtaeecpjhfmcliaaGreatDoor
/- The log: a store with its files: what each call leaves; what files tell behind any fall. In plain words. No condition but those stated. -/
namespace Go.Proofs.YtaeecpjhfmcliaaGreatDoor
open Go.Sh Go.RowKit Tryz
def zQK(F:Fls)(W:List Wr)(n:Nat):Fls:=(W.take n).foldl zQ1 F
def lst(P:List Int)(n:Nat):Nat:=(P.takeWhile λp=>decide (p<=(n:Int))).length
theorem yJK {P:List Int} {n:Nat} (h:∀p ∈ P,p<=(n:Int)):lst P n=P.length:=by
 unfold lst
 induction P with
 | nil=>rfl
 | cons p P ih=>
  rw[List.takeWhile_cons,if_pos (decide_eq_true (h p List.mem_cons_self)),List.length_cons,List.length_cons,ih λq hq=>h q (List.mem_cons_of_mem _ hq)]
theorem zYy(P:List Int)(n:Nat):lst P n<=P.length:=List.IsPrefix.length_le (List.takeWhile_prefix _)
theorem xJ3 {P:List Int} {n:Nat} {q:Int} (h:(n:Int)<q):lst (P ++ [q]) n=lst P n:=by
 unfold lst
 have hq:decide (q<=(n:Int))=false:=by simp;omega
 induction P with
 | nil=>simp[hq]
 | cons p P ih=>
  rw[List.cons_append,List.takeWhile_cons,List.takeWhile_cons]
  split
  ·rw[List.length_cons,List.length_cons,ih]
  ·rfl
theorem xZO{P:List Int}{m n:Nat}(h:m<=n):lst P m<=lst P n:=by
 unfold lst
 induction P with
 | nil=>simp
 | cons p P ih=>
  rw[List.takeWhile_cons,List.takeWhile_cons]
  split
  ·rename_i hp
   have hp:p<=(m:Int):=by simpa using hp
   rw[if_pos (by simp;omega),List.length_cons,List.length_cons];omega
  ·simp
structure yQm(F:Fls)(W:List Wr)(P:List Int)(D:List Tbl):Prop where
 len:P.length+1=D.length
 le:∀p ∈ P,1<=p/\p<=(W.length:Int)
 asc:P.Pairwise (· < ·)
 at_:∀n,n<=W.length->∃t,D[lst P n]?=some t/\(zQA (zQK F W n)).1=some t
 mid:∀n x,W[n]?=some x->∀k,∃t,(zQA (zZs (zQK F W n) x k)).1=some t/\(D[lst P n]?=some t∨D[lst P (n+1)]?=some t)
 one:∀n,lst P (n+1)<=lst P n+1
 adj:∀(j:Nat) a b,D[j]?=some a->D[j+1]?=some b->a ≠ b
variable {F : Fls} {W : List Wr} {P : List Int} {D : List Tbl} {t t' : Tbl} {x : Wr}
theorem zZ5(F:Fls)(W:List Wr)(x:Wr){n:Nat}(h:n<=W.length):zQK F (W ++ [x]) n=zQK F W n:=by
 unfold zQK;rw[List.take_append_of_le_length h]
theorem zXD(F:Fls)(W:List Wr)(x:Wr):zQK F (W ++ [x]) (W.length+1)=zQ1 (zQK F W W.length) x:=by
 unfold zQK
 rw[List.take_of_length_le (by simp),List.take_length,List.foldl_append]
 rfl
theorem yQm.lstW(h:yQm F W P D):lst P W.length=P.length:=yJK λp hp=>(h.le p hp).2
theorem yQm.start (h:(zQA F).1=some t):yQm F [] [] [t] where
 len:=rfl
 le:=λp hp=>absurd hp List.not_mem_nil
 asc:=List.Pairwise.nil
 at_:=λn hn=>⟨t,rfl,by rw[show n=0 by simpa using hn];exact h⟩
 mid:=λn x hx=>by simp at hx
 one:=λn=>by simp[lst]
 adj:=λj a b _ hb=>by simp at hb
theorem yQm.lastD(h:yQm F W P D)(hl:D.getLast?=some t):D[P.length]?=some t:=by
 rw[List.getLast?_eq_getElem?]at hl
 rw[←hl,←h.len];simp
theorem yQm.same (h:yQm F W P D) (hl:D.getLast?=some t) (hk:∀k,(zQA (zZs (zQK F W W.length) x k)).1=some t):yQm F (W ++ [x]) P D where
 len:=h.len
 le:=λp hp=>⟨(h.le p hp).1,by have:=(h.le p hp).2;rw[List.length_append,List.length_singleton];omega⟩
 asc:=h.asc
 at_:=λn hn=>by
  rw[List.length_append,List.length_singleton]at hn
  rcases Nat.lt_or_ge W.length n with h1|h1
  ·obtain rfl:n=W.length+1:=by omega
   refine⟨t,?_,?_⟩
   ·rw[yJK λp hp=>by have:=(h.le p hp).2;omega];exact h.lastD hl
   ·rw[zXD];exact hk _
  ·rw[zZ5 F W x h1];exact h.at_ n h1
 mid:=λn y hy k=>by
  rcases Nat.lt_trichotomy n W.length with h1|h1|h1
  ·rw[List.getElem?_append_left h1]at hy
   rw[zZ5 F W x (by omega)];exact h.mid n y hy k
  ·subst h1
   rw[List.getElem?_append_right (Nat.le_refl _),Nat.sub_self]at hy
   simp at hy;subst hy
   rw[zZ5 F W x (Nat.le_refl _)]
   exact⟨t,hk k,.inl (by rw[h.lstW];exact h.lastD hl)⟩
  ·rw[List.getElem?_eq_none (by rw[List.length_append,List.length_singleton];omega)]at hy;cases hy
 one:=h.one
 adj:=h.adj
theorem yQm.new (h:yQm F W P D) (hl:D.getLast?=some t) (hne:t ≠ t') (hw:(zQA (zQ1 (zQK F W W.length) x)).1=some t')
  (hk:∀k,(zQA (zZs (zQK F W W.length) x k)).1=some t∨(zQA (zZs (zQK F W W.length) x k)).1=some t'):yQm F (W ++ [x]) (P ++ [(W.length:Int)+1]) (D ++ [t']):=by
 have hlen:=h.len
 have hq:∀n,n<=W.length->lst (P ++ [(W.length:Int)+1]) n=lst P n:=λn hn=>xJ3 (by omega)
 have yB:∀n,W.length<n->lst (P ++ [(W.length:Int)+1]) n=P.length+1:=λn hn=>by
  rw[yJK]
  ·simp
  ·intro p hp
   rcases List.mem_append.1 hp with hp|hp
   ·have:=(h.le p hp).2;omega
   ·rw[List.mem_singleton.1 hp];omega
 have hD:∀j,j<=P.length->(D ++ [t'])[j]?=D[j]?:=λj hj=>List.getElem?_append_left (by omega)
 have hD1:(D ++ [t'])[P.length+1]?=some t':=by rw[List.getElem?_append_right (by omega),hlen,Nat.sub_self];rfl
 refine⟨by simp;omega,λp hp=>?_,?_,λn hn=>?_,λn y hy k=>?_,λn=>?_,λj a b ha hb=>?_⟩
 ·rw[List.length_append,List.length_singleton]
  rcases List.mem_append.1 hp with hp|hp
  ·have:=h.le p hp;omega
  ·rw[List.mem_singleton.1 hp];omega
 ·refine List.pairwise_append.2 ⟨h.asc,List.pairwise_singleton _ _,λa ha b hb=>?_⟩
  rw[List.mem_singleton.1 hb]
  have:=(h.le a ha).2
  omega
 ·rw[List.length_append,List.length_singleton]at hn
  rcases Nat.lt_or_ge W.length n with h1|h1
  ·obtain rfl:n=W.length+1:=by omega
   exact⟨t',by rw[yB _ h1];exact hD1,by rw[zXD];exact hw⟩
  ·rw[zZ5 F W x h1,hq n h1,hD _ (zYy P n)];exact h.at_ n h1
 ·rcases Nat.lt_trichotomy n W.length with h1|h1|h1
  ·rw[List.getElem?_append_left h1]at hy
   rw[zZ5 F W x (by omega),hq n (by omega),hq (n+1) (by omega),hD _ (zYy P n),hD _ (zYy P _)];exact h.mid n y hy k
  ·subst h1
   rw[List.getElem?_append_right (Nat.le_refl _),Nat.sub_self]at hy
   simp at hy;subst hy
   rw[zZ5 F W x (Nat.le_refl _),hq _ (Nat.le_refl _),yB _ (Nat.lt_succ_self _),h.lstW,hD _ (Nat.le_refl _),hD1,h.lastD hl]
   rcases hk k with h2|h2
   ·exact⟨t,h2,.inl rfl⟩
   ·exact⟨t',h2,.inr rfl⟩
  ·rw[List.getElem?_eq_none (by rw[List.length_append,List.length_singleton];omega)]at hy;cases hy
 ·rcases Nat.lt_trichotomy n W.length with h1|h1|h1
  ·rw[hq n (by omega),hq (n+1) (by omega)];exact h.one n
  ·subst h1;rw[hq _ (Nat.le_refl _),yB _ (Nat.lt_succ_self _),h.lstW];exact Nat.le_refl _
  ·rw[yB _ h1,yB _ (by omega)];omega
 ·by_cases hj:j+1<=P.length
  ·rw[hD _ (by omega)]at ha
   rw[hD _ hj]at hb
   exact h.adj j a b ha hb
  ·have kj:j+1<(D ++ [t']).length:=(List.getElem?_eq_some_iff.1 hb).1
   rw[List.length_append,List.length_singleton]at kj
   obtain rfl:j=P.length:=by omega
   rw[hD1]at hb
   rw[hD _ (Nat.le_refl _),h.lastD hl]at ha
   cases ha;cases hb
   exact hne
def zJi(F:Fls)(W:List Wr)(n:Nat)(k:Int):Fls:=match W[n]? with
 | some x=>zZs (zQK F W n) x k
 | none=>zQK F W n
theorem yQm.fall(h:yQm F W P D){n:Nat}(hn:n<=W.length)(k:Int):∃t j,(zQA (zJi F W n k)).1=some t/\D[j]?=some t/\j<=P.length/\(j=lst P n∨j=lst P n+1/\j=lst P (n+1)/\n<W.length/\D[lst P n]? ≠ some t):=by
 unfold zJi
 cases hx:W[n]? with
 | none=>
  obtain⟨t,h1,h2⟩:=h.at_ n hn
  exact⟨t,lst P n,h2,h1,zYy P n,.inl rfl⟩
 | some x=>
  obtain⟨t,h1,h2⟩:=h.mid n x hx k
  by_cases h3:D[lst P n]?=some t
  ·exact⟨t,lst P n,h1,h3,zYy P n,.inl rfl⟩
  ·have h2:=h2.resolve_left h3
   have h4:=h.one n
   have h5:lst P n<=lst P (n+1):=xZO (Nat.le_succ n)
   have h6:lst P (n+1)=lst P n+1:=by
    rcases Nat.lt_or_ge (lst P n) (lst P (n+1))with h|h
    ·omega
    ·exact absurd (by rw[show lst P (n+1)=lst P n by omega]at h2;exact h2) h3
   exact⟨t,lst P (n+1),h1,h2,zYy P _,.inr ⟨h6,rfl,(List.getElem?_eq_some_iff.1 hx).1,h3⟩⟩
theorem yVJ(h:yQm F W P D)(n:Nat):zJi F W n 0=zQK F W n:=by
 unfold zJi
 split
 ·exact zZ2 _ _ (Int.le_refl _)
 ·rfl
structure Dat where
 σ:Sto
 first:Fls
 last:Fls
 wr:List Wr
 pts:List Int
def Dat.write(d:Dat)(x:Wr):Dat:={ d with wr:=d.wr ++ [x],last:=zQ1 d.last x }
def Dat.to(d:Dat)(σ:Sto):Dat:={ d with σ:=σ }
def Dat.rec_(d:Dat):Wr:=⟨1,d.last.2.length,zZY 99 (zXs d.σ.t (zJx d.σ))⟩
def Dat.commit(d:Dat):Dat:=if d.σ.lev=[]/\d.σ.t ≠ d.σ.last then { d.write d.rec_ with σ:={ d.σ with done:=d.σ.done ++ [d.σ.t] },pts:=d.pts ++ [(d.wr.length:Int)+1] }else d
theorem Dat.commit_σ(d:Dat):d.commit.σ=zZy d.σ:=by
 unfold Dat.commit zZy
 split <;> rfl
def Dat.new(t:Tbl)(F:Fls):Dat:=⟨Sto.new t,F,F,[],[]⟩
def Dat.begin(d:Dat):Dat:=d.to (zZZ d.σ)
def Dat.end_(d:Dat):Dat:=if d.σ.lev=[]then d else(d.to { d.σ with lev:=d.σ.lev.dropLast }).commit
def Dat.back(d:Dat):Dat:=d.to (zVt d.σ)
def Dat.recs(d:Dat)(l:List Rec):Dat:=(d.to { d.σ with t:={ d.σ.t with recs:=l } }).commit
def Dat.app(d:Dat)(r:Rec):Dat:=if yJa d.σ r=0 then d.recs (d.σ.t.recs ++ [r])else d
def Dat.put(d:Dat)(k:Int)(r:Rec):Dat:=if yZY d.σ k r=0 then d.recs (d.σ.t.recs.set (k - 1).toNat r)else d
def Dat.mark(d:Dat)(k:Int)(g:Bool):Dat:=if zXf d.σ k then d.recs (d.σ.t.recs.modify (k - 1).toNat λr=>{ r with gone:=g })else d
def Dat.set(d:Dat)(k:Int)(nm:ByteArray)(v:Val):Dat:=match yQo d.σ.t.fields nm with
 | none=>d
 | some i=>if zXf d.σ k/\(zZT (d.σ.t.fields.getD i default) d.σ.t.page v).2=0 then d.recs (d.σ.t.recs.modify (k - 1).toNat λr=>{ r with v:=r.v.set i (zZT (d.σ.t.fields.getD i default) d.σ.t.page v).1 })else d
def Dat.whole(d:Dat):Wr:=⟨1,d.last.2.length,zZY 119 (zQC d.σ.t)⟩
def Dat.clean(d:Dat):Dat:=if d.σ.lev=[]/\d.last.2 ≠ []then(zQL (d.write d.whole).last).foldl Dat.write (d.write d.whole)else d
theorem Dat.recs_σ(d:Dat)(l:List Rec):(d.recs l).σ=zXJ d.σ l:=Dat.commit_σ _
theorem Dat.end_σ(d:Dat):d.end_.σ=xWQ d.σ:=by
 unfold Dat.end_ xWQ
 split
 ·rfl
 ·exact Dat.commit_σ _
theorem Dat.app_σ(d:Dat)(r:Rec):(d.app r).σ=xW2 d.σ r:=by
 unfold Dat.app xW2
 split
 ·exact Dat.recs_σ _ _
 ·rfl
theorem Dat.put_σ(d:Dat)(k:Int)(r:Rec):(d.put k r).σ=xV5 d.σ k r:=by
 unfold Dat.put xV5
 split
 ·exact Dat.recs_σ _ _
 ·rfl
theorem Dat.mark_σ(d:Dat)(k:Int)(g:Bool):(d.mark k g).σ=yJ1 d.σ k g:=by
 unfold Dat.mark yJ1
 split
 ·exact Dat.recs_σ _ _
 ·rfl
theorem Dat.set_σ(d:Dat)(k:Int)(nm:ByteArray)(v:Val):(d.set k nm v).σ=yWn d.σ k nm v:=by
 unfold Dat.set yWn
 cases yQo d.σ.t.fields nm with
 | none=>rfl
 | some i=>
  dsimp only
  split
  ·exact Dat.recs_σ _ _
  ·rfl
theorem yK0:∀(l:List Wr) (d:Dat),(l.foldl Dat.write d).σ=d.σ/\(l.foldl Dat.write d).first=d.first/\(l.foldl Dat.write d).pts=d.pts/\(l.foldl Dat.write d).wr=d.wr ++ l/\(l.foldl Dat.write d).last=l.foldl zQ1 d.last
 | [],d=>by simp
 | x :: l,d=>by
  obtain⟨h1,h2,h3,h4,h5⟩:=yK0 l (d.write x)
  rw[List.foldl_cons,h1,h2,h3,h4,h5,List.foldl_cons]
  exact⟨rfl,rfl,rfl,by simp[Dat.write],rfl⟩
theorem Dat.clean_σ(d:Dat):d.clean.σ=d.σ:=by
 unfold Dat.clean
 split
 ·exact(yK0 _ _).1
 ·rfl
end Go.Proofs.YtaeecpjhfmcliaaGreatDoor
/- The log: what every call keeps of a store and its files. In plain words. No condition but those stated. -/
namespace Go.Proofs.YtaeecpjhfmcliaaGreatDoor
open Go.Sh Go.RowKit Tryz
structure Like(p:Int)(f:List Fld)(t:Tbl):Prop where
 ok:zQf t=0
 page:t.page=p
 fields:t.fields=f
def okW(y:Wr):Prop:=(y.file=0∨y.file=1)/\0<=y.at_/\y.b.length<=700000
structure InvW(p:Int)(f:List Fld)(d:Dat):Prop where
 t:Like p f d.σ.t
 lev:∀u ∈ d.σ.lev,Like p f u/\d.σ.last.recs.length<=u.recs.length
 done:∀u ∈ d.σ.done,Like p f u
 ne:d.σ.done ≠ []
 ge:d.σ.last.recs.length<=d.σ.t.recs.length
 h0:∀u,d.σ.lev.head?=some u->u=d.σ.last
 l8:d.σ.lev.length<=8
 eq:d.last=zQK d.first d.wr d.wr.length
 file:zQA d.last=(some d.σ.last,[],false)
 hist:yQm d.first d.wr d.pts d.σ.done
 wb:∀x ∈ d.wr,okW x
structure Inv(p:Int)(f:List Fld)(d:Dat):Prop extends InvW p f d where
 at0:d.σ.lev=[]->d.σ.t=d.σ.last
variable {p : Int} {f : List Fld} {d : Dat}
theorem zZD {σ:Sto} (h:σ.done ≠ []):σ.done.getLast?=some σ.last:=by
 unfold Sto.last
 rw[List.getLast?_eq_some_getLast h];rfl
theorem zYo {σ σ':Sto} (h:σ.done ≠ []) (e:σ'.done=σ.done):σ'.last=σ.last:=by
 have h1:=zZD h
 have h2:=zZD (σ:=σ') (by rw[e];exact h)
 rw[e]at h2
 exact Option.some.inj (h2.symm.trans h1)
theorem InvW.lastL(h:InvW p f d):Like p f d.σ.last:=h.done _ (List.mem_of_getLast? (zZD h.ne))
theorem InvW.write (h:InvW p f d) {x:Wr} (hb:okW x) (hk:∀k,(zQA (zZs d.last x k)).1=some d.σ.last) (hf:zQA (zQ1 d.last x)=(some d.σ.last,[],false)):InvW p f (d.write x) where
 t:=h.t
 lev:=h.lev
 done:=h.done
 ne:=h.ne
 ge:=h.ge
 h0:=h.h0
 l8:=h.l8
 eq:=by
  show zQ1 d.last x=zQK d.first (d.wr ++ [x]) (d.wr ++ [x]).length
  rw[List.length_append,List.length_singleton,zXD,←h.eq]
 file:=hf
 hist:=h.hist.same (zZD h.ne) (by rw[←h.eq];exact hk)
 wb:=λy hy=>by
  rcases List.mem_append.1 hy with hy|hy
  ·exact h.wb y hy
  ·rw[List.mem_singleton.1 hy];exact hb
theorem zYm {F:Fls} {t:Tbl} (h:zQA F=(some t,[],false)) {kind:UInt8} {body:List UInt8} (hb:body.length<4294967296) (k:Int) :
  (zQA (zZs F ⟨1,F.2.length,zZY kind body⟩ k)).1=some t∨zZs F ⟨1,F.2.length,zZY kind body⟩ k=(F.1,F.2 ++ zZY kind body):=by
 by_cases h0:k<=0
 ·rw[zZ2 _ _ h0,h];exact .inl rfl
 ·have e:zZs F ⟨1,F.2.length,zZY kind body⟩ k=(F.1,F.2 ++ (zZY kind body).take k.toNat):=by
   rw[zJ4 _ _ (by omega)]
   show F.put 1 (F.2.take (min (F.2.length:Int) F.2.length).toNat ++ _)=_
   rw[Fls.put1,show(min (F.2.length:Int) F.2.length).toNat=F.2.length by omega,List.take_length]
  rw[e]
  by_cases hl:(zZY kind body).length<=k.toNat
  ·rw[List.take_of_length_le hl];exact .inr rfl
  ·left
   have hn:zZH ((zZY kind body).take k.toNat)=none:=yVN hb (List.take_prefix _ _) (by rw[List.length_take];omega)
   show(zJK (zXx F.1) false (F.2 ++ _)).1=_
   rw[zWp (show zJK (zXx F.1) false F.2=_ from h),zXO hn]
theorem zKt{F:Fls}{t:Tbl}{kind:UInt8}{body:List UInt8}:zQ1 F ⟨1,F.2.length,zZY kind body⟩=(F.1,F.2 ++ zZY kind body):=by
 rw[zZo]
 show F.put 1 (F.2.take (min (F.2.length:Int) F.2.length).toNat ++ _)=_
 rw[Fls.put1,show(min (F.2.length:Int) F.2.length).toNat=F.2.length by omega,List.take_length]
theorem yJq {F:Fls} {t u:Tbl} (h:zQA F=(some t,[],false)) {body:List UInt8} (hb:body.length<4294967296) (hc:zQZ t body=some u):zQA (F.1,F.2 ++ zZY 99 body)=(some u,[],false):=by
 show zJK (zXx F.1) false (F.2 ++ zZY 99 body)=_
 rw[zWp (show zJK (zXx F.1) false F.2=_ from h),←List.append_nil (zZY 99 body),yJZ hb]
 have e:zJu (some t) false 99 body=(some u,false):=by
  unfold zJu
  rw[if_neg (by decide),if_neg (by decide)]
  rw[Option.bind_some,hc]
 rw[e,zXO zKp]
theorem yQV {F:Fls} {t:Tbl} (h:zQA F=(some t,[],false)) (hv:zQf t=0):zQA (F.1,F.2 ++ zZY 119 (zQj t))=(some t,[],true):=by
 have hb:(zQj t).length<4294967296:=by have:=zZK (zJg.of hv);omega
 show zJK (zXx F.1) false (F.2 ++ zZY 119 (zQj t))=_
 rw[zWp (show zJK (zXx F.1) false F.2=_ from h),←List.append_nil (zZY 119 (zQj t)),yJZ hb]
 have e:zJu (some t) false 119 (zQj t)=(some t,true):=by unfold zJu;rw[if_pos rfl,zWs hv]
 rw[e,zXO zKp]
theorem yQy(h:InvW p f d):Inv p f d.commit:=by
 unfold Dat.commit
 split
 ·rename_i hc
  obtain⟨hl,hne⟩:=hc
  have hL:=h.lastL
  have hcl:=yQL (t:=d.σ.last) h.t.ok h.ge
  have hbody:(zXs d.σ.t (zJx d.σ)).length<=650000:=hcl
  have hch:zQZ d.σ.last (zXs d.σ.t (zJx d.σ))=some d.σ.t:=yQf hL.ok h.t.ok (by rw[h.t.page,hL.page]) (by rw[h.t.fields,hL.fields]) h.ge
  have hlast:({ d.σ with done:=d.σ.done ++ [d.σ.t] }:Sto).last=d.σ.t:=by unfold Sto.last;simp
  have ew:zQ1 d.last d.rec_=(d.last.1,d.last.2 ++ zZY 99 (zXs d.σ.t (zJx d.σ))):=zKt (t:=d.σ.t)
  have hfile:=yJq h.file (by omega) hch
  refine⟨⟨h.t,λu hu=>?_,λu hu=>?_,by simp,Nat.le_of_eq (congrArg (λx=>x.recs.length) hlast),λu hu=>?_,h.l8,?_,?_,?_,?_⟩,λ_=>hlast.symm⟩
  ·have hu:u ∈ d.σ.lev:=hu
   rw[hl]at hu;cases hu
  ·rcases List.mem_append.1 hu with hu|hu
   ·exact h.done u hu
   ·rw[List.mem_singleton.1 hu];exact h.t
  ·have hu:d.σ.lev.head?=some u:=hu
   rw[hl]at hu;cases hu
  ·show zQ1 d.last d.rec_=zQK d.first (d.wr ++ [d.rec_]) (d.wr ++ [d.rec_]).length
   rw[List.length_append,List.length_singleton,zXD,←h.eq]
  ·show zQA (zQ1 d.last d.rec_)=_
   rw[ew,hfile,hlast]
  ·refine h.hist.new (zZD h.ne) (Ne.symm hne) (by rw[←h.eq,ew,hfile]) λk=>?_
   rw[←h.eq]
   rcases zYm h.file (kind:=99) (body:=zXs d.σ.t (zJx d.σ)) (by omega) k with h1|h1
   ·exact .inl h1
   ·right
    show(zQA (zZs d.last ⟨1,d.last.2.length,zZY 99 (zXs d.σ.t (zJx d.σ))⟩ k)).1=_
    rw[h1,hfile]
  ·intro y hy
   rcases List.mem_append.1 hy with hy|hy
   ·exact h.wb y hy
   ·rw[List.mem_singleton.1 hy]
    refine⟨.inr rfl,by show 0<=(d.last.2.length:Int);omega,?_⟩
    show(zZY 99 (zXs d.σ.t (zJx d.σ))).length<=_
    rw[zJr];omega
 ·rename_i hc
  exact⟨h,λhl=>Classical.byContradiction λhne=>hc ⟨hl,hne⟩⟩
theorem zY3 {t:Tbl} {F:Fls} (hv:zQf t=0) (h:zQA F=(some t,[],false)):Inv t.page t.fields (Dat.new t F) where
 t:=⟨hv,rfl,rfl⟩
 lev:=λu hu=>absurd hu List.not_mem_nil
 done:=λu hu=>by rw[List.mem_singleton.1 hu];exact⟨hv,rfl,rfl⟩
 ne:=by simp[Dat.new,Sto.new]
 ge:=Nat.le_refl _
 h0:=λu hu=>by cases hu
 l8:=Nat.zero_le _
 eq:=rfl
 file:=h
 hist:=yQm.start (by show(zQA F).1=_;rw[h])
 wb:=λx hx=>absurd hx List.not_mem_nil
 at0:=λ_=>rfl
theorem yXa{t:Tbl}(hv:zQf t=0):zQA (zQj t,[])=(some t,[],false):=by
 show zJK (zXx (zQj t)) false []=_
 rw[zXO zKp,zWs hv]
theorem zYx(h:Inv p f d):Inv p f d.begin:=by
 by_cases h8:8<=d.σ.lev.length
 ·have:d.begin=d:=by unfold Dat.begin Dat.to zZZ;rw[if_pos h8]
  rw[this];exact h
 ·have e:d.begin={ d with σ:={ d.σ with lev:=d.σ.lev ++ [d.σ.t] } }:=by unfold Dat.begin Dat.to zZZ;rw[if_neg h8]
  rw[e]
  refine⟨⟨h.t,λu hu=>?_,h.done,h.ne,h.ge,λu hu=>?_,?_,h.eq,h.file,h.hist,h.wb⟩,λhl=>?_⟩
  ·rcases List.mem_append.1 hu with hu|hu
   ·exact h.lev u hu
   ·rw[List.mem_singleton.1 hu];exact⟨h.t,h.ge⟩
  ·have hu:(d.σ.lev ++ [d.σ.t]).head?=some u:=hu
   cases hl:d.σ.lev with
   | nil=>rw[hl]at hu;cases hu;exact h.at0 hl
   | cons a l=>rw[hl]at hu;cases hu;exact h.h0 u (by rw[hl];rfl)
  ·show(d.σ.lev ++ [d.σ.t]).length<=8
   rw[List.length_append,List.length_singleton];omega
  ·have hl:d.σ.lev ++ [d.σ.t]=[]:=hl
   simp at hl
theorem zWX{α:Type}{l:List α}{u:α}(h:l.dropLast.head?=some u):l.head?=some u:=by
 cases l with
 | nil=>cases h
 | cons a l=>cases l with
  | nil=>cases h
  | cons b l=>exact h
theorem yQW(h:Inv p f d):InvW p f (d.to { d.σ with lev:=d.σ.lev.dropLast }):=
 ⟨h.t,λu hu=>h.lev u (List.dropLast_subset _ hu),h.done,h.ne,h.ge,λu hu=>h.h0 u (zWX hu),Nat.le_trans (show d.σ.lev.dropLast.length<=d.σ.lev.length from Nat.le_trans (Nat.le_of_eq List.length_dropLast) (Nat.sub_le _ _)) h.l8,h.eq,h.file,h.hist,h.wb⟩
theorem xQh(h:Inv p f d):Inv p f d.end_:=by
 unfold Dat.end_
 split
 ·exact h
 ·exact yQy (yQW h)
theorem yKu(h:Inv p f d):Inv p f d.back:=by
 by_cases hl:d.σ.lev=[]
 ·have:d.back=d:=by unfold Dat.back Dat.to zVt;rw[if_pos hl]
  rw[this];exact h
 ·obtain⟨u,hu⟩:∃u,d.σ.lev.getLast?=some u:=⟨_,List.getLast?_eq_some_getLast hl⟩
  have e:d.back={ d with σ:={ d.σ with t:=u,lev:=d.σ.lev.dropLast } }:=by unfold Dat.back Dat.to zVt;rw[if_neg hl,hu];rfl
  have hm:=h.lev u (List.mem_of_getLast? hu)
  have hs:({ d.σ with t:=u,lev:=d.σ.lev.dropLast }:Sto).last=d.σ.last:=zYo h.ne rfl
  have hlw:=yQW h
  have hs':({ d.σ with lev:=d.σ.lev.dropLast }:Sto).last=d.σ.last:=zYo h.ne rfl
  rw[e]
  refine⟨⟨hm.1,λx hx=>?_,h.done,h.ne,Nat.le_trans (Nat.le_of_eq (congrArg (λx=>x.recs.length) hs)) hm.2,λx hx=>?_,hlw.l8,h.eq,?_,h.hist,h.wb⟩,λhd=>?_⟩
  ·rw[hs];exact h.lev x (List.dropLast_subset _ hx)
  ·rw[hs];exact h.h0 x (zWX hx)
  ·show zQA d.last=_;rw[hs];exact h.file
  ·rw[hs]
   have hd:d.σ.lev.dropLast=[]:=hd
   refine h.h0 u ?_
   cases hq:d.σ.lev with
   | nil=>exact absurd hq hl
   | cons a l=>cases l with
    | nil=>rw[hq]at hu;exact hu
    | cons b l=>rw[hq]at hd;simp at hd
theorem zJB(h:Inv p f d){l:List Rec}(hn:l.length<=300)(hge:d.σ.t.recs.length<=l.length)(hr:∀r ∈ l,zQ0 f p r=0):InvW p f (d.to { d.σ with t:={ d.σ.t with recs:=l } }):=by
 have hR:=zQP.of h.t.ok
 have hs:({ d.σ with t:={ d.σ.t with recs:=l } }:Sto).last=d.σ.last:=zYo h.ne rfl
 refine⟨⟨?_,h.t.page,h.t.fields⟩,λu hu=>?_,h.done,h.ne,?_,λu hu=>?_,h.l8,h.eq,?_,h.hist,h.wb⟩
 ·exact zK3 hR.page hR.vf hn λr hr'=>by
   show zQ0 d.σ.t.fields d.σ.t.page r=0
   rw[h.t.fields,h.t.page];exact hr r hr'
 ·show _/\(Sto.last { d.σ with t:={ d.σ.t with recs:=l } }).recs.length<=_
  rw[hs];exact h.lev u hu
 ·show(Sto.last { d.σ with t:={ d.σ.t with recs:=l } }).recs.length<=_
  rw[hs];exact Nat.le_trans h.ge hge
 ·show u=Sto.last { d.σ with t:={ d.σ.t with recs:=l } }
  rw[hs];exact h.h0 u hu
 ·show zQA d.last=_;rw[show(d.to { d.σ with t:={ d.σ.t with recs:=l } }).σ.last=d.σ.last from hs];exact h.file
theorem zYd(h:Inv p f d){l:List Rec}(hn:l.length<=300)(hge:d.σ.t.recs.length<=l.length)(hr:∀r ∈ l,zQ0 f p r=0):Inv p f (d.recs l):=yQy (zJB h hn hge hr)
theorem InvW.recR(h:InvW p f d):∀r ∈ d.σ.t.recs,zQ0 f p r=0:=λr hr=>by
 have:=(zQP.of h.t.ok).recs r hr
 rw[h.t.fields,h.t.page]at this;exact this
theorem kQx(h:Inv p f d)(r:Rec):Inv p f (d.app r):=by
 unfold Dat.app
 split
 ·rename_i hc
  unfold yJa at hc
  split at hc
  ·omega
  ·rename_i cM
   rw[h.t.fields,h.t.page]at hc
   refine zYd h (by rw[List.length_append,List.length_singleton];omega) (by rw[List.length_append];omega) λx hx=>?_
   rcases List.mem_append.1 hx with hx|hx
   ·exact h.recR x hx
   ·rw[List.mem_singleton.1 hx];exact hc
 ·exact h
theorem kQy(h:Inv p f d)(k:Int)(r:Rec):Inv p f (d.put k r):=by
 have hn:=(zQP.of h.t.ok).n300
 unfold Dat.put
 split
 ·rename_i hc
  unfold yZY at hc
  split at hc
  ·rw[h.t.fields,h.t.page]at hc
   refine zYd h (by rw[List.length_set];exact hn) (by rw[List.length_set];exact Nat.le_refl _) λx hx=>?_
   rcases List.mem_or_eq_of_mem_set hx with hx|rfl
   ·exact h.recR x hx
   ·exact hc
  ·cases hc
 ·exact h
theorem zVq{α:Type}{g:α->α}{x:α}:∀{l:List α} {i:Nat},x ∈ l.modify i g->x ∈ l∨∃y,l[i]?=some y/\x=g y:=λ{l i} h=>by
 obtain⟨j,hj⟩:=List.getElem?_of_mem h
 rw[List.getElem?_modify]at hj
 by_cases e:i=j
 ·subst e
  simp only[if_pos]at hj
  cases hl:l[i]? with
  | none=>rw[hl]at hj;cases hj
  | some y=>rw[hl]at hj;right;exact⟨y,rfl,by simpa using hj.symm⟩
 ·simp only[if_neg e]at hj
  left
  have hj:l[j]?=some x:=by simpa using hj
  exact List.mem_of_getElem? hj
theorem xJI(h:Inv p f d)(k:Int)(g:Bool):Inv p f (d.mark k g):=by
 have hn:=(zQP.of h.t.ok).n300
 unfold Dat.mark
 split
 ·refine zYd h (by rw[List.length_modify];exact hn) (by rw[List.length_modify];exact Nat.le_refl _) λx hx=>?_
  rcases zVq hx with hx|⟨y,hy,rfl⟩
  ·exact h.recR x hx
  ·exact h.recR y (List.mem_of_getElem? hy)
 ·exact h
end Go.Proofs.YtaeecpjhfmcliaaGreatDoor
/- The log: values that are set, and a clean log, keep a store right; how large its files are. In plain words. No condition but those stated. -/
namespace Go.Proofs.YtaeecpjhfmcliaaGreatDoor
open Go.Sh Go.RowKit Tryz
theorem zX4{l:List Fld}{p:Int}{r:Rec}(h:zQ0 l p r=0):r.v.length=l.length:=(zYX h).1
theorem zKO{l:List Fld}{p:Int}{r:Rec}:zQ0 l p r=0 ↔ r.v.length=l.length/\∀(i:Nat) (f:Fld) (v:Val),l[i]?=some f->r.v[i]?=some v->zQR f p v=true:=by
 constructor
 ·intro h
  refine⟨zX4 h,λi f v hf hv=>?_⟩
  unfold zQ0 at h
  rw[if_neg (by simp[zX4 h])]at h
  split at h
  ·next ha=>
   have:=List.all_eq_true.1 ha (f,v) (List.mem_of_getElem? (i:=i) (by rw[List.getElem?_zip_eq_some];exact⟨hf,hv⟩))
   exact this
  ·cases h
 ·rintro⟨h1,h2⟩
  unfold zQ0
  rw[if_neg (by simp[h1]),if_pos]
  refine List.all_eq_true.2 λx hx=>?_
  obtain⟨i,hi⟩:=List.getElem?_of_mem hx
  obtain⟨a,b⟩:=List.getElem?_zip_eq_some.1 hi
  exact h2 i x.1 x.2 a b
theorem yXp {f:Fld} {p:Int} {v:Val} (h:(zZT f p v).2=0):zQR f p (zZT f p v).1=true:=by
 cases hB:zQo f && zQX p
 ·rw[zJE hB]at h;simp at h
 by_cases hv:zXk v ≠ 0
 ·rw[zK7 hB hv]at h;exact absurd h hv
 have hv:zXk v=0:=by simpa using hv
 rw[zJU hB hv]at h ⊢
 have hfB:zQo f=true:=by simp at hB;exact hB.1
 by_cases hk:v.kind=0
 ·unfold zQS at h ⊢
  rw[if_pos hk]at h ⊢
  by_cases hn:f.null=true
  ·rw[if_pos hn]
   unfold zQR
   rw[if_neg (by simp[hv]),if_pos hk];exact hn
  ·rw[if_neg hn]at h;simp at h
 by_cases aJ:v.kind ≠ (zXr f).kind
 ·unfold zQS at h;rw[if_neg hk,if_pos aJ]at h;simp at h
 by_cases h4:f.kind=4
 ·obtain⟨wl,wh⟩:=zYa hfB h4
  have e1:zQS f p v=if zXN (zZ4 (v.s.data.toList.take f.width.toNat)) p then(⟨4,0,bs (zZ4 (v.s.data.toList.take f.width.toNat))⟩,0)else(noV,10):=by
   unfold zQS;rw[if_neg hk,if_neg aJ,if_pos h4]
  cases ht:zXN (zZ4 (v.s.data.toList.take f.width.toNat)) p
  ·rw[e1,ht]at h;simp at h
  rw[e1,ht,if_pos rfl]
  have hbl:=yXu (v.s.data.toList.take f.width.toNat)
  have htl:=List.length_take_le f.width.toNat v.s.data.toList
  have aM:=yY0 (v.s.data.toList.take f.width.toNat)
  generalize zZ4 (v.s.data.toList.take f.width.toNat)=B at *
  have hvB:zXk ⟨4,0,bs B⟩=0:=by
   rw[zZE,if_neg (by dsimp only;rw[zQ9];omega)];rfl
  unfold zQR
  rw[if_neg (by simp[hvB]),if_neg (show ¬(4:Int)=0 by decide),if_neg (by omega),if_neg (by simp[h4]),if_neg (by omega),if_pos h4]
  rw[zQQ,aM,ht,zQ9,decide_eq_true rfl,decide_eq_true (show((B.length:Nat):Int)<=f.width by omega)];rfl
 ·unfold zQS at h ⊢
  rw[if_neg hk,if_neg aJ,if_neg h4]at h ⊢
  cases hf:zQR f p v
  ·rw[hf]at h;simp at h
  ·simp[hf]
variable {p : Int} {f : List Fld} {d : Dat}
theorem zYv {l:List Fld} {p:Int} {r:Rec} (h:zQ0 l p r=0) {i:Nat} {v:Val} (hv:∀g,l[i]?=some g->zQR g p v=true):zQ0 l p { r with v:=r.v.set i v }=0:=by
 obtain⟨h1,h2⟩:=zKO.1 h
 refine zKO.2 ⟨by rw[List.length_set];exact h1,λj g x hg hx=>?_⟩
 rw[List.getElem?_set]at hx
 split at hx
 ·rename_i e
  subst e
  split at hx
  ·cases hx;exact hv g hg
  ·cases hx
 ·exact h2 j g x hg hx
theorem xQ1{l:List Fld}{s:ByteArray}{i:Nat}(h:yQo l s=some i):i<l.length:=by
 unfold yQo at h
 obtain⟨h1,_⟩:=List.findIdx?_eq_some_iff_getElem.1 h
 exact h1
theorem yJ3(h:Inv p f d)(k:Int)(nm:ByteArray)(v:Val):Inv p f (d.set k nm v):=by
 have hn:=(zQP.of h.t.ok).n300
 unfold Dat.set
 split
 ·exact h
 ·rename_i i hi
  split
  ·rename_i hc
   have hil:=xQ1 hi
   refine zYd h (by rw[List.length_modify];exact hn) (by rw[List.length_modify];exact Nat.le_refl _) λx hx=>?_
   rcases zVq hx with hx|⟨y,hy,rfl⟩
   ·exact h.recR x hx
   ·refine zYv (h.recR y (List.mem_of_getElem? hy)) λg hg=>?_
    have e:d.σ.t.fields.getD i default=g:=by rw[List.getD_eq_getElem?_getD,h.t.fields,hg];rfl
    rw[e,h.t.page]at hc ⊢
    exact yXp hc.2
  ·exact h
theorem zVM (h:Inv p f d) (hl:d.σ.lev=[]):zQL (d.write d.whole).last=[⟨0,0,[]⟩,⟨0,0,zQj d.σ.t⟩,⟨1,0,[]⟩]/\InvW p f ([⟨0,0,[]⟩,⟨0,0,zQj d.σ.t⟩,⟨1,0,[]⟩].foldl Dat.write (d.write d.whole)):=by
 have e0:=h.at0 hl
 have hv:=h.t.ok
 have hbl:=zZK (zJg.of hv)
 have hbo:zQC d.σ.t=zQj d.σ.t:=by unfold zQC;rw[if_pos hv]
 have hfile:zQA d.last=(some d.σ.t,[],false):=by rw[e0];exact h.file
 have hW:=yQV hfile hv
 obtain⟨A,L,eA⟩:∃A L,d.last=(A,L):=⟨_,_,rfl⟩
 have e1:zQ1 d.last d.whole=(d.last.1,d.last.2 ++ zZY 119 (zQj d.σ.t)):=by
  unfold Dat.whole;rw[hbo];exact zKt (t:=d.σ.t)
 obtain⟨B,eB⟩:∃B,B=d.last.2 ++ zZY 119 (zQj d.σ.t):=⟨_,rfl⟩
 rw[←eB]at e1 hW
 have hany:∀x,zQA (x,B)=(some d.σ.t,[],true):=λx=>by
  have q:zJK (zXx d.last.1) false B=(some d.σ.t,[],true):=hW
  show zJK (zXx x) false B=_
  rw[←q]
  exact yZg _ _ _ rfl (by rw[q]) _
 have hend:zQA (zQj d.σ.t,[])=(some d.σ.t,[],false):=yXa hv
 have w0:∀(a:List UInt8) k,∃a',zZs (a,B) ⟨0,0,[]⟩ k=(a',B):=λa k=>by
  by_cases h0:k<=0
  ·exact⟨a,zZ2 _ _ h0⟩
  ·exact⟨_,zJ4 _ _ (by omega)⟩
 have w1:∀(a:List UInt8) k,∃a',zZs (a,B) ⟨0,0,zQj d.σ.t⟩ k=(a',B):=λa k=>by
  by_cases h0:k<=0
  ·exact⟨a,zZ2 _ _ h0⟩
  ·exact⟨_,zJ4 _ _ (by omega)⟩
 have w2:∀(a:List UInt8) k,zZs (a,B) ⟨1,0,[]⟩ k=(a,B)∨zZs (a,B) ⟨1,0,[]⟩ k=(a,[]):=λa k=>by
  by_cases h0:k<=0
  ·exact .inl (zZ2 _ _ h0)
  ·right
   rw[zJ4 _ _ (by omega)]
   show(a,B.take (min (0:Int) B.length).toNat ++ List.take k.toNat [])=_
   rw[show(min (0:Int) B.length).toNat=0 by omega];simp
 have z0:∀a,zQ1 (a,B) ⟨0,0,[]⟩=([],B):=λa=>by
  rw[zZo]
  show(a.take (min (0:Int) a.length).toNat ++ [],B)=_
  rw[show(min (0:Int) a.length).toNat=0 by omega];rfl
 have z1:zQ1 ([],B) ⟨0,0,zQj d.σ.t⟩=(zQj d.σ.t,B):=by rw[zZo];rfl
 have z2:∀a,zQ1 (a,B) ⟨1,0,[]⟩=(a,[]):=λa=>by
  rw[zZo]
  show(a,B.take (min (0:Int) B.length).toNat ++ [])=_
  rw[show(min (0:Int) B.length).toNat=0 by omega];rfl
 have hm:zQL (d.write d.whole).last=[⟨0,0,[]⟩,⟨0,0,zQj d.σ.t⟩,⟨1,0,[]⟩]:=by
  show zQL (zQ1 d.last d.whole)=_
  rw[e1]
  unfold zQL
  rw[hany]
  simp[hbo]
 refine⟨hm,?_⟩
 have tl:d.σ.last=d.σ.t:=e0.symm
 -- every stage tells the table; only the last one is clean: a weaker invariant on the way
 have hD:=zZD h.ne
 rw[tl]at hD
 have s1:yQm d.first (d.wr ++ [d.whole]) d.pts d.σ.done:=h.hist.same hD λk=>by
  rw[←h.eq]
  have hk:=zYm hfile (kind:=119) (body:=zQC d.σ.t) (by rw[hbo];omega) k
  rcases hk with h1|h1
  ·exact h1
  ·show(zQA (zZs d.last ⟨1,d.last.2.length,zZY 119 (zQC d.σ.t)⟩ k)).1=_
   rw[h1,hbo,←eB,hany]
 have q1:zQK d.first (d.wr ++ [d.whole]) (d.wr ++ [d.whole]).length=(d.last.1,B):=by
  rw[List.length_append,List.length_singleton,zXD,←h.eq,e1]
 have s2:yQm d.first (d.wr ++ [d.whole] ++ [(⟨0,0,[]⟩:Wr)]) d.pts d.σ.done:=s1.same hD λk=>by
  rw[q1]
  obtain⟨a',ha⟩:=w0 d.last.1 k
  rw[ha,hany]
 have q2:zQK d.first (d.wr ++ [d.whole] ++ [(⟨0,0,[]⟩:Wr)]) (d.wr ++ [d.whole] ++ [(⟨0,0,[]⟩:Wr)]).length=([],B):=by
  rw[List.length_append,List.length_singleton,zXD,q1,z0]
 have s3:yQm d.first (d.wr ++ [d.whole] ++ [(⟨0,0,[]⟩:Wr)] ++ [(⟨0,0,zQj d.σ.t⟩:Wr)]) d.pts d.σ.done:=s2.same hD λk=>by
  rw[q2]
  obtain⟨a',ha⟩:=w1 [] k
  rw[ha,hany]
 have q3:zQK d.first (d.wr ++ [d.whole] ++ [(⟨0,0,[]⟩:Wr)] ++ [(⟨0,0,zQj d.σ.t⟩:Wr)]) (d.wr ++ [d.whole] ++ [(⟨0,0,[]⟩:Wr)] ++ [(⟨0,0,zQj d.σ.t⟩:Wr)]).length=(zQj d.σ.t,B):=by
  rw[List.length_append,List.length_singleton,zXD,q2,z1]
 have s4:yQm d.first (d.wr ++ [d.whole] ++ [(⟨0,0,[]⟩:Wr)] ++ [(⟨0,0,zQj d.σ.t⟩:Wr)] ++ [(⟨1,0,[]⟩:Wr)]) d.pts d.σ.done:=s3.same hD λk=>by
  rw[q3]
  rcases w2 (zQj d.σ.t) k with h1|h1
  ·rw[h1,hany]
  ·rw[h1,hend]
 have q4:zQK d.first (d.wr ++ [d.whole] ++ [(⟨0,0,[]⟩:Wr)] ++ [(⟨0,0,zQj d.σ.t⟩:Wr)] ++ [(⟨1,0,[]⟩:Wr)]) (d.wr ++ [d.whole] ++ [(⟨0,0,[]⟩:Wr)] ++ [(⟨0,0,zQj d.σ.t⟩:Wr)] ++ [(⟨1,0,[]⟩:Wr)]).length=(zQj d.σ.t,[]):=by
  rw[List.length_append,List.length_singleton,zXD,q3,z2]
 have hlast:zQ1 (zQ1 (zQ1 (zQ1 d.last d.whole) ⟨0,0,[]⟩) ⟨0,0,zQj d.σ.t⟩) ⟨1,0,[]⟩=(zQj d.σ.t,[]):=by rw[e1,z0,z1,z2]
 refine⟨h.t,h.lev,h.done,h.ne,h.ge,h.h0,h.l8,?_,?_,s4,?_⟩
 ·show zQ1 (zQ1 (zQ1 (zQ1 d.last d.whole) ⟨0,0,[]⟩) ⟨0,0,zQj d.σ.t⟩) ⟨1,0,[]⟩=zQK d.first (d.wr ++ [d.whole] ++ [(⟨0,0,[]⟩:Wr)] ++ [(⟨0,0,zQj d.σ.t⟩:Wr)] ++ [(⟨1,0,[]⟩:Wr)]) (d.wr ++ [d.whole] ++ [(⟨0,0,[]⟩:Wr)] ++ [(⟨0,0,zQj d.σ.t⟩:Wr)] ++ [(⟨1,0,[]⟩:Wr)]).length
  rw[hlast,q4]
 ·show zQA (zQ1 (zQ1 (zQ1 (zQ1 d.last d.whole) ⟨0,0,[]⟩) ⟨0,0,zQj d.σ.t⟩) ⟨1,0,[]⟩)=(some d.σ.last,[],false)
  rw[hlast,hend,tl]
 ·intro y hy
  have hy:y ∈ d.wr ++ [d.whole] ++ [(⟨0,0,[]⟩:Wr)] ++ [(⟨0,0,zQj d.σ.t⟩:Wr)] ++ [(⟨1,0,[]⟩:Wr)]:=hy
  simp only[List.mem_append,List.mem_singleton,or_assoc]at hy
  rcases hy with hy|rfl|rfl|rfl|rfl
  ·exact h.wb y hy
  ·refine⟨.inr rfl,by show 0<=(d.last.2.length:Int);omega,?_⟩
   show(zZY 119 (zQC d.σ.t)).length<=_
   rw[zJr,hbo];omega
  ·exact⟨.inl rfl,Int.le_refl _,by simp⟩
  ·exact⟨.inl rfl,Int.le_refl _,by show(zQj d.σ.t).length<=_;omega⟩
  ·exact⟨.inr rfl,Int.le_refl _,by simp⟩
theorem xQG(h:Inv p f d):Inv p f d.clean:=by
 unfold Dat.clean
 split
 ·rename_i hc
  obtain⟨h1,h2⟩:=zVM h hc.1
  rw[h1]
  exact⟨h2,λhl=>h.at0 hl⟩
 ·exact h
theorem zJI{F:Fls}{W:List Wr}{c:Nat}(hF:F.1.length<=c/\F.2.length<=c)(hW:∀x ∈ W,x.b.length<=700000):(W.foldl zQ1 F).1.length<=c+700000 * W.length/\(W.foldl zQ1 F).2.length<=c+700000 * W.length:=by
 induction W generalizing F c with
 | nil=>simpa using hF
 | cons x W ih=>
  have hx:=hW x List.mem_cons_self
  have h1:(zQ1 F x).1.length<=c+700000/\(zQ1 F x).2.length<=c+700000:=by
   rw[zZo]
   unfold Fls.put Fls.get
   have l1:=List.length_take_le (min x.at_ F.1.length).toNat F.1
   have l2:=List.length_take_le (min x.at_ F.2.length).toNat F.2
   have m1:(F.1.take (min x.at_ F.1.length).toNat).length<=F.1.length:=by rw[List.length_take];exact Nat.min_le_right _ _
   have m2:(F.2.take (min x.at_ F.2.length).toNat).length<=F.2.length:=by rw[List.length_take];exact Nat.min_le_right _ _
   split <;> simp only[List.length_append] <;> omega
  have:=ih h1 λy hy=>hW y (List.mem_cons_of_mem _ hy)
  rw[List.foldl_cons,List.length_cons]
  omega
theorem yXx{F:Fls}{x:Wr}{k:Int}{c:Nat}(hF:F.1.length<=c/\F.2.length<=c)(hx:x.b.length<=700000):(zZs F x k).1.length<=c+700000/\(zZs F x k).2.length<=c+700000:=by
 by_cases h0:k<=0
 ·rw[zZ2 _ _ h0];omega
 ·rw[zJ4 _ _ (by omega)]
  unfold Fls.put Fls.get
  have m1:(F.1.take (min x.at_ F.1.length).toNat).length<=F.1.length:=by rw[List.length_take];exact Nat.min_le_right _ _
  have m2:(F.2.take (min x.at_ F.2.length).toNat).length<=F.2.length:=by rw[List.length_take];exact Nat.min_le_right _ _
  have m3:(x.b.take k.toNat).length<=x.b.length:=by rw[List.length_take];exact Nat.min_le_right _ _
  split <;> simp only[List.length_append] <;> omega
end Go.Proofs.YtaeecpjhfmcliaaGreatDoor
/- Table: the laws on the reading of bytes. No condition. -/
set_option maxRecDepth 100000
set_option maxHeartbeats 1000000
namespace Go.Proofs.YtaeecpjhfmcliaaGreatDoor
open Go.Sh Go.RowKit Tryz
theorem tbl_eq{a b:Tbl}:(a=b) ↔ (a.page=b.page/\a.fields=b.fields/\a.recs=b.recs):=by
 obtain⟨a1,a2,a3⟩:=a;obtain⟨b1,b2,b3⟩:=b;simp
theorem zVm{w:World}{a b:Tbl}{fa ra fb rb:SV}(ha:zX2 w a fa ra)(hb:zX2 w b fb rb):Calls prog 18 #[zVb a fa ra,zVb b fb rb] w λe w'=>e=.returned (.bool (decide (a=b)))/\Pu w w':=by
 refine yY3 _ _ _ _ _ _ w _ (alB λw1 ar aB=>alB λw2 aq aM=>?_)
 have aG:=ar.trans aq
 have b1:∀{wz},Pu w2 wz->_:=λ{wz} (h:Pu w2 wz)=>yXw (t:=a) (f:=fa) (q:=ra) (h.blk (aq.blk aB))
 have b2:∀{wz},Pu w2 wz->_:=λ{wz} (h:Pu w2 wz)=>yXw (t:=b) (f:=fb) (q:=rb) (h.blk aM)
 have c1:=(b1 (Pu.refl _)).1
 have c2:=(b2 (Pu.refl _)).1
 rw[yYf]at c1 c2
 have no:∀{w':World},Pu w2 w'->a ≠ b->(Ending.returned (.bool false)=.returned (.bool (decide (a=b)))/\Pu w w'):=λh hne=>⟨by rw[decide_eq_false hne],aG.trans h⟩
 refine⟨_,c1,_,c2,Br.of (λd=>no (Pu.refl _) λe=>zQ2 d (by rw[e])) (λd=>⟨_,(b1 (Pu.refl _)).2.1,_,(b2 (Pu.refl _)).2.1,(yXW (RdF.of (ha.fields.pu aG)) (RdF.of (hb.fields.pu aG))).mono ?_⟩)⟩
 have hpg:=zQs d
 rintro e w3 ⟨rfl,au⟩
 refine⟨_,rfl,Br.of (λd1=>no au λe=>by rw[e]at d1;simp at d1) (λd1=>⟨_,(b1 au).2.2,_,(b2 au).2.2,?_⟩)⟩
 have hfl:a.fields=b.fields:=by simpa using d1
 have hla:=ha.recs.len
 have hlb:=hb.recs.len
 have hlm:=ha.recs.lim
 refine Br.of (λd2=>no au λe=>zQ2 d2 (by rw[hla,hlb,e])) (λd2=>?_)
 have hlen:a.recs.length=b.recs.length:=by have:=zQs d2;omega
 refine zQw a.recs.length (λk t w'=>t=(k:Int)/\a.recs.take k=b.recs.take k/\Pu w2 w') ⟨rfl,by simp,au⟩ ?_
 rintro k J t w4 hk ⟨ht,he,hp⟩ hJ
 obtain rfl:t=(k:Int):=ht
 refine⟨_,(b1 hp).2.2,Br.of (λd3=>zQc λw5 aR _=>?_) (λd3=>?_)⟩
 ·have aJ:k<a.recs.length:=by have:=zQk d3;omega
  have p5:=hp.trans aR
  obtain⟨x,hx⟩:=zQM aJ
  obtain⟨y,hy⟩:=zQM (show k<b.recs.length by omega)
  obtain⟨p,sx,hpa,_,vx,x0,x1⟩:=zWk (ha.recs.pu (aG.trans p5)) hx
  obtain⟨q,sy,hqa,_,vy,y0,y1⟩:=zWk (hb.recs.pu (aG.trans p5)) hy
  refine⟨_,(b1 p5).2.2,p,hpa,by omega,by omega,_,x0,_,x1,_,(b2 p5).2.2,q,hqa,by omega,by omega,_,y0,_,y1,(yXT (RdV.of vx) (RdV.of vy)).mono ?_⟩
  rintro e w6 ⟨rfl,bB⟩
  refine⟨_,rfl,Br.of (λd4=>no (p5.trans bB) λe=>?_) (λd4=>?_)⟩
  ·have:x=y:=by rw[e]at hx;rw[hx]at hy;exact Option.some.inj hy
   subst this
   simp at d4
  ·rw[zQa (by omega) (by omega)]
   have hxy:x=y:=by
    rw[xVs]
    simpa using d4
   exact hJ _ _ aJ ⟨by omega,zJ9 he hx hy hxy,p5.trans bB⟩
 ·have aJ:k=a.recs.length:=by have:=zQd d3;omega
  subst aJ
  rw[List.take_length,hlen,List.take_length]at he
  exact⟨by rw[decide_eq_true (tbl_eq.2 ⟨hpg,hfl,he⟩)],aG.trans hp⟩
theorem zQh.set{w1 w:World}{s:SV}{l:List UInt8}(h:zQh w1 w s l)(hp:Pu w1 w){i:Nat}(hi:i<l.length)(b:UInt8):∃a,s.a=some a/\∀K:World->Prop,(∀w',zQh w1 w' s (l.set i b)->Pu w1 w'->K w')->st1 (a.add i) (u8V b) w K:=by
 obtain⟨a,ha,_⟩:=h.1.st1 (j:=i) (by simpa using hi) (u8V b) (K:=λ_=>True) λ_ _ _ _=>trivial
 refine⟨a,ha,λK hK=>?_⟩
 obtain⟨a',ha',hst⟩:=h.1.st1 (j:=i) (by simpa using hi) (u8V b) (K:=K) λw' h1 h2 _=>hK w' ⟨by rw[List.map_set];exact h1,h.2⟩ (hp.andNew h2 λi hi=>h.2 i hi)
 rw[ha]at ha';cases ha'
 exact hst
end Go.Proofs.YtaeecpjhfmcliaaGreatDoor
/- The log: how tables, files and a store lie in memory. No condition but those stated. -/
namespace Go.Proofs.YtaeecpjhfmcliaaGreatDoor
open Go.Sh Go.RowKit Tryz
variable {w w' : World}
theorem zKW:zX9 prog 35=3:=by kernel_rfl
theorem yWN:zX9 prog 67=2:=by kernel_rfl
theorem xYX:zX9 prog 73=3:=by kernel_rfl
theorem vk90:zX9 prog 90=3:=by kernel_rfl
theorem vu22:prog.underlying 22=some (.slice 5):=by kernel_rfl
theorem kQ2:prog.underlying 24=some (.pointer 108):=by kernel_rfl
theorem vu33:prog.underlying 33=some (.slice 67):=by kernel_rfl
theorem vu38:prog.underlying 38=some (.slice 73):=by kernel_rfl
theorem vu32:prog.underlying 32=some (.slice 129):=by kernel_rfl
theorem vu52:prog.underlying 52=some (.slice 3):=by kernel_rfl
theorem vu82:prog.underlying 82=some (.slice 22):=by kernel_rfl
theorem vu87:prog.underlying 87=some (.slice 90):=by kernel_rfl
theorem xJs:prog.underlying 106=some (.slice 35):=by kernel_rfl
theorem vi5:(prog.info? 5).map (λi=>(i.zero,i.size,i.bytes))=some (some (.int .u8 0),1,1):=by kernel_rfl
theorem vi22:(prog.info? 22).map (λi=>(i.zero,i.size,i.bytes))=some (some (.slice none 0 0),1,24):=by kernel_rfl
theorem vi3:(prog.info? 3).map (λi=>(i.zero,i.size,i.bytes))=some (some (.int .i64 0),1,8):=by kernel_rfl
theorem vi35:(prog.info? 35).map (λi=>(i.zero,i.size,i.bytes))=some (some (.agg #[.int .i64 0,.slice none 0 0,.slice none 0 0]),3,56):=by kernel_rfl
theorem vi67:(prog.info? 67).map (λi=>(i.zero,i.size,i.bytes))=some (some (.agg #[.bool false,.slice none 0 0]),2,32):=by kernel_rfl
theorem vi73:(prog.info? 73).map (λi=>(i.zero,i.size,i.bytes))=some (some (.agg #[.int .i64 0,.int .i64 0,.string ⟨#[]⟩]),3,32):=by kernel_rfl
theorem vi90:(prog.info? 90).map (λi=>(i.zero,i.size,i.bytes))=some (some (.agg #[.int .i64 0,.int .i64 0,.slice none 0 0]),3,40):=by kernel_rfl
theorem vi129:(prog.info? 129).map (λi=>(i.zero,i.size,i.bytes))=some (some (.agg #[.string ⟨#[]⟩,.int .i64 0,.int .i64 0,.bool false]),4,40):=by kernel_rfl
abbrev slV(s:SV):Value:=.slice s.a s.len s.cap
structure HT where
 page:Int
 f:SV
 r:SV
 hs:List (Bool × SV)
abbrev zVE(h:HT):List Value:=[.int .i64 h.page,slV h.f,slV h.r]
theorem zQv(h:HT):(zVE h).length=3:=rfl
def vBl (hs:List (Bool × SV)):List Nat:=hs.flatMap λx=>zQe x.2
theorem zVV (x:Bool × SV) (hs:List (Bool × SV)):vBl (x :: hs)=zQe x.2 ++ vBl hs:=rfl
theorem zVp {hs:List (Bool × SV)} {x:Bool × SV} {b:Nat} (hx:x ∈ hs) (hb:b ∈ zQe x.2):b ∈ vBl hs:=List.mem_flatMap.2 ⟨x,hx,hb⟩
def HT.own(h:HT)(b:Nat):Prop:=b ∈ zQe h.r∨b ∈ vBl h.hs
structure zJJ(w:World)(t:Tbl)(h:HT):Prop where
 page:h.page=t.page
 rw_:zQl w 67 2 h.r (h.hs.flatMap yKk)
 len:h.hs.length=t.recs.length
 rec_:∀(i:Nat) (x:Bool × SV) (r:Rec),h.hs[i]?=some x->t.recs[i]?=some r->x.1=r.gone/\zQl w 73 3 x.2 (r.v.flatMap zVN)
 nd:(vBl h.hs).Nodup
variable {t : Tbl} {h : HT}
theorem zJJ.fr{B:Nat->Prop}(ht:zJJ w t h)(hf:Fr B w w')(hn:∀b,h.own b->¬B b):zJJ w' t h where
 page:=ht.page
 rw_:=ht.rw_.fr hf λb hb=>hn b (.inl hb)
 len:=ht.len
 rec_:=λi x r hx hr=>⟨(ht.rec_ i x r hx hr).1,(ht.rec_ i x r hx hr).2.fr hf λb hb=>hn b (.inr (zVp (List.mem_of_getElem? hx) hb))⟩
 nd:=ht.nd
theorem zJJ.pu(ht:zJJ w t h)(hp:Pu w w'):zJJ w' t h:=ht.fr (Fr.pu hp:Fr (λ_=>False) w w') λ_ _ h=>h
theorem zJJ.lt(ht:zJJ w t h):∀b,h.own b->b<w.heap.size:=λb hb=>by
 rcases hb with hb|hb
 ·exact ht.rw_.lt b hb
 ·obtain⟨x,hx,hb⟩:=List.mem_flatMap.1 hb
  obtain⟨i,hi⟩:=List.getElem?_of_mem hx
  obtain⟨r,hr⟩:=zQM (l:=t.recs) (k:=i) (by rw[←ht.len];exact(List.getElem?_eq_some_iff.1 hi).1)
  exact(ht.rec_ i x r hi hr).2.lt b hb
theorem zJJ.other (ht:zJJ w t h) {b:Nat} {c:Array Value} {e:TypeId} {f:Nat × Nat} (hb:w.heap[b]?=some (.cells c e f)) (h1:e ≠ 67) (h2:e ≠ 73):¬h.own b:=λho=>by
 rcases ho with ho|ho
 ·exact ht.rw_.other hb (Ne.symm h1) ho
 ·obtain⟨x,hx,ho⟩:=List.mem_flatMap.1 ho
  obtain⟨i,hi⟩:=List.getElem?_of_mem hx
  obtain⟨r,hr⟩:=zQM (l:=t.recs) (k:=i) (by rw[←ht.len];exact(List.getElem?_eq_some_iff.1 hi).1)
  exact(ht.rec_ i x r hi hr).2.other hb (Ne.symm h2) ho
theorem yWA{f:Fld}{p:Int}{v:Val}(h:zQR f p v=true):zZR v.kind/\zZR v.n/\v.s.size<=2048:=by
 have hv:zXk v=0:=by
  unfold zQR at h
  split at h
  ·cases h
  ·rename_i hx;simpa using hx
 unfold zXk at hv
 split at hv
 ·cases hv
 rename_i hs
 split at hv
 ·rename_i hk
  simp only[Bool.and_eq_true]at hk
  have h1:=hk.1
  unfold okN at h1
  unfold zZR
  split at h1
  ·have:=of_decide_eq_true h1;omega
  split at h1
  ·simp at h1;omega
  split at h1
  ·simp at h1;omega
  split at h1
  ·simp at h1;omega
  split at h1
  ·have:=of_decide_eq_true h1;omega
  ·cases h1
 ·cases hv
theorem zZl{t:Tbl}(hv:zQf t=0):R64 t.recs:=λr hr=>by
 have hR:=zQP.of hv
 obtain⟨h1,h2⟩:=zKO.1 (hR.recs r hr)
 have iY:=(zXn hR.vf).2.2.2.1
 refine⟨λv hv=>?_,by omega⟩
 obtain⟨i,hi⟩:=List.getElem?_of_mem hv
 obtain⟨f,hf⟩:=zQM (l:=t.fields) (k:=i) (by have:=(List.getElem?_eq_some_iff.1 hi).1;omega)
 have:=yWA (h2 i f v hf hi)
 exact⟨this.1,this.2.1⟩
theorem yYN {s:SV} {l:List Val} (h:zQl w 73 3 s (l.flatMap zVN)) (hb:l.length<=1000000) (pr:V64 l):zX3 w s l:=zJY.rdS (w0:={ w with heap:=#[] }) ⟨h,λ_ _=>Nat.zero_le _⟩ hb pr
theorem zJJ.rd(ht:zJJ w t h)(hf:zX3 w h.f t.fields)(hv:zQf t=0):zX2 w t h.f h.r:=by
 have hR:=zQP.of hv
 have pr:=zZl hv
 have hl:=ht.rw_.len zQT (by decide)
 have qJ:=ht.len
 have hn:=hR.n300
 have hp:=hR.page
 unfold zQX at hp
 simp only[Bool.and_eq_true,decide_eq_true_eq]at hp
 refine⟨⟨by omega,by omega⟩,hf,by omega,ht.rw_.le_cap.1,by omega,λi r hr=>?_⟩
 obtain⟨x,hx⟩:=zQM (l:=h.hs) (k:=i) (by have:=(List.getElem?_eq_some_iff.1 hr).1;omega)
 obtain⟨e1,e2⟩:=ht.rec_ i x r hx hr
 obtain⟨a,h1,_,c0⟩:=ht.rw_.elem zQT hx (o:=0) rfl
 obtain⟨a1,qj,_,c1⟩:=ht.rw_.elem zQT hx (o:=1) rfl
 rw[h1]at qj;cases qj
 obtain⟨q1,q2⟩:=pr r (List.mem_of_getElem? hr)
 refine⟨a,h1,_,⟨x.2,rfl,yYN e2 q2 q1⟩,λj v hv=>?_⟩
 rcases j with _|_|j <;> simp at hv
 ·subst hv;rw[←e1];exact c0
 ·subst hv;exact c1
theorem zZJ{t:Tbl}(hv:zQf t=0):Lim.ok t.fields:=λf hf=>by
 have:=(zXb (List.all_eq_true.1 (zJg.of hv).all f hf)).2.1
 show f.name.size<=140737488355328
 omega
structure zXG(w:World)(s q0 q1:SV)(F:Fls):Prop where
 len:s.len=2
 cap:2<=s.cap
 ex:∃a,s.a=some a/\w.cell? (a.add 0)=some (slV q0)/\w.cell? (a.add 1)=some (slV q1)
 b0:ByV w q0 F.1
 b1:ByV w q1 F.2
theorem zXG.pu{s q0 q1:SV}{F:Fls}(h:zXG w s q0 q1 F)(hp:Pu w w'):zXG w' s q0 q1 F:=by
 obtain⟨a,h1,h2,h3⟩:=h.ex
 exact⟨h.len,h.cap,⟨a,h1,hp.cell h2,hp.cell h3⟩,h.b0.pu hp,h.b1.pu hp⟩
structure SL where
 S:Nat
 now:HT
 lv:SV
 lh:List HT
 dn:SV
 dh:List HT
 first:SV
 f0:SV
 f1:SV
 last:SV
 l0:SV
 l1:SV
 wr:SV
 wh:List (Int × Int × SV)
 pt:SV
abbrev wrC(x:Int × Int × SV):List Value:=[.int .i64 x.1,.int .i64 x.2.1,slV x.2.2]
theorem zXM(x:Int × Int × SV):(wrC x).length=3:=rfl
def zKf(mu:Int)(L:SL):Array Value:=#[.int .i32 mu,.int .u32 0,.int .i64 L.now.page,slV L.now.f,slV L.now.r,slV L.lv,slV L.dn,slV L.first,slV L.last,slV L.wr,slV L.pt]
def SL.own(L:SL)(b:Nat):Prop:=b=L.S∨b ∈ zQe L.lv∨b ∈ zQe L.dn∨b ∈ zQe L.wr∨b ∈ zQe L.pt∨∃h ∈ L.now :: L.lh,h.own b
abbrev SL.ptr(L:SL):Value:=.pointer (some ⟨L.S,0,none⟩)
structure KpAt(w:World)(L:SL)(d:Dat):Prop where
 nf:zX3 w L.now.f d.σ.t.fields
 lf:∀(i:Nat) h t,L.lh[i]?=some h->d.σ.lev[i]?=some t->zX3 w h.f t.fields
 dt:∀(i:Nat) h t,L.dh[i]?=some h->d.σ.done[i]?=some t->h.page=t.page/\zX2 w t h.f h.r
 fi:zXG w L.first L.f0 L.f1 d.first
 la:zXG w L.last L.l0 L.l1 d.last
 wb:∀(i:Nat) x y,L.wh[i]?=some x->d.wr[i]?=some y->x.1=y.file/\x.2.1=y.at_/\ByV w x.2.2 y.b
theorem KpAt.pu{L:SL}{d:Dat}(h:KpAt w L d)(hp:Pu w w'):KpAt w' L d:=
 ⟨h.nf.pu hp,λi x t hx ht=>(h.lf i x t hx ht).pu hp,λi x t hx ht=>⟨(h.dt i x t hx ht).1,(h.dt i x t hx ht).2.pu hp⟩,h.fi.pu hp,h.la.pu hp,λi x y hx hy=>⟨(h.wb i x y hx hy).1,(h.wb i x y hx hy).2.1,(h.wb i x y hx hy).2.2.pu hp⟩⟩
structure zQH(X:Nat->Prop)(w:World)(L:SL)(d:Dat)(mu:Int):Prop where
 st:w.heap[L.S]?=some (.cells (zKf mu L) 108)
 lv:zQl w 35 3 L.lv (L.lh.flatMap zVE)
 dn:zQl w 35 3 L.dn (L.dh.flatMap zVE)
 wr:zQl w 90 3 L.wr (L.wh.flatMap wrC)
 pt:zQl w 3 1 L.pt (d.pts.map (Value.int .i64))
 now:zJJ w d.σ.t L.now
 ll:L.lh.length=d.σ.lev.length
 dl:L.dh.length=d.σ.done.length
 wl:L.wh.length=d.wr.length
 lvs:∀(i:Nat) h t,L.lh[i]?=some h->d.σ.lev[i]?=some t->zJJ w t h
 ld:∀b ∈ zQe L.lv,b ∉ zQe L.dn
 dj:∀x ∈ L.lh,∀b,L.now.own b->¬x.own b
 djl:∀(i j:Nat) x y,i ≠ j->L.lh[i]?=some x->L.lh[j]?=some y->∀b,x.own b->¬y.own b
 xl:∀b,X b->b<w.heap.size
 kp:∀w',Fr (λb=>L.own b∨X b) w w'->KpAt w' L d
variable {X : Nat -> Prop} {L L' : SL} {d d' : Dat} {mu : Int}
theorem zQH.kp0(h:zQH X w L d mu):KpAt w L d:=h.kp w (Fr.refl _ _)
theorem zQH.lev_tab(h:zQH X w L d mu){x:HT}(hx:x ∈ L.lh):∃t,t ∈ d.σ.lev/\zJJ w t x:=by
 obtain⟨i,hi⟩:=List.getElem?_of_mem hx
 obtain⟨t,ht⟩:=zQM (l:=d.σ.lev) (k:=i) (by rw[←h.ll];exact(List.getElem?_eq_some_iff.1 hi).1)
 exact⟨t,List.mem_of_getElem? ht,h.lvs i x t hi ht⟩
theorem zQH.any_tab(h:zQH X w L d mu){x:HT}(hx:x ∈ L.now :: L.lh):∃t,zJJ w t x:=by
 rcases List.mem_cons.1 hx with rfl|hx
 ·exact⟨_,h.now⟩
 ·obtain⟨t,_,ht⟩:=h.lev_tab hx;exact⟨t,ht⟩
theorem zQH.own_lt(h:zQH X w L d mu){b:Nat}(hb:L.own b):b<w.heap.size:=by
 rcases hb with rfl|hb|hb|hb|hb|⟨x,hx,hb⟩
 ·exact zQx h.st
 ·exact h.lv.lt b hb
 ·exact h.dn.lt b hb
 ·exact h.wr.lt b hb
 ·exact h.pt.lt b hb
 ·obtain⟨t,ht⟩:=h.any_tab hx;exact ht.lt b hb
theorem zQH.fr{B:Nat->Prop}(h:zQH X w L d mu)(hf:Fr B w w')(hn:∀b,L.own b->¬B b)(hx:∀b,B b->b<w.heap.size->X b):zQH X w' L d mu where
 st:=hf.blk h.st (hn _ (.inl rfl))
 lv:=h.lv.fr hf λb hb=>hn b (.inr (.inl hb))
 dn:=h.dn.fr hf λb hb=>hn b (.inr (.inr (.inl hb)))
 wr:=h.wr.fr hf λb hb=>hn b (.inr (.inr (.inr (.inl hb))))
 pt:=h.pt.fr hf λb hb=>hn b (.inr (.inr (.inr (.inr (.inl hb)))))
 now:=h.now.fr hf λb hb=>hn b (.inr (.inr (.inr (.inr (.inr ⟨_,List.mem_cons_self,hb⟩)))))
 ll:=h.ll
 dl:=h.dl
 wl:=h.wl
 lvs:=λi x t h1 h2=>(h.lvs i x t h1 h2).fr hf λb hb=>hn b (.inr (.inr (.inr (.inr (.inr ⟨_,List.mem_cons_of_mem _ (List.mem_of_getElem? h1),hb⟩)))))
 ld:=h.ld
 dj:=h.dj
 djl:=h.djl
 xl:=λb hb=>Nat.lt_of_lt_of_le (h.xl b hb) hf.size
 kp:=λw2 h2=>h.kp w2 ((hf.mono λb hb hlt=>.inr (hx b hb hlt)).trans h2 λb hb _=>hb)
theorem zQH.pu(h:zQH X w L d mu)(hp:Pu w w'):zQH X w' L d mu:=h.fr (Fr.pu hp:Fr (λ_=>False) w w') (λ_ _ h=>h) (λ_ h=>h.elim)
theorem zQH.cell(h:zQH X w L d mu)(o:Nat):w.cell? ⟨L.S,o,none⟩=(zKf mu L)[o]?:=zQI h.st o
theorem zQH.cellA(h:zQH X w L d mu)(o:Nat):w.cell? ((⟨L.S,0,none⟩:Addr).add o)=(zKf mu L)[o]?:=by rw[zQr,Nat.zero_add];exact h.cell o
theorem zQH.cellB(h:zQH X w L d mu)(i o:Nat):w.cell? (((⟨L.S,0,none⟩:Addr).add i).add o)=(zKf mu L)[i+o]?:=by rw[zQr,zQr,Nat.zero_add];exact h.cell _
theorem zQH.rdNow(h:zQH X w L d mu)(hv:zQf d.σ.t=0):zX2 w d.σ.t L.now.f L.now.r:=h.now.rd h.kp0.nf hv
structure zZg(w w':World)(L L':SL):Prop where
 fr:Fr L.own w w'
 own:∀b,L'.own b->L.own b∨w.heap.size<=b
 ptr:L'.S=L.S
theorem zZg.refl(w:World)(L:SL):zZg w w L L:=⟨Fr.refl _ _,λ_ h=>.inl h,rfl⟩
theorem zZg.pu(hp:Pu w w')(L:SL):zZg w w' L L:=⟨Fr.pu hp,λ_ h=>.inl h,rfl⟩
theorem zZg.trans{w'':World}{L'':SL}(h:zZg w w' L L')(k:zZg w' w'' L' L''):zZg w w'' L L'':=by
 refine⟨h.fr.trans k.fr λb hb hlt=>(h.own b hb).resolve_right (by omega),λb hb=>?_,k.ptr.trans h.ptr⟩
 rcases k.own b hb with h1|h1
 ·exact h.own b h1
 ·exact .inr (Nat.le_trans h.fr.size h1)
theorem zZg.keep {Q:World->Prop} (h:zZg w w' L L') (hq:∀w2,Fr (λb=>L.own b∨X b) w w2->Q w2) (hxl:∀b,X b->b<w.heap.size):∀w2,Fr (λb=>L'.own b∨X b) w' w2->Q w2:=λw2 h2=>
 hq w2 ((h.fr.mono λb hb _=>.inl hb).trans h2 λb hb hlt=>by
  rcases hb with hb|hb
  ·exact .inl ((h.own b hb).resolve_right (by omega))
  ·exact .inr hb)
end Go.Proofs.YtaeecpjhfmcliaaGreatDoor
