import Derived.Test.YtaeecpjhfmcliaaGreatDoorLgOwE
import Derived.Test.YtaeecpjhfmcliaaGreatDoorLgOwC
import Derived.Test.YtaeecpjhfmcliaaGreatDoorShFourteen
import Derived.Test.YtaeecpjhfmcliaaGreatDoorShTwentyOne
import Derived.Test.YtaeecpjhfmcliaaGreatDoorShTwentyTwo
import Derived.Test.YtaeecpjhfmcliaaGreatDoorShTwentyFive
import Derived.Test.YtaeecpjhfmcliaaGreatDoorShTwentyNine
/- The log: what bytes of the log tell, record by record; what is cut off or put behind; recoveries. In plain words. No condition but those stated. -/
set_option linter.unusedVariables false
set_option linter.unusedSimpArgs false
noncomputable section
namespace Go.Proofs.YtaeecpjhfmcliaaGreatDoor
open Go.Sh Go.RowKit Tryz
def zJ0(cur:Option Tbl)(a:Bool)(k:UInt8)(body:List UInt8):Option Tbl × Bool:=
 if k=119 then(zXx body,true)else if k ≠ 99 then(none,a)else(cur.bind λt=>zXb t body,a)
theorem zXR{cur:Option Tbl}{a:Bool}{rest:List UInt8}(h:zZF rest=none):zJL cur a rest=(cur,rest,a):=by
 rw[zJL];split
 ·rfl
 ·next hx=>rw[h]at hx;cases hx
theorem zZI {cur:Option Tbl} {a:Bool} {rest body more:List UInt8} {k:UInt8} (h:zZF rest=some (k,body,more)):zJL cur a rest=zJL (zJ0 cur a k body).1 (zJ0 cur a k body).2 more:=by
 rw[zJL];split
 ·next hx=>rw[h]at hx;cases hx
 ·next k' body' more' hx=>
  rw[h]at hx
  simp only[Option.some.injEq,Prod.mk.injEq]at hx
  obtain⟨rfl,rfl,rfl⟩:=hx
  unfold zJ0
  split
  ·rfl
  ·split <;> rfl
theorem yJq{M:Option Tbl->Bool->List UInt8->Prop}(h0:∀cur a rest,zZF rest=none->M cur a rest)
  (h1:∀cur a rest k body more,zZF rest=some (k,body,more)->M (zJ0 cur a k body).1 (zJ0 cur a k body).2 more->M cur a rest):∀cur a rest,M cur a rest:=by
 have key:∀n cur a rest,rest.length=n->M cur a rest:=by
  intro n
  induction n using Nat.strongRecOn with
  | _ n ih=>
   intro cur a rest hn
   cases h:zZF rest with
   | none=>exact h0 cur a rest h
   | some x=>
    obtain⟨k,body,more⟩:=x
    exact h1 cur a rest k body more h (ih more.length (by rw[←hn];exact yXb h) _ _ more rfl)
 exact λcur a rest=>key _ cur a rest rfl
theorem seg{b x:List UInt8}{m i j:Nat}(h:i+j<=m)(hm:m<=b.length):((b.take m ++ x).drop i).take j=(b.drop i).take j:=by
 have hl:(b.take m).length=m:=by rw[List.length_take];omega
 rw[List.drop_append_of_le_length (by omega),List.take_append_of_le_length (by rw[List.length_drop];omega),List.drop_take,List.take_take,Nat.min_eq_left (by omega)]
theorem yJR {b body more:List UInt8} {k:UInt8} (h:zZF b=some (k,body,more)):∃front,b=front ++ more/\9<=front.length/\∀x,zZF (front ++ x)=some (k,body,x):=by
 unfold zZF at h
 split at h
 ·cases h
 rename_i h9
 split at h
 ·cases h
 rename_i hn
 split at h
 ·cases h
 rename_i hs
 simp only[Option.some.injEq,Prod.mk.injEq]at h
 obtain⟨rfl,rfl,rfl⟩:=h
 obtain⟨n,en⟩:∃n,n=zQZ ((b.drop 1).take 4):=⟨_,rfl⟩
 rw[←en]at hn hs ⊢
 have hm:9+n<=b.length:=by omega
 have hl:(b.take (9+n)).length=9+n:=by rw[List.length_take];omega
 refine⟨b.take (9+n),(List.take_append_drop _ _).symm,by omega,λx=>?_⟩
 have e1:(((b.take (9+n)) ++ x).drop 1).take 4=(b.drop 1).take 4:=seg (by omega) hm
 have e2:(((b.take (9+n)) ++ x).drop (5+n)).take 4=(b.drop (5+n)).take 4:=seg (by omega) hm
 have e3:((b.take (9+n)) ++ x).take (5+n)=b.take (5+n):=seg (i:=0) (by omega) hm
 have e4:(((b.take (9+n)) ++ x).drop 5).take n=(b.drop 5).take n:=seg (by omega) hm
 have e5:((b.take (9+n)) ++ x).drop (9+n)=x:=by
  conv=>lhs;rw[←hl]
  rw[hl]
  have:=List.drop_left (l₁:=b.take (9+n)) (l₂:=x)
  rw[hl]at this;exact this
 have e6:((b.take (9+n)) ++ x).headD 0=b.headD 0:=by
  cases b with
  | nil=>simp at hm
  | cons c b=>rw[show 9+n=(8+n)+1 by omega];rfl
 unfold zZF
 rw[e1,←en,if_neg (by rw[List.length_append];omega),if_neg (by rw[List.length_append];omega),e2,e3,if_neg hs,e4,e5,e6]
theorem zYe:∀(cur:Option Tbl) (a:Bool) (rest:List UInt8),zZF (zJL cur a rest).2.1=none/\∃front,rest=front ++ (zJL cur a rest).2.1/\∀x,zJL cur a (front ++ x)=zJL (zJL cur a rest).1 (zJL cur a rest).2.2 x:=by
 refine yJq (λcur a rest h=>?_) (λcur a rest k body more h ih=>?_)
 ·rw[zXR h]
  exact⟨h,[],rfl,λx=>rfl⟩
 ·rw[zZI h]
  obtain⟨h1,f,h2,h3⟩:=ih
  obtain⟨g,g1,_,g3⟩:=yJR h
  refine⟨h1,g ++ f,?_,λx=>?_⟩
  ·rw[List.append_assoc,←h2];exact g1
  ·rw[List.append_assoc,zZI (g3 (f ++ x)),h3]
theorem yZh:∀(cur:Option Tbl) (a:Bool) (rest:List UInt8),a=false->(zJL cur a rest).2.2=true->∀cur',zJL cur' a rest=zJL cur a rest:=by
 refine yJq (λcur a rest h ha hb=>?_) (λcur a rest k body more h ih ha hb cur'=>?_)
 ·rw[zXR h]at hb
  rw[show a=true from hb]at ha;cases ha
 ·rw[zZI h]at hb
  rw[zZI h,zZI h]
  by_cases hk:k=119
  ·have e:∀c,zJ0 c a k body=(zXx body,true):=λc=>by unfold zJ0;rw[if_pos hk]
   rw[e,e]
  ·have e:∀c,(zJ0 c a k body).2=a:=λc=>by
    unfold zJ0;rw[if_neg hk];split <;> rfl
   rw[e]at hb ih
   rw[e,e]
   exact ih ha hb _
theorem yKP{cur:Option Tbl}{a:Bool}{k:UInt8}{body x:List UInt8}(hb:body.length<4294967296):zJL cur a (zZY k body ++ x)=zJL (zJ0 cur a k body).1 (zJ0 cur a k body).2 x:=zZI (xQC hb)
theorem zWt {cur t:Option Tbl} {a b:Bool} {l:List UInt8} (h:zJL cur a l=(t,[],b)) (x:List UInt8):zJL cur a (l ++ x)=zJL t b x:=by
 obtain⟨_,f,h2,h3⟩:=zYe cur a l
 rw[h]at h2 h3
 simp only[List.append_nil]at h2
 subst h2
 exact h3 x
theorem zKu:zZF []=none:=rfl
theorem Fls.put1(F:Fls)(b:List UInt8):F.put 1 b=(F.1,b):=rfl
theorem zZn(F:Fls)(x:Wr):zQw F x=F.put x.file ((F.get x.file).take (min x.at_ (F.get x.file).length).toNat ++ x.b):=by
 unfold zQw zZp
 rw[if_neg (by omega),List.take_of_length_le (l:=x.b) (by omega)]
theorem zZT(F:Fls)(x:Wr){k:Int}(h:k<=0):zZp F x k=F:=by unfold zZp;rw[if_pos h]
theorem zJ1(F:Fls)(x:Wr){k:Int}(h:0<k):zZp F x k=F.put x.file ((F.get x.file).take (min x.at_ (F.get x.file).length).toNat ++ x.b.take k.toNat):=by unfold zZp;rw[if_neg (by omega)]
structure Mends(F:Fls)(t:Tbl):Prop where
 each:∀G ∈ zQO F,(zQ9 G).1=some t
 last:zQ9 (zKb F)=(some t,[],false)
 head:(zQO F).head?=some F
 end_:(zQO F).getLast?=some (zKb F)
theorem kQb {F:Fls} {t:Tbl} (h:(zQ9 F).1=some t) (hv:zQg t=0):Mends F t:=by
 obtain⟨h1,f,h2,h3⟩:=zYe (zXx F.1) false F.2
 obtain⟨c,r,a,e⟩:∃c r a,zQ9 F=(c,r,a):=⟨_,_,_,rfl⟩
 have e':zJL (zXx F.1) false F.2=(c,r,a):=e
 rw[e]at h
 obtain rfl:c=some t:=h
 rw[e']at h1 h2 h3
 dsimp only at h1 h2 h3
 have hlen:F.2.length=f.length+r.length:=by rw[h2,List.length_append]
 have hf:zQ9 (F.1,f)=(some t,[],a):=by
  have:=h3 []
  rw[List.append_nil,zXR zKu]at this
  exact this
 have hcut:zQw F ⟨1,F.2.length - r.length,[]⟩=(F.1,f):=by
  rw[zZn]
  show F.put 1 (F.2.take (min ((F.2.length:Int) - r.length) F.2.length).toNat ++ [])=_
  rw[Fls.put1,List.append_nil,show(min ((F.2.length:Int) - r.length) F.2.length).toNat=f.length by omega,h2,List.take_left]
 have hro:zXx (zQj t)=some t:=by
  cases q:zXx (zQj t)with
  | none=>exact absurd rfl (zVs q t hv)
  | some u=>obtain⟨q1,q2⟩:=zXl q;rw[yQ6 q1 hv q2]
 have hbo:zQC t=zQj t:=by unfold zQC;rw[if_pos hv]
 cases a with
 | false=>
  by_cases hr:r=[]
  ·have em:zQ8 F=[]:=by unfold zQ8;rw[e];simp[hr]
   subst hr
   have es:zQO F=[F]:=by unfold zQO;rw[em];rfl
   have eo:zKb F=F:=by unfold zKb;rw[em];rfl
   rw[List.append_nil]at h2
   refine⟨λG hG=>?_,by rw[eo];exact e,by rw[es];rfl,by rw[es,eo];rfl⟩
   rw[es,List.mem_singleton]at hG
   rw[hG,e]
  ·have em:zQ8 F=[⟨1,F.2.length - r.length,[]⟩]:=by unfold zQ8;rw[e];simp[hr]
   have es:zQO F=[F,(F.1,f)]:=by unfold zQO;rw[em];simp[hcut]
   have eo:zKb F=(F.1,f):=by unfold zKb;rw[em];simp[hcut]
   refine⟨λG hG=>?_,by rw[eo];exact hf,by rw[es];rfl,by rw[es,eo];rfl⟩
   rw[es]at hG
   simp only[List.mem_cons,List.not_mem_nil,or_false]at hG
   rcases hG with rfl|rfl
   ·rw[e]
   ·rw[hf]
 | true=>
  have hany:∀cur,zJL cur false f=(some t,[],true):=λcur=>by
   have q:zJL (zXx F.1) false f=(some t,[],true):=hf
   rw[←q]
   exact yZh _ _ _ rfl (by rw[q]) cur
  have g1:∀d,zQ9 (d,f)=(some t,[],true):=λd=>hany _
  have g3:zQ9 (zQj t,[])=(some t,[],false):=by
   show zJL (zXx (zQj t)) false []=_
   rw[zXR zKu,hro]
  have w0:∀d,zQw (d,f) ⟨0,0,[]⟩=([],f):=λd=>by
   rw[zZn]
   show((List.take (min (0:Int) d.length).toNat d) ++ [],f)=_
   rw[show(min (0:Int) d.length).toNat=0 by omega];rfl
  have w1:zQw ([],f) ⟨0,0,zQC t⟩=(zQj t,f):=by rw[zZn,hbo];rfl
  have w2:zQw (zQj t,f) ⟨1,0,[]⟩=(zQj t,[]):=by
   rw[zZn]
   show(zQj t,(List.take (min (0:Int) f.length).toNat f) ++ [])=_
   rw[show(min (0:Int) f.length).toNat=0 by omega];rfl
  by_cases hr:r=[]
  ·have em:zQ8 F=[⟨0,0,[]⟩,⟨0,0,zQC t⟩,⟨1,0,[]⟩]:=by unfold zQ8;rw[e];simp[hr]
   subst hr
   rw[List.append_nil]at h2
   have eF:F=(F.1,f):=by rw[←h2]
   have w0':zQw F ⟨0,0,[]⟩=([],f):=by rw[eF];exact w0 _
   have es:zQO F=[F,([],f),(zQj t,f),(zQj t,[])]:=by unfold zQO;rw[em];simp[w0',w1,w2]
   have eo:zKb F=(zQj t,[]):=by unfold zKb;rw[em];simp[w0',w1,w2]
   refine⟨λG hG=>?_,by rw[eo];exact g3,by rw[es];rfl,by rw[es,eo];rfl⟩
   rw[es]at hG
   simp only[List.mem_cons,List.not_mem_nil,or_false]at hG
   rcases hG with rfl|rfl|rfl|rfl
   ·rw[e]
   ·rw[g1]
   ·rw[g1]
   ·rw[g3]
  ·have em:zQ8 F=[⟨1,F.2.length - r.length,[]⟩,⟨0,0,[]⟩,⟨0,0,zQC t⟩,⟨1,0,[]⟩]:=by unfold zQ8;rw[e];simp[hr]
   have es:zQO F=[F,(F.1,f),([],f),(zQj t,f),(zQj t,[])]:=by unfold zQO;rw[em];simp[hcut,w0,w1,w2]
   have eo:zKb F=(zQj t,[]):=by unfold zKb;rw[em];simp[hcut,w0,w1,w2]
   refine⟨λG hG=>?_,by rw[eo];exact g3,by rw[es];rfl,by rw[es,eo];rfl⟩
   rw[es]at hG
   simp only[List.mem_cons,List.not_mem_nil,or_false]at hG
   rcases hG with rfl|rfl|rfl|rfl|rfl
   ·rw[e]
   ·rw[hf]
   ·rw[g1]
   ·rw[g1]
   ·rw[g3]
theorem yWw {F:Fls} {t:Option Tbl} (h:zQ9 F=(t,[],false)):zQ8 F=[]:=by unfold zQ8;rw[h];rfl
end Go.Proofs.YtaeecpjhfmcliaaGreatDoor
/- The log: what a record of changes makes of a table: of the table before, the table behind. In plain words. No condition but those stated. -/
namespace Go.Proofs.YtaeecpjhfmcliaaGreatDoor
open Go.Sh Go.RowKit Tryz
theorem zWl{t:Tbl}(hv:zQg t=0):zXx (zQj t)=some t:=by
 cases q:zXx (zQj t)with
 | none=>exact absurd rfl (zVs q t hv)
 | some u=>obtain⟨q1,q2⟩:=zXl q;rw[yQ6 q1 hv q2]
theorem yVW{t:Tbl}(hp:zQY t.page=true)(hf:zQW t.fields=0){r:Rec}(hr:zQ1 t.fields t.page r=0):yXP t (zJX zQu t.fields r)=some r:=by
 have hv:zQg { t with recs:=[r] }=0:=zKv hp hf (by simp) λx hx=>by rw[List.mem_singleton.1 hx];exact hr
 have e:zJK { t with recs:=[⟨false,zJr t.fields⟩] } ++ zJX zQu t.fields r ++ [26]=zQj { t with recs:=[r] }:=by
  unfold zQj
  rw[List.flatMap_cons,List.flatMap_nil,List.append_nil]
  rfl
 unfold yXP
 rw[e,zWl hv]
 rfl
theorem yQx{t:Tbl}(hp:zQY t.page=true)(hf:zQW t.fields=0){b:List UInt8}{r:Rec}(h:yXP t b=some r):zQ1 t.fields t.page r=0:=by
 unfold yXP at h
 obtain⟨x,h1,h2⟩:=Option.bind_eq_some_iff.1 h
 obtain⟨hx,hb⟩:=zXl h1
 rw[List.append_assoc]at hb
 obtain⟨e1,e2⟩:=xZL (t:={ t with recs:=[⟨false,zJr t.fields⟩] }) hx hp hf hb
 have hr:r ∈ x.recs:=List.mem_of_mem_head? (by rw[h2];rfl)
 have:=(zQN.of hx).recs r hr
 rw[e1,e2]at this
 exact this
theorem yXg(t:Tbl)(size:Nat)(recs:List Rec):goC t size recs []=some recs:=by rw[goC,dif_pos rfl]
theorem yXB {t:Tbl} {size:Nat} {recs:List Rec} {rest:List UInt8} (h:rest ≠ []):goC t size recs rest=(match yXP t ((rest.drop 2).take size)with
  | none=>none
  | some r=>if zQZ (rest.take 2)<1∨recs.length+1<zQZ (rest.take 2)∨300<zQZ (rest.take 2)then none
   else goC t size (if recs.length<zQZ (rest.take 2)then recs ++ [r]else recs.set (zQZ (rest.take 2) - 1) r) (rest.drop (size+2))):=by
 conv=>lhs;rw[goC]
 rw[dif_neg h]
 all_goals (cases yXP t ((rest.drop 2).take size) <;> rfl)
theorem xXh{t:Tbl}(hp:zQY t.page=true)(hf:zQW t.fields=0){size:Nat}:∀(n:Nat) (rest:List UInt8) (recs l:List Rec),rest.length<=n->recs.length<=300->(∀r ∈ recs,zQ1 t.fields t.page r=0)->goC t size recs rest=some l->
  l.length<=300/\∀r ∈ l,zQ1 t.fields t.page r=0:=by
 intro n
 induction n with
 | zero=>
  intro rest recs l hn hl hr h
  obtain rfl:rest=[]:=List.eq_nil_of_length_eq_zero (by omega)
  rw[yXg]at h;cases h
  exact⟨hl,hr⟩
 | succ n ih=>
  intro rest recs l hn hl hr h
  by_cases h0:rest=[]
  ·subst h0
   rw[yXg]at h;cases h
   exact⟨hl,hr⟩
  rw[yXB h0]at h
  split at h
  ·cases h
  rename_i r q
  split at h
  ·cases h
  rename_i hk
  have hpos:=List.length_pos_iff.2 h0
  refine ih _ _ _ (by rw[List.length_drop];omega) ?_ ?_ h
  ·split
   ·rw[List.length_append,List.length_singleton];omega
   ·rw[List.length_set];exact hl
  ·intro x hx
   have hrv:=yQx hp hf q
   split at hx
   ·rcases List.mem_append.1 hx with hx|hx
    ·exact hr x hx
    ·rw[List.mem_singleton.1 hx];exact hrv
   ·rcases List.mem_or_eq_of_mem_set hx with hx|rfl
    ·exact hr x hx
    ·exact hrv
theorem zWe{t u:Tbl}{body:List UInt8}(hv:zQg t=0)(h:zXb t body=some u):zQg u=0:=by
 have hR:=zQN.of hv
 unfold zXb at h
 split at h
 ·cases h
 obtain⟨l,h1,h2⟩:=Option.bind_eq_some_iff.1 h
 split at h2
 ·cases h2
  obtain⟨g1,g2⟩:=xXh hR.page hR.vf _ _ _ _ (Nat.le_refl _) hR.n300 hR.recs h1
  exact zKv hR.page hR.vf g1 g2
 ·cases h2
theorem yVG:∀(cur:Option Tbl) (a:Bool) (rest:List UInt8),(∀t,cur=some t->zQg t=0)->∀t,(zJL cur a rest).1=some t->zQg t=0:=by
 refine yJq (λcur a rest h hc t ht=>?_) (λcur a rest k body more h ih hc t ht=>?_)
 ·rw[zXR h]at ht;exact hc t ht
 ·rw[zZI h]at ht
  refine ih (λu hu=>?_) t ht
  unfold zJ0 at hu
  split at hu
  ·exact(zXl hu).1
  split at hu
  ·cases hu
  ·obtain⟨x,h1,h2⟩:=Option.bind_eq_some_iff.1 hu
   exact zWe (hc x h1) h2
theorem zJd {F:Fls} {t:Tbl} (h:(zQ9 F).1=some t):zQg t=0:=yVG _ _ _ (λu hu=>(zXl hu).1) t h
theorem yK4{n:Nat}(h:n<65536)(rest:List UInt8):zQZ ((zJi n 2 ++ rest).take 2)=n:=by
 rw[List.take_append_of_le_length (by rw[zQ7];omega),List.take_of_length_le (by rw[zQ7];omega),zJD,Nat.mod_eq_of_lt h]
theorem zYq(n:Nat)(rest:List UInt8):(zJi n 2 ++ rest).drop 2=rest:=by
 have:=List.drop_left (l₁:=zJi n 2) (l₂:=rest)
 rw[zQ7]at this;exact this
def yJg(u:Tbl)(i:Nat):List UInt8:=zJi (i+1) 2 ++ (match u.recs[i]? with
 | some r=>zJX zQu u.fields r
 | none=>[])
theorem xZT{t u:Tbl}(ht:zQg t=0)(hu:zQg u=0)(hp:u.page=t.page)(hf:u.fields=t.fields)(hn:t.recs.length<=u.recs.length) :
  ∀(d j:Nat),j+d=u.recs.length->goC t (zXM t.fields).toNat (u.recs.take j ++ t.recs.drop j) (((List.range' j d).filter (zYS t.recs u.recs)).flatMap (yJg u))=some u.recs:=by
 have hT:=zQN.of ht
 have hU:=zQN.of hu
 intro d
 induction d with
 | zero=>
  intro j hj
  rw[List.range'_zero,List.filter_nil,List.flatMap_nil,yXg,List.take_of_length_le (by omega),List.drop_eq_nil_of_le (by omega),List.append_nil]
 | succ d ih=>
  intro j hj
  have cJ:=hU.n300
  obtain⟨r,hr⟩:=zQL (l:=u.recs) (k:=j) (by omega)
  have sw:u.recs.take (j+1)=u.recs.take j ++ [r]:=zQE hr
  have hlen:(u.recs.take j).length=j:=by rw[List.length_take];omega
  rw[List.range'_succ]
  by_cases hd:zYS t.recs u.recs j=true
  ·rw[List.filter_cons_of_pos hd,List.flatMap_cons]
   obtain⟨X,hX⟩:∃X,X=((List.range' (j+1) d).filter (zYS t.recs u.recs)).flatMap (yJg u):=⟨_,rfl⟩
   rw[←hX]
   have hrv:zQ1 t.fields t.page r=0:=by rw[←hp,←hf];exact hU.recs r (List.mem_of_getElem? hr)
   have eB:yJg u j=zJi (j+1) 2 ++ zJX zQu t.fields r:=by unfold yJg;rw[hr,hf]
   have hrl:(zJX zQu t.fields r).length=(zXM t.fields).toNat:=by
    have:=zKK (zXn hT.vf).2.1 (zXC.of (zXn hT.vf).2.1 hrv)
    omega
   have e1:zQZ ((yJg u j ++ X).take 2)=j+1:=by rw[eB,List.append_assoc];exact yK4 (by omega) _
   have e2:((yJg u j ++ X).drop 2).take (zXM t.fields).toNat=zJX zQu t.fields r:=by
    rw[eB,List.append_assoc,zYq,←hrl,List.take_left]
   have e3:(yJg u j ++ X).drop ((zXM t.fields).toNat+2)=X:=by
    rw[Nat.add_comm,←List.drop_drop,eB,List.append_assoc,zYq,←hrl,List.drop_left]
   have hne:yJg u j ++ X ≠ []:=λe=>by
    have:=congrArg List.length e
    rw[eB]at this
    simp[zQ7]at this
   rw[yXB hne,e2,yVW hT.page hT.vf hrv]
   dsimp only
   rw[e1,e3]
   have hll:(u.recs.take j ++ t.recs.drop j).length=j+(t.recs.length - j):=by rw[List.length_append,hlen,List.length_drop]
   rw[if_neg (by omega)]
   have key:(if (u.recs.take j ++ t.recs.drop j).length<j+1 then u.recs.take j ++ t.recs.drop j ++ [r]else(u.recs.take j ++ t.recs.drop j).set (j+1 - 1) r)=u.recs.take (j+1) ++ t.recs.drop (j+1):=by
    by_cases hlt:t.recs.length<=j
    ·rw[if_pos (by omega),List.drop_eq_nil_of_le hlt,List.drop_eq_nil_of_le (show t.recs.length<=j+1 by omega),List.append_nil,List.append_nil,sw]
    ·rw[if_neg (by omega),Nat.add_sub_cancel,sw]
     obtain⟨y,hy⟩:=zQL (l:=t.recs) (k:=j) (by omega)
     rw[zXU hy,List.set_append,if_neg (by omega),hlen,Nat.sub_self,List.set_cons_zero,List.append_assoc]
     rfl
   rw[key,hX]
   exact ih (j+1) (by omega)
  ·rw[List.filter_cons_of_neg hd]
   have he:t.recs[j]?=u.recs[j]?:=by
    unfold zYS at hd
    simpa using hd
   rw[hr]at he
   have:u.recs.take j ++ t.recs.drop j=u.recs.take (j+1) ++ t.recs.drop (j+1):=by rw[zXU he,sw,List.append_assoc];rfl
   rw[this]
   exact ih (j+1) (by omega)
theorem yKi{t u:Tbl}(hu:zQg u=0)(hf:u.fields=t.fields){l:List Nat}(h:∀i ∈ l,i<u.recs.length):(l.flatMap (yJg u)).length=l.length * ((zXM t.fields).toNat+2):=by
 have hU:=zQN.of hu
 induction l with
 | nil=>simp
 | cons i l ih=>
  obtain⟨r,hr⟩:=zQL (h i List.mem_cons_self)
  have hrl:=zKK (zXn hU.vf).2.1 (zXC.of (zXn hU.vf).2.1 (hU.recs r (List.mem_of_getElem? hr)))
  rw[hf]at hrl
  rw[List.flatMap_cons,List.length_append,ih λk hk=>h k (List.mem_cons_of_mem _ hk),List.length_cons,Nat.succ_mul]
  have:(yJg u i).length=2+(zJX zQu t.fields r).length:=by unfold yJg;rw[hr,hf,List.length_append,zQ7]
  omega
theorem zVJ{t u:Tbl}(l:List Nat)(h:∀i ∈ l,i<u.recs.length):zXt u (l.map λ(i:Nat)=>(i:Int)+1)=zJi u.recs.length 2 ++ l.flatMap (yJg u):=by
 unfold zXt
 congr 1
 induction l with
 | nil=>rfl
 | cons i l ih=>
  rw[List.map_cons,List.flatMap_cons,List.flatMap_cons,ih λk hk=>h k (List.mem_cons_of_mem _ hk)]
  congr 1
  have:=h i List.mem_cons_self
  rw[if_neg (by omega)]
  unfold yJg xZs
  rw[show((i:Int)+1).toNat=i+1 by omega,show((i:Int)+1 - 1).toNat=i by omega]
  all_goals (cases u.recs[i]? <;> rfl)
theorem xWa {a b:List Rec} {i:Nat} (h:i ∈ (List.range (max a.length b.length)).filter (zYS a b)) (hn:a.length<=b.length):i<b.length:=by
 have:=List.mem_range.1 (List.mem_filter.1 h).1
 omega
theorem yQi{t u:Tbl}(ht:zQg t=0)(hu:zQg u=0)(hp:u.page=t.page)(hf:u.fields=t.fields)(hn:t.recs.length<=u.recs.length) :
  zXb t (zXt u (zV7 t.recs u.recs (max t.recs.length u.recs.length)))=some u:=by
 have hU:=zQN.of hu
 have cJ:=hU.n300
 have hall:∀i ∈ (List.range (max t.recs.length u.recs.length)).filter (zYS t.recs u.recs),i<u.recs.length:=λi hi=>xWa hi hn
 have e:zXt u (zV7 t.recs u.recs (max t.recs.length u.recs.length))=zJi u.recs.length 2 ++ ((List.range (max t.recs.length u.recs.length)).filter (zYS t.recs u.recs)).flatMap (yJg u):=zVJ (t:=t) _ hall
 have hl:=yKi (t:=t) hu hf hall
 have hg:=xZT ht hu hp hf hn u.recs.length 0 (by omega)
 rw[List.take_zero,List.drop_zero,List.nil_append,←List.range_eq_range']at hg
 rw[Nat.max_eq_right hn]at e hl ⊢
 have hsub:(zXt u (zV7 t.recs u.recs u.recs.length)).length - 2=((List.range u.recs.length).filter (zYS t.recs u.recs)).length * ((zXM t.fields).toNat+2):=by
  rw[e,List.length_append,zQ7,hl];omega
 have h2:2<=(zXt u (zV7 t.recs u.recs u.recs.length)).length:=by rw[e,List.length_append,zQ7];omega
 unfold zXb
 rw[if_neg (by rw[hsub];exact λh=>h.elim (λh=>by omega) (λh=>h (Nat.mul_mod_left _ _)))]
 rw[e,zYq,hg,yK4 (by omega)]
 simp only[Option.bind_some,if_pos]
 obtain⟨p,f,r⟩:=u
 obtain⟨p',f',r'⟩:=t
 dsimp only at hp hf
 rw[hp,hf]
theorem yQD{t u:Tbl}(hu:zQg u=0)(hn:t.recs.length<=u.recs.length):(zXt u (zV7 t.recs u.recs (max t.recs.length u.recs.length))).length<=650000:=by
 have hU:=zJj.of hu
 have cJ:=hU.m300
 have hw:=hU.w2
 have hall:∀i ∈ (List.range (max t.recs.length u.recs.length)).filter (zYS t.recs u.recs),i<u.recs.length:=λi hi=>xWa hi hn
 have e:zXt u (zV7 t.recs u.recs (max t.recs.length u.recs.length))=zJi u.recs.length 2 ++ ((List.range (max t.recs.length u.recs.length)).filter (zYS t.recs u.recs)).flatMap (yJg u):=zVJ (t:=t) _ hall
 have hl:=yKi (t:=u) hu rfl hall
 have hc:((List.range (max t.recs.length u.recs.length)).filter (zYS t.recs u.recs)).length<=300:=Nat.le_trans (List.length_filter_le _ _) (by rw[List.length_range];omega)
 rw[e,List.length_append,zQ7,hl]
 have:=Nat.mul_le_mul hc (show(zXM u.fields).toNat+2<=2002 by omega)
 omega
theorem xYz {a b:List Rec} (h:zV7 a b (max a.length b.length)=[]):a=b:=by
 unfold zV7 at h
 have h1:=List.map_eq_nil_iff.1 h
 refine List.ext_getElem? λi=>?_
 by_cases hi:i<max a.length b.length
 ·by_cases hd:zYS a b i=true
  ·exact absurd (List.mem_filter.2 ⟨List.mem_range.2 hi,hd⟩) (by rw[h1];exact List.not_mem_nil)
  ·unfold zYS at hd
   simpa using hd
 ·rw[List.getElem?_eq_none (by omega),List.getElem?_eq_none (by omega)]
theorem xJ5(a:List Rec):zV7 a a (max a.length a.length)=[]:=by
 unfold zV7
 rw[List.filter_eq_nil_iff.2 λi _=>by unfold zYS;simp]
 rfl
end Go.Proofs.YtaeecpjhfmcliaaGreatDoor
/- The log: a store with its files: what each call leaves; what files tell behind any fall. In plain words. No condition but those stated. -/
namespace Go.Proofs.YtaeecpjhfmcliaaGreatDoor
open Go.Sh Go.RowKit Tryz
def zQV(F:Fls)(W:List Wr)(n:Nat):Fls:=(W.take n).foldl zQw F
def lst(P:List Int)(n:Nat):Nat:=(P.takeWhile λp=>decide (p<=(n:Int))).length
theorem yJN {P:List Int} {n:Nat} (h:∀p ∈ P,p<=(n:Int)):lst P n=P.length:=by
 unfold lst
 induction P with
 | nil=>rfl
 | cons p P ih=>
  rw[List.takeWhile_cons,if_pos (decide_eq_true (h p List.mem_cons_self)),List.length_cons,List.length_cons,ih λq hq=>h q (List.mem_cons_of_mem _ hq)]
theorem yQU(P:List Int)(n:Nat):lst P n<=P.length:=List.IsPrefix.length_le (List.takeWhile_prefix _)
theorem xJl {P:List Int} {n:Nat} {q:Int} (h:(n:Int)<q):lst (P ++ [q]) n=lst P n:=by
 unfold lst
 have hq:decide (q<=(n:Int))=false:=by simp;omega
 induction P with
 | nil=>simp[hq]
 | cons p P ih=>
  rw[List.cons_append,List.takeWhile_cons,List.takeWhile_cons]
  split
  ·rw[List.length_cons,List.length_cons,ih]
  ·rfl
theorem xZ7{P:List Int}{m n:Nat}(h:m<=n):lst P m<=lst P n:=by
 unfold lst
 induction P with
 | nil=>simp
 | cons p P ih=>
  rw[List.takeWhile_cons,List.takeWhile_cons]
  split
  ·rename_i hp
   have hp:p<=(m:Int):=by simpa using hp
   rw[if_pos (by simp;omega),List.length_cons,List.length_cons];omega
  ·simp
structure yQE(F:Fls)(W:List Wr)(P:List Int)(D:List Tbl):Prop where
 len:P.length+1=D.length
 le:∀p ∈ P,1<=p/\p<=(W.length:Int)
 asc:P.Pairwise (· < ·)
 at_:∀n,n<=W.length->∃t,D[lst P n]?=some t/\(zQ9 (zQV F W n)).1=some t
 mid:∀n x,W[n]?=some x->∀k,∃t,(zQ9 (zZp (zQV F W n) x k)).1=some t/\(D[lst P n]?=some t∨D[lst P (n+1)]?=some t)
 one:∀n,lst P (n+1)<=lst P n+1
 adj:∀(j:Nat) a b,D[j]?=some a->D[j+1]?=some b->a ≠ b
variable {F : Fls} {W : List Wr} {P : List Int} {D : List Tbl} {t t' : Tbl} {x : Wr}
theorem zZ2(F:Fls)(W:List Wr)(x:Wr){n:Nat}(h:n<=W.length):zQV F (W ++ [x]) n=zQV F W n:=by
 unfold zQV;rw[List.take_append_of_le_length h]
theorem zXI(F:Fls)(W:List Wr)(x:Wr):zQV F (W ++ [x]) (W.length+1)=zQw (zQV F W W.length) x:=by
 unfold zQV
 rw[List.take_of_length_le (by simp),List.take_length,List.foldl_append]
 rfl
theorem yQE.lstW(h:yQE F W P D):lst P W.length=P.length:=yJN λp hp=>(h.le p hp).2
theorem yQE.start (h:(zQ9 F).1=some t):yQE F [] [] [t] where
 len:=rfl
 le:=λp hp=>absurd hp List.not_mem_nil
 asc:=List.Pairwise.nil
 at_:=λn hn=>⟨t,rfl,by rw[show n=0 by simpa using hn];exact h⟩
 mid:=λn x hx=>by simp at hx
 one:=λn=>by simp[lst]
 adj:=λj a b _ hb=>by simp at hb
theorem yQE.lastD(h:yQE F W P D)(hl:D.getLast?=some t):D[P.length]?=some t:=by
 rw[List.getLast?_eq_getElem?]at hl
 rw[←hl,←h.len];simp
theorem yQE.same (h:yQE F W P D) (hl:D.getLast?=some t) (hk:∀k,(zQ9 (zZp (zQV F W W.length) x k)).1=some t):yQE F (W ++ [x]) P D where
 len:=h.len
 le:=λp hp=>⟨(h.le p hp).1,by have:=(h.le p hp).2;rw[List.length_append,List.length_singleton];omega⟩
 asc:=h.asc
 at_:=λn hn=>by
  rw[List.length_append,List.length_singleton]at hn
  rcases Nat.lt_or_ge W.length n with h1|h1
  ·obtain rfl:n=W.length+1:=by omega
   refine⟨t,?_,?_⟩
   ·rw[yJN λp hp=>by have:=(h.le p hp).2;omega];exact h.lastD hl
   ·rw[zXI];exact hk _
  ·rw[zZ2 F W x h1];exact h.at_ n h1
 mid:=λn y hy k=>by
  rcases Nat.lt_trichotomy n W.length with h1|h1|h1
  ·rw[List.getElem?_append_left h1]at hy
   rw[zZ2 F W x (by omega)];exact h.mid n y hy k
  ·subst h1
   rw[List.getElem?_append_right (Nat.le_refl _),Nat.sub_self]at hy
   simp at hy;subst hy
   rw[zZ2 F W x (Nat.le_refl _)]
   exact⟨t,hk k,.inl (by rw[h.lstW];exact h.lastD hl)⟩
  ·rw[List.getElem?_eq_none (by rw[List.length_append,List.length_singleton];omega)]at hy;cases hy
 one:=h.one
 adj:=h.adj
theorem yQE.new (h:yQE F W P D) (hl:D.getLast?=some t) (hne:t ≠ t') (hw:(zQ9 (zQw (zQV F W W.length) x)).1=some t')
  (hk:∀k,(zQ9 (zZp (zQV F W W.length) x k)).1=some t∨(zQ9 (zZp (zQV F W W.length) x k)).1=some t'):yQE F (W ++ [x]) (P ++ [(W.length:Int)+1]) (D ++ [t']):=by
 have hlen:=h.len
 have hq:∀n,n<=W.length->lst (P ++ [(W.length:Int)+1]) n=lst P n:=λn hn=>xJl (by omega)
 have yw:∀n,W.length<n->lst (P ++ [(W.length:Int)+1]) n=P.length+1:=λn hn=>by
  rw[yJN]
  ·simp
  ·intro p hp
   rcases List.mem_append.1 hp with hp|hp
   ·have:=(h.le p hp).2;omega
   ·rw[List.mem_singleton.1 hp];omega
 have hD:∀j,j<=P.length->(D ++ [t'])[j]?=D[j]?:=λj hj=>List.getElem?_append_left (by omega)
 have hD1:(D ++ [t'])[P.length+1]?=some t':=by rw[List.getElem?_append_right (by omega),hlen,Nat.sub_self];rfl
 refine⟨by simp;omega,λp hp=>?_,?_,λn hn=>?_,λn y hy k=>?_,λn=>?_,λj a b ha hb=>?_⟩
 ·rw[List.length_append,List.length_singleton]
  rcases List.mem_append.1 hp with hp|hp
  ·have:=h.le p hp;omega
  ·rw[List.mem_singleton.1 hp];omega
 ·refine List.pairwise_append.2 ⟨h.asc,List.pairwise_singleton _ _,λa ha b hb=>?_⟩
  rw[List.mem_singleton.1 hb]
  have:=(h.le a ha).2
  omega
 ·rw[List.length_append,List.length_singleton]at hn
  rcases Nat.lt_or_ge W.length n with h1|h1
  ·obtain rfl:n=W.length+1:=by omega
   exact⟨t',by rw[yw _ h1];exact hD1,by rw[zXI];exact hw⟩
  ·rw[zZ2 F W x h1,hq n h1,hD _ (yQU P n)];exact h.at_ n h1
 ·rcases Nat.lt_trichotomy n W.length with h1|h1|h1
  ·rw[List.getElem?_append_left h1]at hy
   rw[zZ2 F W x (by omega),hq n (by omega),hq (n+1) (by omega),hD _ (yQU P n),hD _ (yQU P _)];exact h.mid n y hy k
  ·subst h1
   rw[List.getElem?_append_right (Nat.le_refl _),Nat.sub_self]at hy
   simp at hy;subst hy
   rw[zZ2 F W x (Nat.le_refl _),hq _ (Nat.le_refl _),yw _ (Nat.lt_succ_self _),h.lstW,hD _ (Nat.le_refl _),hD1,h.lastD hl]
   rcases hk k with h2|h2
   ·exact⟨t,h2,.inl rfl⟩
   ·exact⟨t',h2,.inr rfl⟩
  ·rw[List.getElem?_eq_none (by rw[List.length_append,List.length_singleton];omega)]at hy;cases hy
 ·rcases Nat.lt_trichotomy n W.length with h1|h1|h1
  ·rw[hq n (by omega),hq (n+1) (by omega)];exact h.one n
  ·subst h1;rw[hq _ (Nat.le_refl _),yw _ (Nat.lt_succ_self _),h.lstW];exact Nat.le_refl _
  ·rw[yw _ h1,yw _ (by omega)];omega
 ·by_cases hj:j+1<=P.length
  ·rw[hD _ (by omega)]at ha
   rw[hD _ hj]at hb
   exact h.adj j a b ha hb
  ·have ki:j+1<(D ++ [t']).length:=(List.getElem?_eq_some_iff.1 hb).1
   rw[List.length_append,List.length_singleton]at ki
   obtain rfl:j=P.length:=by omega
   rw[hD1]at hb
   rw[hD _ (Nat.le_refl _),h.lastD hl]at ha
   cases ha;cases hb
   exact hne
def zVc(F:Fls)(W:List Wr)(n:Nat)(k:Int):Fls:=match W[n]? with
 | some x=>zZp (zQV F W n) x k
 | none=>zQV F W n
theorem yQE.fall(h:yQE F W P D){n:Nat}(hn:n<=W.length)(k:Int):∃t j,(zQ9 (zVc F W n k)).1=some t/\D[j]?=some t/\j<=P.length/\(j=lst P n∨j=lst P n+1/\j=lst P (n+1)/\n<W.length/\D[lst P n]? ≠ some t):=by
 unfold zVc
 cases hx:W[n]? with
 | none=>
  obtain⟨t,h1,h2⟩:=h.at_ n hn
  exact⟨t,lst P n,h2,h1,yQU P n,.inl rfl⟩
 | some x=>
  obtain⟨t,h1,h2⟩:=h.mid n x hx k
  by_cases h3:D[lst P n]?=some t
  ·exact⟨t,lst P n,h1,h3,yQU P n,.inl rfl⟩
  ·have h2:=h2.resolve_left h3
   have h4:=h.one n
   have h5:lst P n<=lst P (n+1):=xZ7 (Nat.le_succ n)
   have h6:lst P (n+1)=lst P n+1:=by
    rcases Nat.lt_or_ge (lst P n) (lst P (n+1))with h|h
    ·omega
    ·exact absurd (by rw[show lst P (n+1)=lst P n by omega]at h2;exact h2) h3
   exact⟨t,lst P (n+1),h1,h2,yQU P _,.inr ⟨h6,rfl,(List.getElem?_eq_some_iff.1 hx).1,h3⟩⟩
structure Dat where
 σ:Sto
 first:Fls
 last:Fls
 wr:List Wr
 pts:List Int
def Dat.write(d:Dat)(x:Wr):Dat:={ d with wr:=d.wr ++ [x],last:=zQw d.last x }
def Dat.to(d:Dat)(σ:Sto):Dat:={ d with σ:=σ }
def Dat.rec_(d:Dat):Wr:=⟨1,d.last.2.length,zZY 99 (zXt d.σ.t (zJw d.σ))⟩
def Dat.commit(d:Dat):Dat:=if d.σ.lev=[]/\d.σ.t ≠ d.σ.last then { d.write d.rec_ with σ:={ d.σ with done:=d.σ.done ++ [d.σ.t] },pts:=d.pts ++ [(d.wr.length:Int)+1] }else d
theorem Dat.commit_σ(d:Dat):d.commit.σ=zZy d.σ:=by
 unfold Dat.commit zZy
 split <;> rfl
def Dat.new(t:Tbl)(F:Fls):Dat:=⟨Sto.new t,F,F,[],[]⟩
def Dat.begin(d:Dat):Dat:=d.to (zJc d.σ)
def Dat.end_(d:Dat):Dat:=if d.σ.lev=[]then d else(d.to { d.σ with lev:=d.σ.lev.dropLast }).commit
def Dat.back(d:Dat):Dat:=d.to (zVl d.σ)
def Dat.recs(d:Dat)(l:List Rec):Dat:=(d.to { d.σ with t:={ d.σ.t with recs:=l } }).commit
def Dat.app(d:Dat)(r:Rec):Dat:=if yJa d.σ r=0 then d.recs (d.σ.t.recs ++ [r])else d
def Dat.put(d:Dat)(k:Int)(r:Rec):Dat:=if yJb d.σ k r=0 then d.recs (d.σ.t.recs.set (k - 1).toNat r)else d
def Dat.mark(d:Dat)(k:Int)(g:Bool):Dat:=if zXh d.σ k then d.recs (d.σ.t.recs.modify (k - 1).toNat λr=>{ r with gone:=g })else d
def Dat.set(d:Dat)(k:Int)(nm:ByteArray)(v:Val):Dat:=match yQr d.σ.t.fields nm with
 | none=>d
 | some i=>if zXh d.σ k/\(zZS (d.σ.t.fields.getD i default) d.σ.t.page v).2=0 then d.recs (d.σ.t.recs.modify (k - 1).toNat λr=>{ r with v:=r.v.set i (zZS (d.σ.t.fields.getD i default) d.σ.t.page v).1 })else d
def Dat.whole(d:Dat):Wr:=⟨1,d.last.2.length,zZY 119 (zQC d.σ.t)⟩
def Dat.clean(d:Dat):Dat:=if d.σ.lev=[]/\d.last.2 ≠ []then(zQ8 (d.write d.whole).last).foldl Dat.write (d.write d.whole)else d
theorem Dat.recs_σ(d:Dat)(l:List Rec):(d.recs l).σ=zXK d.σ l:=Dat.commit_σ _
theorem Dat.end_σ(d:Dat):d.end_.σ=xVA d.σ:=by
 unfold Dat.end_ xVA
 split
 ·rfl
 ·exact Dat.commit_σ _
theorem Dat.app_σ(d:Dat)(r:Rec):(d.app r).σ=xW7 d.σ r:=by
 unfold Dat.app xW7
 split
 ·exact Dat.recs_σ _ _
 ·rfl
theorem Dat.put_σ(d:Dat)(k:Int)(r:Rec):(d.put k r).σ=xKC d.σ k r:=by
 unfold Dat.put xKC
 split
 ·exact Dat.recs_σ _ _
 ·rfl
theorem Dat.mark_σ(d:Dat)(k:Int)(g:Bool):(d.mark k g).σ=yJJ d.σ k g:=by
 unfold Dat.mark yJJ
 split
 ·exact Dat.recs_σ _ _
 ·rfl
theorem Dat.set_σ(d:Dat)(k:Int)(nm:ByteArray)(v:Val):(d.set k nm v).σ=yVI d.σ k nm v:=by
 unfold Dat.set yVI
 cases yQr d.σ.t.fields nm with
 | none=>rfl
 | some i=>
  dsimp only
  split
  ·exact Dat.recs_σ _ _
  ·rfl
theorem yKJ:∀(l:List Wr) (d:Dat),(l.foldl Dat.write d).σ=d.σ/\(l.foldl Dat.write d).first=d.first/\(l.foldl Dat.write d).pts=d.pts/\(l.foldl Dat.write d).wr=d.wr ++ l/\(l.foldl Dat.write d).last=l.foldl zQw d.last
 | [],d=>by simp
 | x :: l,d=>by
  obtain⟨h1,h2,h3,h4,h5⟩:=yKJ l (d.write x)
  rw[List.foldl_cons,h1,h2,h3,h4,h5,List.foldl_cons]
  exact⟨rfl,rfl,rfl,by simp[Dat.write],rfl⟩
theorem Dat.clean_σ(d:Dat):d.clean.σ=d.σ:=by
 unfold Dat.clean
 split
 ·exact(yKJ _ _).1
 ·rfl
end Go.Proofs.YtaeecpjhfmcliaaGreatDoor
/- The log: what every call keeps of a store and its files. In plain words. No condition but those stated. -/
namespace Go.Proofs.YtaeecpjhfmcliaaGreatDoor
open Go.Sh Go.RowKit Tryz
structure Like(p:Int)(f:List Fld)(t:Tbl):Prop where
 ok:zQg t=0
 page:t.page=p
 fields:t.fields=f
def okW(y:Wr):Prop:=(y.file=0∨y.file=1)/\0<=y.at_/\y.b.length<=700000
structure InvW(p:Int)(f:List Fld)(d:Dat):Prop where
 t:Like p f d.σ.t
 lev:∀u ∈ d.σ.lev,Like p f u/\d.σ.last.recs.length<=u.recs.length
 done:∀u ∈ d.σ.done,Like p f u
 ne:d.σ.done ≠ []
 ge:d.σ.last.recs.length<=d.σ.t.recs.length
 h0:∀u,d.σ.lev.head?=some u->u=d.σ.last
 l8:d.σ.lev.length<=8
 eq:d.last=zQV d.first d.wr d.wr.length
 file:zQ9 d.last=(some d.σ.last,[],false)
 hist:yQE d.first d.wr d.pts d.σ.done
 wb:∀x ∈ d.wr,okW x
structure Inv(p:Int)(f:List Fld)(d:Dat):Prop extends InvW p f d where
 at0:d.σ.lev=[]->d.σ.t=d.σ.last
variable {p : Int} {f : List Fld} {d : Dat}
theorem zZ7 {σ:Sto} (h:σ.done ≠ []):σ.done.getLast?=some σ.last:=by
 unfold Sto.last
 rw[List.getLast?_eq_some_getLast h];rfl
theorem zYy {σ σ':Sto} (h:σ.done ≠ []) (e:σ'.done=σ.done):σ'.last=σ.last:=by
 have h1:=zZ7 h
 have h2:=zZ7 (σ:=σ') (by rw[e];exact h)
 rw[e]at h2
 exact Option.some.inj (h2.symm.trans h1)
theorem InvW.lastL(h:InvW p f d):Like p f d.σ.last:=h.done _ (List.mem_of_getLast? (zZ7 h.ne))
theorem InvW.write (h:InvW p f d) {x:Wr} (hb:okW x) (hk:∀k,(zQ9 (zZp d.last x k)).1=some d.σ.last) (hf:zQ9 (zQw d.last x)=(some d.σ.last,[],false)):InvW p f (d.write x) where
 t:=h.t
 lev:=h.lev
 done:=h.done
 ne:=h.ne
 ge:=h.ge
 h0:=h.h0
 l8:=h.l8
 eq:=by
  show zQw d.last x=zQV d.first (d.wr ++ [x]) (d.wr ++ [x]).length
  rw[List.length_append,List.length_singleton,zXI,←h.eq]
 file:=hf
 hist:=h.hist.same (zZ7 h.ne) (by rw[←h.eq];exact hk)
 wb:=λy hy=>by
  rcases List.mem_append.1 hy with hy|hy
  ·exact h.wb y hy
  ·rw[List.mem_singleton.1 hy];exact hb
theorem yQh {F:Fls} {t:Tbl} (h:zQ9 F=(some t,[],false)) {kind:UInt8} {body:List UInt8} (hb:body.length<4294967296) (k:Int) :
  (zQ9 (zZp F ⟨1,F.2.length,zZY kind body⟩ k)).1=some t∨zZp F ⟨1,F.2.length,zZY kind body⟩ k=(F.1,F.2 ++ zZY kind body):=by
 by_cases h0:k<=0
 ·rw[zZT _ _ h0,h];exact .inl rfl
 ·have e:zZp F ⟨1,F.2.length,zZY kind body⟩ k=(F.1,F.2 ++ (zZY kind body).take k.toNat):=by
   rw[zJ1 _ _ (by omega)]
   show F.put 1 (F.2.take (min (F.2.length:Int) F.2.length).toNat ++ _)=_
   rw[Fls.put1,show(min (F.2.length:Int) F.2.length).toNat=F.2.length by omega,List.take_length]
  rw[e]
  by_cases hl:(zZY kind body).length<=k.toNat
  ·rw[List.take_of_length_le hl];exact .inr rfl
  ·left
   have hn:zZF ((zZY kind body).take k.toNat)=none:=yVr hb (List.take_prefix _ _) (by rw[List.length_take];omega)
   show(zJL (zXx F.1) false (F.2 ++ _)).1=_
   rw[zWt (show zJL (zXx F.1) false F.2=_ from h),zXR hn]
theorem zKB{F:Fls}{t:Tbl}{kind:UInt8}{body:List UInt8}:zQw F ⟨1,F.2.length,zZY kind body⟩=(F.1,F.2 ++ zZY kind body):=by
 rw[zZn]
 show F.put 1 (F.2.take (min (F.2.length:Int) F.2.length).toNat ++ _)=_
 rw[Fls.put1,show(min (F.2.length:Int) F.2.length).toNat=F.2.length by omega,List.take_length]
theorem yJH {F:Fls} {t u:Tbl} (h:zQ9 F=(some t,[],false)) {body:List UInt8} (hb:body.length<4294967296) (hc:zXb t body=some u):zQ9 (F.1,F.2 ++ zZY 99 body)=(some u,[],false):=by
 show zJL (zXx F.1) false (F.2 ++ zZY 99 body)=_
 rw[zWt (show zJL (zXx F.1) false F.2=_ from h),←List.append_nil (zZY 99 body),yKP hb]
 have e:zJ0 (some t) false 99 body=(some u,false):=by
  unfold zJ0
  rw[if_neg (by decide),if_neg (by decide)]
  rw[Option.bind_some,hc]
 rw[e,zXR zKu]
theorem yQ8 {F:Fls} {t:Tbl} (h:zQ9 F=(some t,[],false)) (hv:zQg t=0):zQ9 (F.1,F.2 ++ zZY 119 (zQj t))=(some t,[],true):=by
 have hb:(zQj t).length<4294967296:=by have:=zJh (zJj.of hv);omega
 show zJL (zXx F.1) false (F.2 ++ zZY 119 (zQj t))=_
 rw[zWt (show zJL (zXx F.1) false F.2=_ from h),←List.append_nil (zZY 119 (zQj t)),yKP hb]
 have e:zJ0 (some t) false 119 (zQj t)=(some t,true):=by unfold zJ0;rw[if_pos rfl,zWl hv]
 rw[e,zXR zKu]
theorem yQS(h:InvW p f d):Inv p f d.commit:=by
 unfold Dat.commit
 split
 ·rename_i hc
  obtain⟨hl,hne⟩:=hc
  have hL:=h.lastL
  have hcl:=yQD (t:=d.σ.last) h.t.ok h.ge
  have hbody:(zXt d.σ.t (zJw d.σ)).length<=650000:=hcl
  have hch:zXb d.σ.last (zXt d.σ.t (zJw d.σ))=some d.σ.t:=yQi hL.ok h.t.ok (by rw[h.t.page,hL.page]) (by rw[h.t.fields,hL.fields]) h.ge
  have hlast:({ d.σ with done:=d.σ.done ++ [d.σ.t] }:Sto).last=d.σ.t:=by unfold Sto.last;simp
  have ew:zQw d.last d.rec_=(d.last.1,d.last.2 ++ zZY 99 (zXt d.σ.t (zJw d.σ))):=zKB (t:=d.σ.t)
  have hfile:=yJH h.file (by omega) hch
  refine⟨⟨h.t,λu hu=>?_,λu hu=>?_,by simp,Nat.le_of_eq (congrArg (λx=>x.recs.length) hlast),λu hu=>?_,h.l8,?_,?_,?_,?_⟩,λ_=>hlast.symm⟩
  ·have hu:u ∈ d.σ.lev:=hu
   rw[hl]at hu;cases hu
  ·rcases List.mem_append.1 hu with hu|hu
   ·exact h.done u hu
   ·rw[List.mem_singleton.1 hu];exact h.t
  ·have hu:d.σ.lev.head?=some u:=hu
   rw[hl]at hu;cases hu
  ·show zQw d.last d.rec_=zQV d.first (d.wr ++ [d.rec_]) (d.wr ++ [d.rec_]).length
   rw[List.length_append,List.length_singleton,zXI,←h.eq]
  ·show zQ9 (zQw d.last d.rec_)=_
   rw[ew,hfile,hlast]
  ·refine h.hist.new (zZ7 h.ne) (Ne.symm hne) (by rw[←h.eq,ew,hfile]) λk=>?_
   rw[←h.eq]
   rcases yQh h.file (kind:=99) (body:=zXt d.σ.t (zJw d.σ)) (by omega) k with h1|h1
   ·exact .inl h1
   ·right
    show(zQ9 (zZp d.last ⟨1,d.last.2.length,zZY 99 (zXt d.σ.t (zJw d.σ))⟩ k)).1=_
    rw[h1,hfile]
  ·intro y hy
   rcases List.mem_append.1 hy with hy|hy
   ·exact h.wb y hy
   ·rw[List.mem_singleton.1 hy]
    refine⟨.inr rfl,by show 0<=(d.last.2.length:Int);omega,?_⟩
    show(zZY 99 (zXt d.σ.t (zJw d.σ))).length<=_
    rw[zJp];omega
 ·rename_i hc
  exact⟨h,λhl=>Classical.byContradiction λhne=>hc ⟨hl,hne⟩⟩
theorem yXW {t:Tbl} {F:Fls} (hv:zQg t=0) (h:zQ9 F=(some t,[],false)):Inv t.page t.fields (Dat.new t F) where
 t:=⟨hv,rfl,rfl⟩
 lev:=λu hu=>absurd hu List.not_mem_nil
 done:=λu hu=>by rw[List.mem_singleton.1 hu];exact⟨hv,rfl,rfl⟩
 ne:=by simp[Dat.new,Sto.new]
 ge:=Nat.le_refl _
 h0:=λu hu=>by cases hu
 l8:=Nat.zero_le _
 eq:=rfl
 file:=h
 hist:=yQE.start (by show(zQ9 F).1=_;rw[h])
 wb:=λx hx=>absurd hx List.not_mem_nil
 at0:=λ_=>rfl
theorem yXy{t:Tbl}(hv:zQg t=0):zQ9 (zQj t,[])=(some t,[],false):=by
 show zJL (zXx (zQj t)) false []=_
 rw[zXR zKu,zWl hv]
theorem zYW(h:Inv p f d):Inv p f d.begin:=by
 by_cases h8:8<=d.σ.lev.length
 ·have:d.begin=d:=by unfold Dat.begin Dat.to zJc;rw[if_pos h8]
  rw[this];exact h
 ·have e:d.begin={ d with σ:={ d.σ with lev:=d.σ.lev ++ [d.σ.t] } }:=by unfold Dat.begin Dat.to zJc;rw[if_neg h8]
  rw[e]
  refine⟨⟨h.t,λu hu=>?_,h.done,h.ne,h.ge,λu hu=>?_,?_,h.eq,h.file,h.hist,h.wb⟩,λhl=>?_⟩
  ·rcases List.mem_append.1 hu with hu|hu
   ·exact h.lev u hu
   ·rw[List.mem_singleton.1 hu];exact⟨h.t,h.ge⟩
  ·have hu:(d.σ.lev ++ [d.σ.t]).head?=some u:=hu
   cases hl:d.σ.lev with
   | nil=>rw[hl]at hu;cases hu;exact h.at0 hl
   | cons a l=>rw[hl]at hu;cases hu;exact h.h0 u (by rw[hl];rfl)
  ·show(d.σ.lev ++ [d.σ.t]).length<=8
   rw[List.length_append,List.length_singleton];omega
  ·have hl:d.σ.lev ++ [d.σ.t]=[]:=hl
   simp at hl
theorem zWM{α:Type}{l:List α}{u:α}(h:l.dropLast.head?=some u):l.head?=some u:=by
 cases l with
 | nil=>cases h
 | cons a l=>cases l with
  | nil=>cases h
  | cons b l=>exact h
theorem yX9(h:Inv p f d):InvW p f (d.to { d.σ with lev:=d.σ.lev.dropLast }):=
 ⟨h.t,λu hu=>h.lev u (List.dropLast_subset _ hu),h.done,h.ne,h.ge,λu hu=>h.h0 u (zWM hu),Nat.le_trans (show d.σ.lev.dropLast.length<=d.σ.lev.length from Nat.le_trans (Nat.le_of_eq List.length_dropLast) (Nat.sub_le _ _)) h.l8,h.eq,h.file,h.hist,h.wb⟩
theorem xQx(h:Inv p f d):Inv p f d.end_:=by
 unfold Dat.end_
 split
 ·exact h
 ·exact yQS (yX9 h)
theorem yKd(h:Inv p f d):Inv p f d.back:=by
 by_cases hl:d.σ.lev=[]
 ·have:d.back=d:=by unfold Dat.back Dat.to zVl;rw[if_pos hl]
  rw[this];exact h
 ·obtain⟨u,hu⟩:∃u,d.σ.lev.getLast?=some u:=⟨_,List.getLast?_eq_some_getLast hl⟩
  have e:d.back={ d with σ:={ d.σ with t:=u,lev:=d.σ.lev.dropLast } }:=by unfold Dat.back Dat.to zVl;rw[if_neg hl,hu];rfl
  have hm:=h.lev u (List.mem_of_getLast? hu)
  have hs:({ d.σ with t:=u,lev:=d.σ.lev.dropLast }:Sto).last=d.σ.last:=zYy h.ne rfl
  have hlw:=yX9 h
  have hs':({ d.σ with lev:=d.σ.lev.dropLast }:Sto).last=d.σ.last:=zYy h.ne rfl
  rw[e]
  refine⟨⟨hm.1,λx hx=>?_,h.done,h.ne,Nat.le_trans (Nat.le_of_eq (congrArg (λx=>x.recs.length) hs)) hm.2,λx hx=>?_,hlw.l8,h.eq,?_,h.hist,h.wb⟩,λhd=>?_⟩
  ·rw[hs];exact h.lev x (List.dropLast_subset _ hx)
  ·rw[hs];exact h.h0 x (zWM hx)
  ·show zQ9 d.last=_;rw[hs];exact h.file
  ·rw[hs]
   have hd:d.σ.lev.dropLast=[]:=hd
   refine h.h0 u ?_
   cases hq:d.σ.lev with
   | nil=>exact absurd hq hl
   | cons a l=>cases l with
    | nil=>rw[hq]at hu;exact hu
    | cons b l=>rw[hq]at hd;simp at hd
theorem zJ4(h:Inv p f d){l:List Rec}(hn:l.length<=300)(hge:d.σ.t.recs.length<=l.length)(hr:∀r ∈ l,zQ1 f p r=0):InvW p f (d.to { d.σ with t:={ d.σ.t with recs:=l } }):=by
 have hR:=zQN.of h.t.ok
 have hs:({ d.σ with t:={ d.σ.t with recs:=l } }:Sto).last=d.σ.last:=zYy h.ne rfl
 refine⟨⟨?_,h.t.page,h.t.fields⟩,λu hu=>?_,h.done,h.ne,?_,λu hu=>?_,h.l8,h.eq,?_,h.hist,h.wb⟩
 ·exact zKv hR.page hR.vf hn λr hr'=>by
   show zQ1 d.σ.t.fields d.σ.t.page r=0
   rw[h.t.fields,h.t.page];exact hr r hr'
 ·show _/\(Sto.last { d.σ with t:={ d.σ.t with recs:=l } }).recs.length<=_
  rw[hs];exact h.lev u hu
 ·show(Sto.last { d.σ with t:={ d.σ.t with recs:=l } }).recs.length<=_
  rw[hs];exact Nat.le_trans h.ge hge
 ·show u=Sto.last { d.σ with t:={ d.σ.t with recs:=l } }
  rw[hs];exact h.h0 u hu
 ·show zQ9 d.last=_;rw[show(d.to { d.σ with t:={ d.σ.t with recs:=l } }).σ.last=d.σ.last from hs];exact h.file
theorem zYm(h:Inv p f d){l:List Rec}(hn:l.length<=300)(hge:d.σ.t.recs.length<=l.length)(hr:∀r ∈ l,zQ1 f p r=0):Inv p f (d.recs l):=yQS (zJ4 h hn hge hr)
theorem InvW.recR(h:InvW p f d):∀r ∈ d.σ.t.recs,zQ1 f p r=0:=λr hr=>by
 have:=(zQN.of h.t.ok).recs r hr
 rw[h.t.fields,h.t.page]at this;exact this
theorem xYo(h:Inv p f d)(r:Rec):Inv p f (d.app r):=by
 unfold Dat.app
 split
 ·rename_i hc
  unfold yJa at hc
  split at hc
  ·omega
  ·rename_i cJ
   rw[h.t.fields,h.t.page]at hc
   refine zYm h (by rw[List.length_append,List.length_singleton];omega) (by rw[List.length_append];omega) λx hx=>?_
   rcases List.mem_append.1 hx with hx|hx
   ·exact h.recR x hx
   ·rw[List.mem_singleton.1 hx];exact hc
 ·exact h
theorem xYm(h:Inv p f d)(k:Int)(r:Rec):Inv p f (d.put k r):=by
 have hn:=(zQN.of h.t.ok).n300
 unfold Dat.put
 split
 ·rename_i hc
  unfold yJb at hc
  split at hc
  ·rw[h.t.fields,h.t.page]at hc
   refine zYm h (by rw[List.length_set];exact hn) (by rw[List.length_set];exact Nat.le_refl _) λx hx=>?_
   rcases List.mem_or_eq_of_mem_set hx with hx|rfl
   ·exact h.recR x hx
   ·exact hc
  ·cases hc
 ·exact h
theorem zVp{α:Type}{g:α->α}{x:α}:∀{l:List α} {i:Nat},x ∈ l.modify i g->x ∈ l∨∃y,l[i]?=some y/\x=g y:=λ{l i} h=>by
 obtain⟨j,hj⟩:=List.getElem?_of_mem h
 rw[List.getElem?_modify]at hj
 by_cases e:i=j
 ·subst e
  simp only[if_pos]at hj
  cases hl:l[i]? with
  | none=>rw[hl]at hj;cases hj
  | some y=>rw[hl]at hj;right;exact⟨y,rfl,by simpa using hj.symm⟩
 ·simp only[if_neg e]at hj
  left
  have hj:l[j]?=some x:=by simpa using hj
  exact List.mem_of_getElem? hj
theorem xZF(h:Inv p f d)(k:Int)(g:Bool):Inv p f (d.mark k g):=by
 have hn:=(zQN.of h.t.ok).n300
 unfold Dat.mark
 split
 ·refine zYm h (by rw[List.length_modify];exact hn) (by rw[List.length_modify];exact Nat.le_refl _) λx hx=>?_
  rcases zVp hx with hx|⟨y,hy,rfl⟩
  ·exact h.recR x hx
  ·exact h.recR y (List.mem_of_getElem? hy)
 ·exact h
end Go.Proofs.YtaeecpjhfmcliaaGreatDoor
/- The log: values that are set, and a clean log, keep a store right; how large its files are. In plain words. No condition but those stated. -/
namespace Go.Proofs.YtaeecpjhfmcliaaGreatDoor
open Go.Sh Go.RowKit Tryz
theorem zX3{l:List Fld}{p:Int}{r:Rec}(h:zQ1 l p r=0):r.v.length=l.length:=(zY4 h).1
theorem zKJ{l:List Fld}{p:Int}{r:Rec}:zQ1 l p r=0 ↔ r.v.length=l.length/\∀(i:Nat) (f:Fld) (v:Val),l[i]?=some f->r.v[i]?=some v->zQQ f p v=true:=by
 constructor
 ·intro h
  refine⟨zX3 h,λi f v hf hv=>?_⟩
  unfold zQ1 at h
  rw[if_neg (by simp[zX3 h])]at h
  split at h
  ·next ha=>
   have:=List.all_eq_true.1 ha (f,v) (List.mem_of_getElem? (i:=i) (by rw[List.getElem?_zip_eq_some];exact⟨hf,hv⟩))
   exact this
  ·cases h
 ·rintro⟨h1,h2⟩
  unfold zQ1
  rw[if_neg (by simp[h1]),if_pos]
  refine List.all_eq_true.2 λx hx=>?_
  obtain⟨i,hi⟩:=List.getElem?_of_mem hx
  obtain⟨a,b⟩:=List.getElem?_zip_eq_some.1 hi
  exact h2 i x.1 x.2 a b
theorem yXu {f:Fld} {p:Int} {v:Val} (h:(zZS f p v).2=0):zQQ f p (zZS f p v).1=true:=by
 cases hB:zQp f && zQY p
 ·rw[zJF hB]at h;simp at h
 by_cases hv:zXk v ≠ 0
 ·rw[zKF hB hv]at h;exact absurd h hv
 have hv:zXk v=0:=by simpa using hv
 rw[zJT hB hv]at h ⊢
 have hfB:zQp f=true:=by simp at hB;exact hB.1
 by_cases hk:v.kind=0
 ·unfold zQR at h ⊢
  rw[if_pos hk]at h ⊢
  by_cases hn:f.null=true
  ·rw[if_pos hn]
   unfold zQQ
   rw[if_neg (by simp[hv]),if_pos hk];exact hn
  ·rw[if_neg hn]at h;simp at h
 by_cases aH:v.kind ≠ (zXo f).kind
 ·unfold zQR at h;rw[if_neg hk,if_pos aH]at h;simp at h
 by_cases h4:f.kind=4
 ·obtain⟨wl,wh⟩:=zYa hfB h4
  have e1:zQR f p v=if zXO (zZ4 (v.s.data.toList.take f.width.toNat)) p then(⟨4,0,bs (zZ4 (v.s.data.toList.take f.width.toNat))⟩,0)else(noV,10):=by
   unfold zQR;rw[if_neg hk,if_neg aH,if_pos h4]
  cases ht:zXO (zZ4 (v.s.data.toList.take f.width.toNat)) p
  ·rw[e1,ht]at h;simp at h
  rw[e1,ht,if_pos rfl]
  have hbl:=yXz (v.s.data.toList.take f.width.toNat)
  have htl:=List.length_take_le f.width.toNat v.s.data.toList
  have aM:=yY4 (v.s.data.toList.take f.width.toNat)
  generalize zZ4 (v.s.data.toList.take f.width.toNat)=B at *
  have hvB:zXk ⟨4,0,bs B⟩=0:=by
   rw[zZ9,if_neg (by dsimp only;rw[zQB];omega)];rfl
  unfold zQQ
  rw[if_neg (by simp[hvB]),if_neg (show ¬(4:Int)=0 by decide),if_neg (by omega),if_neg (by simp[h4]),if_neg (by omega),if_pos h4]
  rw[zQP,aM,ht,zQB,decide_eq_true rfl,decide_eq_true (show((B.length:Nat):Int)<=f.width by omega)];rfl
 ·unfold zQR at h ⊢
  rw[if_neg hk,if_neg aH,if_neg h4]at h ⊢
  cases hf:zQQ f p v
  ·rw[hf]at h;simp at h
  ·simp[hf]
variable {p : Int} {f : List Fld} {d : Dat}
theorem zYp {l:List Fld} {p:Int} {r:Rec} (h:zQ1 l p r=0) {i:Nat} {v:Val} (hv:∀g,l[i]?=some g->zQQ g p v=true):zQ1 l p { r with v:=r.v.set i v }=0:=by
 obtain⟨h1,h2⟩:=zKJ.1 h
 refine zKJ.2 ⟨by rw[List.length_set];exact h1,λj g x hg hx=>?_⟩
 rw[List.getElem?_set]at hx
 split at hx
 ·rename_i e
  subst e
  split at hx
  ·cases hx;exact hv g hg
  ·cases hx
 ·exact h2 j g x hg hx
theorem xQK{l:List Fld}{s:ByteArray}{i:Nat}(h:yQr l s=some i):i<l.length:=by
 unfold yQr at h
 obtain⟨h1,_⟩:=List.findIdx?_eq_some_iff_getElem.1 h
 exact h1
theorem yJ2(h:Inv p f d)(k:Int)(nm:ByteArray)(v:Val):Inv p f (d.set k nm v):=by
 have hn:=(zQN.of h.t.ok).n300
 unfold Dat.set
 split
 ·exact h
 ·rename_i i hi
  split
  ·rename_i hc
   have hil:=xQK hi
   refine zYm h (by rw[List.length_modify];exact hn) (by rw[List.length_modify];exact Nat.le_refl _) λx hx=>?_
   rcases zVp hx with hx|⟨y,hy,rfl⟩
   ·exact h.recR x hx
   ·refine zYp (h.recR y (List.mem_of_getElem? hy)) λg hg=>?_
    have e:d.σ.t.fields.getD i default=g:=by rw[List.getD_eq_getElem?_getD,h.t.fields,hg];rfl
    rw[e,h.t.page]at hc ⊢
    exact yXu hc.2
  ·exact h
theorem zVP (h:Inv p f d) (hl:d.σ.lev=[]):zQ8 (d.write d.whole).last=[⟨0,0,[]⟩,⟨0,0,zQj d.σ.t⟩,⟨1,0,[]⟩]/\InvW p f ([⟨0,0,[]⟩,⟨0,0,zQj d.σ.t⟩,⟨1,0,[]⟩].foldl Dat.write (d.write d.whole)):=by
 have e0:=h.at0 hl
 have hv:=h.t.ok
 have hbl:=zJh (zJj.of hv)
 have hbo:zQC d.σ.t=zQj d.σ.t:=by unfold zQC;rw[if_pos hv]
 have hfile:zQ9 d.last=(some d.σ.t,[],false):=by rw[e0];exact h.file
 have hW:=yQ8 hfile hv
 obtain⟨A,L,eA⟩:∃A L,d.last=(A,L):=⟨_,_,rfl⟩
 have e1:zQw d.last d.whole=(d.last.1,d.last.2 ++ zZY 119 (zQj d.σ.t)):=by
  unfold Dat.whole;rw[hbo];exact zKB (t:=d.σ.t)
 obtain⟨B,eB⟩:∃B,B=d.last.2 ++ zZY 119 (zQj d.σ.t):=⟨_,rfl⟩
 rw[←eB]at e1 hW
 have hany:∀x,zQ9 (x,B)=(some d.σ.t,[],true):=λx=>by
  have q:zJL (zXx d.last.1) false B=(some d.σ.t,[],true):=hW
  show zJL (zXx x) false B=_
  rw[←q]
  exact yZh _ _ _ rfl (by rw[q]) _
 have hend:zQ9 (zQj d.σ.t,[])=(some d.σ.t,[],false):=yXy hv
 have w0:∀(a:List UInt8) k,∃a',zZp (a,B) ⟨0,0,[]⟩ k=(a',B):=λa k=>by
  by_cases h0:k<=0
  ·exact⟨a,zZT _ _ h0⟩
  ·exact⟨_,zJ1 _ _ (by omega)⟩
 have w1:∀(a:List UInt8) k,∃a',zZp (a,B) ⟨0,0,zQj d.σ.t⟩ k=(a',B):=λa k=>by
  by_cases h0:k<=0
  ·exact⟨a,zZT _ _ h0⟩
  ·exact⟨_,zJ1 _ _ (by omega)⟩
 have w2:∀(a:List UInt8) k,zZp (a,B) ⟨1,0,[]⟩ k=(a,B)∨zZp (a,B) ⟨1,0,[]⟩ k=(a,[]):=λa k=>by
  by_cases h0:k<=0
  ·exact .inl (zZT _ _ h0)
  ·right
   rw[zJ1 _ _ (by omega)]
   show(a,B.take (min (0:Int) B.length).toNat ++ List.take k.toNat [])=_
   rw[show(min (0:Int) B.length).toNat=0 by omega];simp
 have z0:∀a,zQw (a,B) ⟨0,0,[]⟩=([],B):=λa=>by
  rw[zZn]
  show(a.take (min (0:Int) a.length).toNat ++ [],B)=_
  rw[show(min (0:Int) a.length).toNat=0 by omega];rfl
 have z1:zQw ([],B) ⟨0,0,zQj d.σ.t⟩=(zQj d.σ.t,B):=by rw[zZn];rfl
 have z2:∀a,zQw (a,B) ⟨1,0,[]⟩=(a,[]):=λa=>by
  rw[zZn]
  show(a,B.take (min (0:Int) B.length).toNat ++ [])=_
  rw[show(min (0:Int) B.length).toNat=0 by omega];rfl
 have hm:zQ8 (d.write d.whole).last=[⟨0,0,[]⟩,⟨0,0,zQj d.σ.t⟩,⟨1,0,[]⟩]:=by
  show zQ8 (zQw d.last d.whole)=_
  rw[e1]
  unfold zQ8
  rw[hany]
  simp[hbo]
 refine⟨hm,?_⟩
 have tl:d.σ.last=d.σ.t:=e0.symm
 -- every stage tells the table; only the last one is clean: a weaker invariant on the way
 have hD:=zZ7 h.ne
 rw[tl]at hD
 have s1:yQE d.first (d.wr ++ [d.whole]) d.pts d.σ.done:=h.hist.same hD λk=>by
  rw[←h.eq]
  have hk:=yQh hfile (kind:=119) (body:=zQC d.σ.t) (by rw[hbo];omega) k
  rcases hk with h1|h1
  ·exact h1
  ·show(zQ9 (zZp d.last ⟨1,d.last.2.length,zZY 119 (zQC d.σ.t)⟩ k)).1=_
   rw[h1,hbo,←eB,hany]
 have q1:zQV d.first (d.wr ++ [d.whole]) (d.wr ++ [d.whole]).length=(d.last.1,B):=by
  rw[List.length_append,List.length_singleton,zXI,←h.eq,e1]
 have s2:yQE d.first (d.wr ++ [d.whole] ++ [(⟨0,0,[]⟩:Wr)]) d.pts d.σ.done:=s1.same hD λk=>by
  rw[q1]
  obtain⟨a',ha⟩:=w0 d.last.1 k
  rw[ha,hany]
 have q2:zQV d.first (d.wr ++ [d.whole] ++ [(⟨0,0,[]⟩:Wr)]) (d.wr ++ [d.whole] ++ [(⟨0,0,[]⟩:Wr)]).length=([],B):=by
  rw[List.length_append,List.length_singleton,zXI,q1,z0]
 have s3:yQE d.first (d.wr ++ [d.whole] ++ [(⟨0,0,[]⟩:Wr)] ++ [(⟨0,0,zQj d.σ.t⟩:Wr)]) d.pts d.σ.done:=s2.same hD λk=>by
  rw[q2]
  obtain⟨a',ha⟩:=w1 [] k
  rw[ha,hany]
 have q3:zQV d.first (d.wr ++ [d.whole] ++ [(⟨0,0,[]⟩:Wr)] ++ [(⟨0,0,zQj d.σ.t⟩:Wr)]) (d.wr ++ [d.whole] ++ [(⟨0,0,[]⟩:Wr)] ++ [(⟨0,0,zQj d.σ.t⟩:Wr)]).length=(zQj d.σ.t,B):=by
  rw[List.length_append,List.length_singleton,zXI,q2,z1]
 have s4:yQE d.first (d.wr ++ [d.whole] ++ [(⟨0,0,[]⟩:Wr)] ++ [(⟨0,0,zQj d.σ.t⟩:Wr)] ++ [(⟨1,0,[]⟩:Wr)]) d.pts d.σ.done:=s3.same hD λk=>by
  rw[q3]
  rcases w2 (zQj d.σ.t) k with h1|h1
  ·rw[h1,hany]
  ·rw[h1,hend]
 have q4:zQV d.first (d.wr ++ [d.whole] ++ [(⟨0,0,[]⟩:Wr)] ++ [(⟨0,0,zQj d.σ.t⟩:Wr)] ++ [(⟨1,0,[]⟩:Wr)]) (d.wr ++ [d.whole] ++ [(⟨0,0,[]⟩:Wr)] ++ [(⟨0,0,zQj d.σ.t⟩:Wr)] ++ [(⟨1,0,[]⟩:Wr)]).length=(zQj d.σ.t,[]):=by
  rw[List.length_append,List.length_singleton,zXI,q3,z2]
 have hlast:zQw (zQw (zQw (zQw d.last d.whole) ⟨0,0,[]⟩) ⟨0,0,zQj d.σ.t⟩) ⟨1,0,[]⟩=(zQj d.σ.t,[]):=by rw[e1,z0,z1,z2]
 refine⟨h.t,h.lev,h.done,h.ne,h.ge,h.h0,h.l8,?_,?_,s4,?_⟩
 ·show zQw (zQw (zQw (zQw d.last d.whole) ⟨0,0,[]⟩) ⟨0,0,zQj d.σ.t⟩) ⟨1,0,[]⟩=zQV d.first (d.wr ++ [d.whole] ++ [(⟨0,0,[]⟩:Wr)] ++ [(⟨0,0,zQj d.σ.t⟩:Wr)] ++ [(⟨1,0,[]⟩:Wr)]) (d.wr ++ [d.whole] ++ [(⟨0,0,[]⟩:Wr)] ++ [(⟨0,0,zQj d.σ.t⟩:Wr)] ++ [(⟨1,0,[]⟩:Wr)]).length
  rw[hlast,q4]
 ·show zQ9 (zQw (zQw (zQw (zQw d.last d.whole) ⟨0,0,[]⟩) ⟨0,0,zQj d.σ.t⟩) ⟨1,0,[]⟩)=(some d.σ.last,[],false)
  rw[hlast,hend,tl]
 ·intro y hy
  have hy:y ∈ d.wr ++ [d.whole] ++ [(⟨0,0,[]⟩:Wr)] ++ [(⟨0,0,zQj d.σ.t⟩:Wr)] ++ [(⟨1,0,[]⟩:Wr)]:=hy
  simp only[List.mem_append,List.mem_singleton,or_assoc]at hy
  rcases hy with hy|rfl|rfl|rfl|rfl
  ·exact h.wb y hy
  ·refine⟨.inr rfl,by show 0<=(d.last.2.length:Int);omega,?_⟩
   show(zZY 119 (zQC d.σ.t)).length<=_
   rw[zJp,hbo];omega
  ·exact⟨.inl rfl,Int.le_refl _,by simp⟩
  ·exact⟨.inl rfl,Int.le_refl _,by show(zQj d.σ.t).length<=_;omega⟩
  ·exact⟨.inr rfl,Int.le_refl _,by simp⟩
theorem xZb(h:Inv p f d):Inv p f d.clean:=by
 unfold Dat.clean
 split
 ·rename_i hc
  obtain⟨h1,h2⟩:=zVP h hc.1
  rw[h1]
  exact⟨h2,λhl=>h.at0 hl⟩
 ·exact h
theorem zKt{F:Fls}{W:List Wr}{c:Nat}(hF:F.1.length<=c/\F.2.length<=c)(hW:∀x ∈ W,x.b.length<=700000):(W.foldl zQw F).1.length<=c+700000 * W.length/\(W.foldl zQw F).2.length<=c+700000 * W.length:=by
 induction W generalizing F c with
 | nil=>simpa using hF
 | cons x W ih=>
  have hx:=hW x List.mem_cons_self
  have h1:(zQw F x).1.length<=c+700000/\(zQw F x).2.length<=c+700000:=by
   rw[zZn]
   unfold Fls.put Fls.get
   have l1:=List.length_take_le (min x.at_ F.1.length).toNat F.1
   have l2:=List.length_take_le (min x.at_ F.2.length).toNat F.2
   have m1:(F.1.take (min x.at_ F.1.length).toNat).length<=F.1.length:=by rw[List.length_take];exact Nat.min_le_right _ _
   have m2:(F.2.take (min x.at_ F.2.length).toNat).length<=F.2.length:=by rw[List.length_take];exact Nat.min_le_right _ _
   split <;> simp only[List.length_append] <;> omega
  have:=ih h1 λy hy=>hW y (List.mem_cons_of_mem _ hy)
  rw[List.foldl_cons,List.length_cons]
  omega
theorem yKC{F:Fls}{x:Wr}{k:Int}{c:Nat}(hF:F.1.length<=c/\F.2.length<=c)(hx:x.b.length<=700000):(zZp F x k).1.length<=c+700000/\(zZp F x k).2.length<=c+700000:=by
 by_cases h0:k<=0
 ·rw[zZT _ _ h0];omega
 ·rw[zJ1 _ _ (by omega)]
  unfold Fls.put Fls.get
  have m1:(F.1.take (min x.at_ F.1.length).toNat).length<=F.1.length:=by rw[List.length_take];exact Nat.min_le_right _ _
  have m2:(F.2.take (min x.at_ F.2.length).toNat).length<=F.2.length:=by rw[List.length_take];exact Nat.min_le_right _ _
  have m3:(x.b.take k.toNat).length<=x.b.length:=by rw[List.length_take];exact Nat.min_le_right _ _
  split <;> simp only[List.length_append] <;> omega
end Go.Proofs.YtaeecpjhfmcliaaGreatDoor
/- Table: the laws on the reading of bytes. No condition. -/
set_option maxRecDepth 100000
set_option maxHeartbeats 1000000
namespace Go.Proofs.YtaeecpjhfmcliaaGreatDoor
open Go.Sh Go.RowKit Tryz
theorem tbl_eq{a b:Tbl}:(a=b) ↔ (a.page=b.page/\a.fields=b.fields/\a.recs=b.recs):=by
 obtain⟨a1,a2,a3⟩:=a;obtain⟨b1,b2,b3⟩:=b;simp
theorem zY7{w:World}{a b:Tbl}{fa ra fb rb:SV}(ha:zX2 w a fa ra)(hb:zX2 w b fb rb):Calls prog 18 #[zVe a fa ra,zVe b fb rb] w λe w'=>e=.returned (.bool (decide (a=b)))/\Pu w w':=by
 refine xZa _ _ _ _ _ _ w _ (alB λw1 aq aB=>alB λw2 ar aM=>?_)
 have aG:=aq.trans ar
 have b1:∀{wz},Pu w2 wz->_:=λ{wz} (h:Pu w2 wz)=>yXt (t:=a) (f:=fa) (q:=ra) (h.blk (ar.blk aB))
 have b2:∀{wz},Pu w2 wz->_:=λ{wz} (h:Pu w2 wz)=>yXt (t:=b) (f:=fb) (q:=rb) (h.blk aM)
 have c1:=(b1 (Pu.refl _)).1
 have c2:=(b2 (Pu.refl _)).1
 rw[yKR]at c1 c2
 have no:∀{w':World},Pu w2 w'->a ≠ b->(Ending.returned (.bool false)=.returned (.bool (decide (a=b)))/\Pu w w'):=λh hne=>⟨by rw[decide_eq_false hne],aG.trans h⟩
 refine⟨_,c1,_,c2,Br.of (λd=>no (Pu.refl _) λe=>zQ3 d (by rw[e])) (λd=>⟨_,(b1 (Pu.refl _)).2.1,_,(b2 (Pu.refl _)).2.1,(yZS (RdF.of (ha.fields.pu aG)) (RdF.of (hb.fields.pu aG))).mono ?_⟩)⟩
 have hpg:=zQs d
 rintro e w3 ⟨rfl,ax⟩
 refine⟨_,rfl,Br.of (λd1=>no ax λe=>by rw[e]at d1;simp at d1) (λd1=>⟨_,(b1 ax).2.2,_,(b2 ax).2.2,?_⟩)⟩
 have hfl:a.fields=b.fields:=by simpa using d1
 have hla:=ha.recs.len
 have hlb:=hb.recs.len
 have hlm:=ha.recs.lim
 refine Br.of (λd2=>no ax λe=>zQ3 d2 (by rw[hla,hlb,e])) (λd2=>?_)
 have hlen:a.recs.length=b.recs.length:=by have:=zQs d2;omega
 refine zQx a.recs.length (λk t w'=>t=(k:Int)/\a.recs.take k=b.recs.take k/\Pu w2 w') ⟨rfl,by simp,ax⟩ ?_
 rintro k J t w4 hk ⟨ht,he,hp⟩ hJ
 obtain rfl:t=(k:Int):=ht
 refine⟨_,(b1 hp).2.2,Br.of (λd3=>zQb λw5 aT _=>?_) (λd3=>?_)⟩
 ·have aH:k<a.recs.length:=by have:=zQk d3;omega
  have p5:=hp.trans aT
  obtain⟨x,hx⟩:=zQL aH
  obtain⟨y,hy⟩:=zQL (show k<b.recs.length by omega)
  obtain⟨p,sx,hpa,_,vx,x0,x1⟩:=zWo (ha.recs.pu (aG.trans p5)) hx
  obtain⟨q,sy,hqa,_,vy,y0,y1⟩:=zWo (hb.recs.pu (aG.trans p5)) hy
  refine⟨_,(b1 p5).2.2,p,hpa,by omega,by omega,_,x0,_,x1,_,(b2 p5).2.2,q,hqa,by omega,by omega,_,y0,_,y1,(yZk (RdV.of vx) (RdV.of vy)).mono ?_⟩
  rintro e w6 ⟨rfl,bn⟩
  refine⟨_,rfl,Br.of (λd4=>no (p5.trans bn) λe=>?_) (λd4=>?_)⟩
  ·have:x=y:=by rw[e]at hx;rw[hx]at hy;exact Option.some.inj hy
   subst this
   simp at d4
  ·rw[zQa (by omega) (by omega)]
   have hxy:x=y:=by
    rw[xWj]
    simpa using d4
   exact hJ _ _ aH ⟨by omega,zJ6 he hx hy hxy,p5.trans bn⟩
 ·have aH:k=a.recs.length:=by have:=zQe d3;omega
  subst aH
  rw[List.take_length,hlen,List.take_length]at he
  exact⟨by rw[decide_eq_true (tbl_eq.2 ⟨hpg,hfl,he⟩)],aG.trans hp⟩
theorem zQf.set{w1 w:World}{s:SV}{l:List UInt8}(h:zQf w1 w s l)(hp:Pu w1 w){i:Nat}(hi:i<l.length)(b:UInt8):∃a,s.a=some a/\∀K:World->Prop,(∀w',zQf w1 w' s (l.set i b)->Pu w1 w'->K w')->st1 (a.add i) (u8V b) w K:=by
 obtain⟨a,ha,_⟩:=h.1.st1 (j:=i) (by simpa using hi) (u8V b) (K:=λ_=>True) λ_ _ _ _=>trivial
 refine⟨a,ha,λK hK=>?_⟩
 obtain⟨a',ha',hst⟩:=h.1.st1 (j:=i) (by simpa using hi) (u8V b) (K:=K) λw' h1 h2 _=>hK w' ⟨by rw[List.map_set];exact h1,h.2⟩ (hp.andNew h2 λi hi=>h.2 i hi)
 rw[ha]at ha';cases ha'
 exact hst
end Go.Proofs.YtaeecpjhfmcliaaGreatDoor
/- The log: how tables, files and a store lie in memory. No condition but those stated. -/
namespace Go.Proofs.YtaeecpjhfmcliaaGreatDoor
open Go.Sh Go.RowKit Tryz
variable {w w' : World}
theorem zKZ:zXA prog 35=3:=by kernel_rfl
theorem yWG:zXA prog 67=2:=by kernel_rfl
theorem xYj:zXA prog 73=3:=by kernel_rfl
theorem vk90:zXA prog 90=3:=by kernel_rfl
theorem vu22:prog.underlying 22=some (.slice 5):=by kernel_rfl
theorem xYp:prog.underlying 24=some (.pointer 108):=by kernel_rfl
theorem vu33:prog.underlying 33=some (.slice 67):=by kernel_rfl
theorem vu38:prog.underlying 38=some (.slice 73):=by kernel_rfl
theorem vu32:prog.underlying 32=some (.slice 129):=by kernel_rfl
theorem vu52:prog.underlying 52=some (.slice 3):=by kernel_rfl
theorem vu82:prog.underlying 82=some (.slice 22):=by kernel_rfl
theorem vu87:prog.underlying 87=some (.slice 90):=by kernel_rfl
theorem xZB:prog.underlying 106=some (.slice 35):=by kernel_rfl
theorem vi5:(prog.info? 5).map (λi=>(i.zero,i.size,i.bytes))=some (some (.int .u8 0),1,1):=by kernel_rfl
theorem vi22:(prog.info? 22).map (λi=>(i.zero,i.size,i.bytes))=some (some (.slice none 0 0),1,24):=by kernel_rfl
theorem vi3:(prog.info? 3).map (λi=>(i.zero,i.size,i.bytes))=some (some (.int .i64 0),1,8):=by kernel_rfl
theorem vi35:(prog.info? 35).map (λi=>(i.zero,i.size,i.bytes))=some (some (.agg #[.int .i64 0,.slice none 0 0,.slice none 0 0]),3,56):=by kernel_rfl
theorem vi67:(prog.info? 67).map (λi=>(i.zero,i.size,i.bytes))=some (some (.agg #[.bool false,.slice none 0 0]),2,32):=by kernel_rfl
theorem vi73:(prog.info? 73).map (λi=>(i.zero,i.size,i.bytes))=some (some (.agg #[.int .i64 0,.int .i64 0,.string ⟨#[]⟩]),3,32):=by kernel_rfl
theorem vi90:(prog.info? 90).map (λi=>(i.zero,i.size,i.bytes))=some (some (.agg #[.int .i64 0,.int .i64 0,.slice none 0 0]),3,40):=by kernel_rfl
theorem vi129:(prog.info? 129).map (λi=>(i.zero,i.size,i.bytes))=some (some (.agg #[.string ⟨#[]⟩,.int .i64 0,.int .i64 0,.bool false]),4,40):=by kernel_rfl
abbrev slV(s:SV):Value:=.slice s.a s.len s.cap
structure HT where
 page:Int
 f:SV
 r:SV
 hs:List (Bool × SV)
abbrev zVD(h:HT):List Value:=[.int .i64 h.page,slV h.f,slV h.r]
theorem zQv(h:HT):(zVD h).length=3:=rfl
def vBl (hs:List (Bool × SV)):List Nat:=hs.flatMap λx=>zQd x.2
theorem zVY (x:Bool × SV) (hs:List (Bool × SV)):vBl (x :: hs)=zQd x.2 ++ vBl hs:=rfl
theorem zV5 {hs:List (Bool × SV)} {x:Bool × SV} {b:Nat} (hx:x ∈ hs) (hb:b ∈ zQd x.2):b ∈ vBl hs:=List.mem_flatMap.2 ⟨x,hx,hb⟩
def HT.own(h:HT)(b:Nat):Prop:=b ∈ zQd h.r∨b ∈ vBl h.hs
structure zJM(w:World)(t:Tbl)(h:HT):Prop where
 page:h.page=t.page
 rw_:zQl w 67 2 h.r (h.hs.flatMap yK8)
 len:h.hs.length=t.recs.length
 rec_:∀(i:Nat) (x:Bool × SV) (r:Rec),h.hs[i]?=some x->t.recs[i]?=some r->x.1=r.gone/\zQl w 73 3 x.2 (r.v.flatMap zV6)
 nd:(vBl h.hs).Nodup
variable {t : Tbl} {h : HT}
theorem zJM.fr{B:Nat->Prop}(ht:zJM w t h)(hf:Fr B w w')(hn:∀b,h.own b->¬B b):zJM w' t h where
 page:=ht.page
 rw_:=ht.rw_.fr hf λb hb=>hn b (.inl hb)
 len:=ht.len
 rec_:=λi x r hx hr=>⟨(ht.rec_ i x r hx hr).1,(ht.rec_ i x r hx hr).2.fr hf λb hb=>hn b (.inr (zV5 (List.mem_of_getElem? hx) hb))⟩
 nd:=ht.nd
theorem zJM.pu(ht:zJM w t h)(hp:Pu w w'):zJM w' t h:=ht.fr (Fr.pu hp:Fr (λ_=>False) w w') λ_ _ h=>h
theorem zJM.lt(ht:zJM w t h):∀b,h.own b->b<w.heap.size:=λb hb=>by
 rcases hb with hb|hb
 ·exact ht.rw_.lt b hb
 ·obtain⟨x,hx,hb⟩:=List.mem_flatMap.1 hb
  obtain⟨i,hi⟩:=List.getElem?_of_mem hx
  obtain⟨r,hr⟩:=zQL (l:=t.recs) (k:=i) (by rw[←ht.len];exact(List.getElem?_eq_some_iff.1 hi).1)
  exact(ht.rec_ i x r hi hr).2.lt b hb
theorem zJM.other (ht:zJM w t h) {b:Nat} {c:Array Value} {e:TypeId} {f:Nat × Nat} (hb:w.heap[b]?=some (.cells c e f)) (h1:e ≠ 67) (h2:e ≠ 73):¬h.own b:=λho=>by
 rcases ho with ho|ho
 ·exact ht.rw_.other hb (Ne.symm h1) ho
 ·obtain⟨x,hx,ho⟩:=List.mem_flatMap.1 ho
  obtain⟨i,hi⟩:=List.getElem?_of_mem hx
  obtain⟨r,hr⟩:=zQL (l:=t.recs) (k:=i) (by rw[←ht.len];exact(List.getElem?_eq_some_iff.1 hi).1)
  exact(ht.rec_ i x r hi hr).2.other hb (Ne.symm h2) ho
theorem yVe{f:Fld}{p:Int}{v:Val}(h:zQQ f p v=true):zZV v.kind/\zZV v.n/\v.s.size<=2048:=by
 have hv:zXk v=0:=by
  unfold zQQ at h
  split at h
  ·cases h
  ·rename_i hx;simpa using hx
 unfold zXk at hv
 split at hv
 ·cases hv
 rename_i hs
 split at hv
 ·rename_i hk
  simp only[Bool.and_eq_true]at hk
  have h1:=hk.1
  unfold okN at h1
  unfold zZV
  split at h1
  ·have:=of_decide_eq_true h1;omega
  split at h1
  ·simp at h1;omega
  split at h1
  ·simp at h1;omega
  split at h1
  ·simp at h1;omega
  split at h1
  ·have:=of_decide_eq_true h1;omega
  ·cases h1
 ·cases hv
theorem zZr{t:Tbl}(hv:zQg t=0):R64 t.recs:=λr hr=>by
 have hR:=zQN.of hv
 obtain⟨h1,h2⟩:=zKJ.1 (hR.recs r hr)
 have i8:=(zXn hR.vf).2.2.2.1
 refine⟨λv hv=>?_,by omega⟩
 obtain⟨i,hi⟩:=List.getElem?_of_mem hv
 obtain⟨f,hf⟩:=zQL (l:=t.fields) (k:=i) (by have:=(List.getElem?_eq_some_iff.1 hi).1;omega)
 have:=yVe (h2 i f v hf hi)
 exact⟨this.1,this.2.1⟩
theorem xQH {s:SV} {l:List Val} (h:zQl w 73 3 s (l.flatMap zV6)) (hb:l.length<=1000000) (pq:V64 l):zX7 w s l:=zKa.rdS (w0:={ w with heap:=#[] }) ⟨h,λ_ _=>Nat.zero_le _⟩ hb pq
theorem zJM.rd(ht:zJM w t h)(hf:zX7 w h.f t.fields)(hv:zQg t=0):zX2 w t h.f h.r:=by
 have hR:=zQN.of hv
 have pq:=zZr hv
 have hl:=ht.rw_.len zQS (by decide)
 have pA:=ht.len
 have hn:=hR.n300
 have hp:=hR.page
 unfold zQY at hp
 simp only[Bool.and_eq_true,decide_eq_true_eq]at hp
 refine⟨⟨by omega,by omega⟩,hf,by omega,ht.rw_.le_cap.1,by omega,λi r hr=>?_⟩
 obtain⟨x,hx⟩:=zQL (l:=h.hs) (k:=i) (by have:=(List.getElem?_eq_some_iff.1 hr).1;omega)
 obtain⟨e1,e2⟩:=ht.rec_ i x r hx hr
 obtain⟨a,h1,_,c0⟩:=ht.rw_.elem zQS hx (o:=0) rfl
 obtain⟨a1,qj,_,c1⟩:=ht.rw_.elem zQS hx (o:=1) rfl
 rw[h1]at qj;cases qj
 obtain⟨q1,q2⟩:=pq r (List.mem_of_getElem? hr)
 refine⟨a,h1,_,⟨x.2,rfl,xQH e2 q2 q1⟩,λj v hv=>?_⟩
 rcases j with _|_|j <;> simp at hv
 ·subst hv;rw[←e1];exact c0
 ·subst hv;exact c1
theorem zZC{t:Tbl}(hv:zQg t=0):Lim.ok t.fields:=λf hf=>by
 have:=(zXc (List.all_eq_true.1 (zJj.of hv).all f hf)).2.1
 show f.name.size<=140737488355328
 omega
structure zXF(w:World)(s q0 q1:SV)(F:Fls):Prop where
 len:s.len=2
 cap:2<=s.cap
 ex:∃a,s.a=some a/\w.cell? (a.add 0)=some (slV q0)/\w.cell? (a.add 1)=some (slV q1)
 b0:ByV w q0 F.1
 b1:ByV w q1 F.2
theorem zXF.pu{s q0 q1:SV}{F:Fls}(h:zXF w s q0 q1 F)(hp:Pu w w'):zXF w' s q0 q1 F:=by
 obtain⟨a,h1,h2,h3⟩:=h.ex
 exact⟨h.len,h.cap,⟨a,h1,hp.cell h2,hp.cell h3⟩,h.b0.pu hp,h.b1.pu hp⟩
structure SL where
 S:Nat
 now:HT
 lv:SV
 lh:List HT
 dn:SV
 dh:List HT
 first:SV
 f0:SV
 f1:SV
 last:SV
 l0:SV
 l1:SV
 wr:SV
 wh:List (Int × Int × SV)
 pt:SV
abbrev wrC(x:Int × Int × SV):List Value:=[.int .i64 x.1,.int .i64 x.2.1,slV x.2.2]
theorem zXH(x:Int × Int × SV):(wrC x).length=3:=rfl
def zKd(mu:Int)(L:SL):Array Value:=#[.int .i32 mu,.int .u32 0,.int .i64 L.now.page,slV L.now.f,slV L.now.r,slV L.lv,slV L.dn,slV L.first,slV L.last,slV L.wr,slV L.pt]
def SL.own(L:SL)(b:Nat):Prop:=b=L.S∨b ∈ zQd L.lv∨b ∈ zQd L.dn∨b ∈ zQd L.wr∨b ∈ zQd L.pt∨∃h ∈ L.now :: L.lh,h.own b
abbrev SL.ptr(L:SL):Value:=.pointer (some ⟨L.S,0,none⟩)
structure KpAt(w:World)(L:SL)(d:Dat):Prop where
 nf:zX7 w L.now.f d.σ.t.fields
 lf:∀(i:Nat) h t,L.lh[i]?=some h->d.σ.lev[i]?=some t->zX7 w h.f t.fields
 dt:∀(i:Nat) h t,L.dh[i]?=some h->d.σ.done[i]?=some t->h.page=t.page/\zX2 w t h.f h.r
 fi:zXF w L.first L.f0 L.f1 d.first
 la:zXF w L.last L.l0 L.l1 d.last
 wb:∀(i:Nat) x y,L.wh[i]?=some x->d.wr[i]?=some y->x.1=y.file/\x.2.1=y.at_/\ByV w x.2.2 y.b
theorem KpAt.pu{L:SL}{d:Dat}(h:KpAt w L d)(hp:Pu w w'):KpAt w' L d:=
 ⟨h.nf.pu hp,λi x t hx ht=>(h.lf i x t hx ht).pu hp,λi x t hx ht=>⟨(h.dt i x t hx ht).1,(h.dt i x t hx ht).2.pu hp⟩,h.fi.pu hp,h.la.pu hp,λi x y hx hy=>⟨(h.wb i x y hx hy).1,(h.wb i x y hx hy).2.1,(h.wb i x y hx hy).2.2.pu hp⟩⟩
structure zQJ(X:Nat->Prop)(w:World)(L:SL)(d:Dat)(mu:Int):Prop where
 st:w.heap[L.S]?=some (.cells (zKd mu L) 108)
 lv:zQl w 35 3 L.lv (L.lh.flatMap zVD)
 dn:zQl w 35 3 L.dn (L.dh.flatMap zVD)
 wr:zQl w 90 3 L.wr (L.wh.flatMap wrC)
 pt:zQl w 3 1 L.pt (d.pts.map (Value.int .i64))
 now:zJM w d.σ.t L.now
 ll:L.lh.length=d.σ.lev.length
 dl:L.dh.length=d.σ.done.length
 wl:L.wh.length=d.wr.length
 lvs:∀(i:Nat) h t,L.lh[i]?=some h->d.σ.lev[i]?=some t->zJM w t h
 ld:∀b ∈ zQd L.lv,b ∉ zQd L.dn
 dj:∀x ∈ L.lh,∀b,L.now.own b->¬x.own b
 djl:∀(i j:Nat) x y,i ≠ j->L.lh[i]?=some x->L.lh[j]?=some y->∀b,x.own b->¬y.own b
 xl:∀b,X b->b<w.heap.size
 kp:∀w',Fr (λb=>L.own b∨X b) w w'->KpAt w' L d
variable {X : Nat -> Prop} {L L' : SL} {d d' : Dat} {mu : Int}
theorem zQJ.kp0(h:zQJ X w L d mu):KpAt w L d:=h.kp w (Fr.refl _ _)
theorem zQJ.lev_tab(h:zQJ X w L d mu){x:HT}(hx:x ∈ L.lh):∃t,t ∈ d.σ.lev/\zJM w t x:=by
 obtain⟨i,hi⟩:=List.getElem?_of_mem hx
 obtain⟨t,ht⟩:=zQL (l:=d.σ.lev) (k:=i) (by rw[←h.ll];exact(List.getElem?_eq_some_iff.1 hi).1)
 exact⟨t,List.mem_of_getElem? ht,h.lvs i x t hi ht⟩
theorem zQJ.any_tab(h:zQJ X w L d mu){x:HT}(hx:x ∈ L.now :: L.lh):∃t,zJM w t x:=by
 rcases List.mem_cons.1 hx with rfl|hx
 ·exact⟨_,h.now⟩
 ·obtain⟨t,_,ht⟩:=h.lev_tab hx;exact⟨t,ht⟩
theorem zQJ.own_lt(h:zQJ X w L d mu){b:Nat}(hb:L.own b):b<w.heap.size:=by
 rcases hb with rfl|hb|hb|hb|hb|⟨x,hx,hb⟩
 ·exact zQy h.st
 ·exact h.lv.lt b hb
 ·exact h.dn.lt b hb
 ·exact h.wr.lt b hb
 ·exact h.pt.lt b hb
 ·obtain⟨t,ht⟩:=h.any_tab hx;exact ht.lt b hb
theorem zQJ.fr{B:Nat->Prop}(h:zQJ X w L d mu)(hf:Fr B w w')(hn:∀b,L.own b->¬B b)(hx:∀b,B b->b<w.heap.size->X b):zQJ X w' L d mu where
 st:=hf.blk h.st (hn _ (.inl rfl))
 lv:=h.lv.fr hf λb hb=>hn b (.inr (.inl hb))
 dn:=h.dn.fr hf λb hb=>hn b (.inr (.inr (.inl hb)))
 wr:=h.wr.fr hf λb hb=>hn b (.inr (.inr (.inr (.inl hb))))
 pt:=h.pt.fr hf λb hb=>hn b (.inr (.inr (.inr (.inr (.inl hb)))))
 now:=h.now.fr hf λb hb=>hn b (.inr (.inr (.inr (.inr (.inr ⟨_,List.mem_cons_self,hb⟩)))))
 ll:=h.ll
 dl:=h.dl
 wl:=h.wl
 lvs:=λi x t h1 h2=>(h.lvs i x t h1 h2).fr hf λb hb=>hn b (.inr (.inr (.inr (.inr (.inr ⟨_,List.mem_cons_of_mem _ (List.mem_of_getElem? h1),hb⟩)))))
 ld:=h.ld
 dj:=h.dj
 djl:=h.djl
 xl:=λb hb=>Nat.lt_of_lt_of_le (h.xl b hb) hf.size
 kp:=λw2 h2=>h.kp w2 ((hf.mono λb hb hlt=>.inr (hx b hb hlt)).trans h2 λb hb _=>hb)
theorem zQJ.pu(h:zQJ X w L d mu)(hp:Pu w w'):zQJ X w' L d mu:=h.fr (Fr.pu hp:Fr (λ_=>False) w w') (λ_ _ h=>h) (λ_ h=>h.elim)
theorem zQJ.cell(h:zQJ X w L d mu)(o:Nat):w.cell? ⟨L.S,o,none⟩=(zKd mu L)[o]?:=zQI h.st o
theorem zQJ.cellA(h:zQJ X w L d mu)(o:Nat):w.cell? ((⟨L.S,0,none⟩:Addr).add o)=(zKd mu L)[o]?:=by rw[zQr,Nat.zero_add];exact h.cell o
theorem zQJ.cellB(h:zQJ X w L d mu)(i o:Nat):w.cell? (((⟨L.S,0,none⟩:Addr).add i).add o)=(zKd mu L)[i+o]?:=by rw[zQr,zQr,Nat.zero_add];exact h.cell _
theorem zQJ.rdNow(h:zQJ X w L d mu)(hv:zQg d.σ.t=0):zX2 w d.σ.t L.now.f L.now.r:=h.now.rd h.kp0.nf hv
structure zZi(w w':World)(L L':SL):Prop where
 fr:Fr L.own w w'
 own:∀b,L'.own b->L.own b∨w.heap.size<=b
 ptr:L'.S=L.S
theorem zZi.refl(w:World)(L:SL):zZi w w L L:=⟨Fr.refl _ _,λ_ h=>.inl h,rfl⟩
theorem zZi.pu(hp:Pu w w')(L:SL):zZi w w' L L:=⟨Fr.pu hp,λ_ h=>.inl h,rfl⟩
theorem zZi.trans{w'':World}{L'':SL}(h:zZi w w' L L')(k:zZi w' w'' L' L''):zZi w w'' L L'':=by
 refine⟨h.fr.trans k.fr λb hb hlt=>(h.own b hb).resolve_right (by omega),λb hb=>?_,k.ptr.trans h.ptr⟩
 rcases k.own b hb with h1|h1
 ·exact h.own b h1
 ·exact .inr (Nat.le_trans h.fr.size h1)
theorem zZi.keep {Q:World->Prop} (h:zZi w w' L L') (hq:∀w2,Fr (λb=>L.own b∨X b) w w2->Q w2) (hxl:∀b,X b->b<w.heap.size):∀w2,Fr (λb=>L'.own b∨X b) w' w2->Q w2:=λw2 h2=>
 hq w2 ((h.fr.mono λb hb _=>.inl hb).trans h2 λb hb hlt=>by
  rcases hb with hb|hb
  ·exact .inl ((h.own b hb).resolve_right (by omega))
  ·exact .inr hb)
end Go.Proofs.YtaeecpjhfmcliaaGreatDoor
