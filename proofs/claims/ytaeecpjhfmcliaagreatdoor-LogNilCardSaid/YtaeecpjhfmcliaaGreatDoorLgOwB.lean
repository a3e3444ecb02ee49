import Derived.Test.YtaeecpjhfmcliaaGreatDoorLgOwA
import Derived.Test.YtaeecpjhfmcliaaGreatDoorLgPrA
import Derived.Test.YtaeecpjhfmcliaaGreatDoorShSixteen
import Derived.Lib.BufferWrite
import Derived.Lib.AppendStr
import Derived.Lib.SlBytesRow
import Derived.Lib.BufferRead
/- Table: which tables are right. No condition. -/
set_option maxRecDepth 100000
set_option linter.unusedVariables false
set_option linter.unusedSimpArgs false
namespace Go.Proofs.YtaeecpjhfmcliaaGreatDoor
open Go.Sh Go.RowKit Tryz
theorem yYd:zVW prog 73 [some .i64,some .i64,none]=true:=by kernel_rfl
theorem yV7:prog.eqGuardType prog.depth 73=false:=by kernel_rfl
theorem yZ6{a b:Val}(h:zWQ a=zWQ b):a=b:=by
 obtain⟨a1,a2,a3⟩:=a;obtain⟨b1,b2,b3⟩:=b
 simp[zWQ]at h;simp[h]
theorem eqVal(x y:Operand)(a b:Val)(w:World):(eqS .eql 73 x y (zKL a) (zKL b)).run prog w=.ok (.bool (decide (a=b))) w:=by
 refine eqS_row (ks:=[some .i64,some .i64,none]) (xs:=zWQ a) (ys:=zWQ b) yYd yV7 rfl rfl ?_ w
 rw[decide_eq_true_iff]
 exact⟨λh=>by rw[h],yZ6⟩
theorem yY7 {l:List UInt8} {w:Nat} (h:zZ4 (l.take w)=l):l.length<=w/\zZ4 l=l:=by
 have h1:=yXT (l.take w)
 rw[h]at h1
 have h2:=List.length_take_le w l
 have h3:l.length<=w:=by omega
 rw[List.take_of_length_le h3]at h
 exact⟨h3,h⟩
theorem fitted_holds{f:Fld}{p:Int}{v:Val}(hf:zQo f=true)(hv:zXk v=0)(hk:v.kind ≠ 0):(decide ((zZk f p v).2=0) && decide ((zZk f p v).1=v))=zXi f p v:=by
 have ky:¬zXk v ≠ 0:=by omega
 obtain⟨hvs,hvn,zW⟩:=zWu hv
 unfold zZk
 rw[if_neg hk]
 by_cases h1:v.kind ≠ (zZh f).kind
 ·rw[if_pos h1]
  have:zXi f p v=false:=by
   unfold zXi;rw[if_neg ky,if_neg hk]
   by_cases h5:f.kind=5
   ·have:v.kind ≠ 2:=by unfold zZh at h1;rw[if_pos h5]at h1;exact h1
    rw[if_pos h5,decide_eq_false this];rfl
   ·have:v.kind ≠ f.kind:=by unfold zZh at h1;rw[if_neg h5]at h1;exact h1
    rw[if_neg h5,if_pos this]
  rw[this];simp
 rw[if_neg h1]
 by_cases h4:f.kind=4
 ·rw[if_pos h4]
  have hkv:v.kind=4:=by
   have:v.kind=(zZh f).kind:=by simpa using h1
   rw[this];unfold zZh;rw[if_neg (by omega)];exact h4
  have lA:v.n=0:=by rw[hkv]at hvn;simpa[okN] using hvn
  have hfit:zXi f p v=(decide ((v.s.size:Int)<=f.width) && decide (zZ4 v.s.data.toList=v.s.data.toList) && zZ0 v.s.data.toList p):=by
   unfold zXi;rw[if_neg ky,if_neg hk,if_neg (by omega),if_neg (by rw[hkv,h4];simp),if_neg (by omega),if_pos h4]
  obtain⟨wl,wh⟩:=zYv hf h4
  have key:(zZ4 (v.s.data.toList.take f.width.toNat)=v.s.data.toList) ↔ ((v.s.size:Int)<=f.width/\zZ4 v.s.data.toList=v.s.data.toList):=by
   constructor
   ·intro h;have h2:=yY7 h;rw[zQv]at h2;exact⟨by omega,h2.2⟩
   ·rintro⟨h2,h3⟩;rw[List.take_of_length_le (by rw[zQv];omega)];exact h3
  have eqv:(⟨4,0,bs (zZ4 (v.s.data.toList.take f.width.toNat))⟩:Val)=v ↔ zZ4 (v.s.data.toList.take f.width.toNat)=v.s.data.toList:=by
   rw[←yWt]
   obtain⟨k,n,s⟩:=v
   simp only at hkv lA
   subst hkv lA
   simp
  have pB:(decide ((v.s.size:Int)<=f.width) && decide (zZ4 v.s.data.toList=v.s.data.toList))=decide (zZ4 (v.s.data.toList.take f.width.toNat)=v.s.data.toList):=by rw[←Bool.decide_and];exact zZj key.symm
  rw[hfit,pB]
  by_cases hb:zZ4 (v.s.data.toList.take f.width.toNat)=v.s.data.toList
  ·rw[decide_eq_true hb,hb]
   cases ht:zZ0 v.s.data.toList p
   ·simp
   ·rw[if_pos rfl]
    have h9:=eqv.2 hb
    rw[hb]at h9
    simp[h9]
  ·rw[decide_eq_false hb]
   cases ht:zZ0 (zZ4 (v.s.data.toList.take f.width.toNat)) p
   ·simp
   ·rw[if_pos rfl]
    have h9:¬(⟨4,0,bs (zZ4 (v.s.data.toList.take f.width.toNat))⟩:Val)=v:=λh=>hb (eqv.1 h)
    simp[h9]
 ·rw[if_neg h4]
  cases hfit:zXi f p v
  ·simp
  ·simp
theorem xJ1(f:Fld)(p:Int)(v:Val)(hs:f.name.size<=140737488355328)(hf:zQo f=true)(hpg:zQY p=true)(w:World):Calls prog 142 #[yQA f,.int .i64 p,zKL v] w λe w'=>e=.returned (.bool (zXi f p v))/\Pu w w':=by
 refine yJt _ _ _ _ _ _ _ _ w _ ?_
 refine alB λw1 aA aD=>alB λw2 ay aL=>?_
 have aJ:=aA.trans ay
 have b1:∀{wz},Pu w2 wz->wz.heap[w.heap.size]?=some (.cells #[.string f.name,.int .i64 f.kind,.int .i64 f.width,.bool f.null] 129):=λh=>h.blk (ay.blk aD)
 have b2:∀{wz},Pu w2 wz->wz.heap[w1.heap.size]?=some (.cells #[.int .i64 v.kind,.int .i64 v.n,.string v.s] 73):=λh=>h.blk aL
 have q1:=b1 (Pu.refl w2)
 have q2:=b2 (Pu.refl w2)
 have out:∀{wz:World} {b:Bool},Pu w wz->zXi f p v=b->(Ending.returned (Value.bool b)=Ending.returned (Value.bool (zXi f p v))/\Pu w wz):=λh1 h2=>⟨by rw[h2],h1⟩
 have bad:zXk v ≠ 0->zXi f p v=false:=λh=>by unfold zXi;rw[if_pos h]
 refine⟨_,cl0 q2,Br.of (λd=>⟨_,cl q1 3,?_⟩) (λd=>⟨_,cl q2 0,_,cl q2 1,_,cl q2 2,(yVu v w2).mono ?_⟩)⟩
 ·have d:=zXr d
  have key:(f.null && decide (v=noV))=zXi f p v:=by
   by_cases h:zXk v ≠ 0
   ·rw[bad h]
    have:¬v=noV:=λe=>h (by rw[e];rfl)
    rw[decide_eq_false this];simp
   ·have h:zXk v=0:=by simpa using h
    obtain⟨_,h2,h3⟩:=zWu h
    have hn:v.n=0:=by rw[d]at h2;simpa[okN] using h2
    have hz:v.s.size=0:=h3.resolve_left (by omega)
    have:v=noV:=by
     obtain⟨k,n,s⟩:=v
     simp only at d hn hz
     subst d hn
     have:s=⟨#[]⟩:=zQM (by
      have:s.data.toList.length=0:=by rw[zQv];exact hz
      rw[List.length_eq_zero_iff]at this;rw[this])
     subst this;rfl
    rw[decide_eq_true this]
    unfold zXi;rw[if_neg (by omega),if_pos d];simp
  refine Br.of (λd1=>⟨_,cl q2 0,_,cl q2 1,_,cl q2 2,_,w2,eqVal _ _ v noV w2,out aJ ?_⟩) (λd1=>out aJ ?_)
  ·rw[←key,d1];rfl
  ·rw[←key,d1];rfl
 rintro e w3 ⟨rfl,aC⟩
 have cd:=aJ.trans aC
 refine⟨_,rfl,Br.of (λd1=>out cd (bad (zQG d1))) (λd1=>⟨_,cl (b1 aC) 0,_,cl (b1 aC) 1,_,cl (b1 aC) 2,_,cl (b1 aC) 3,_,cl (b2 aC) 0,_,cl (b2 aC) 1,_,cl (b2 aC) 2,(fit_c f p v hs w3).mono ?_⟩)⟩
 have hv:=zQ4 d1
 have hF:=zKb (f:=f) (p:=p) (v:=v) (by rw[hf,hpg];rfl) hv
 have key:=fitted_holds (f:=f) (p:=p) hf hv (zQ9 d)
 rintro e w4 ⟨rfl,aK⟩
 rw[hF]
 refine⟨_,_,_,_,rfl,zYj rfl s25.symm rfl λw5 ba j9 bq=>?_⟩
 have ck:=(aC.trans aK).trans ba
 have kz:=aJ.trans ck
 refine Br.of (λd2=>⟨_,cl bq 0,_,cl bq 1,_,cl bq 2,_,cl (b2 ck) 0,_,cl (b2 ck) 1,_,cl (b2 ck) 2,_,w5,eqVal _ _ (zZk f p v).1 v w5,out kz ?_⟩) (λd2=>out kz ?_)
 ·rw[←key,decide_eq_true (zXr d2)];rfl
 ·rw[←key,decide_eq_false (zQ9 d2)];rfl
theorem xQ4 {l:List Fld} {vs:List Val} {i:Nat} {f:Fld} {v:Val} (h:l[i]?=some f) (h2:vs[i]?=some v):(l.zip vs)[i]?=some (f,v):=by
 rw[List.getElem?_zip_eq_some];exact⟨h,h2⟩
def zWL(l:List Fld)(p:Int)(vs:List Val):Bool:=(l.zip vs).all (λx=>zXi x.1 p x.2)
theorem zV9{l:List Fld}{p:Int}{r:Rec}(h:r.v.length ≠ l.length):zQA l p r=10:=by unfold zQA;rw[if_pos h]
theorem zKQ{l:List Fld}{p:Int}{r:Rec}(h:r.v.length=l.length):zQA l p r=if zWL l p r.v then 0 else 1:=by unfold zQA;rw[if_neg (by simp[h])];rfl
theorem zJR{l:List Fld}{p:Int}:∀{rs:List Rec} {k:Nat} {r:Rec},(∀x ∈ rs.take k,zQA l p x=0)->rs[k]?=some r->zQA l p r ≠ 0->zXg l p rs=zQA l p r
 | [],k,r,_,h,_=>by simp at h
 | x :: rs,0,r,_,h,h2=>by simp at h;subst h;unfold zXg;rw[if_pos h2]
 | x :: rs,k+1,r,h0,h,h2=>by
  unfold zXg
  rw[if_neg (by rw[h0 x (by simp)];simp)]
  exact zJR (k:=k) (λy hy=>h0 y (by simp[hy])) (by simpa using h) h2
theorem zKr{l:List Fld}{p:Int}:∀{rs:List Rec},(∀x ∈ rs,zQA l p x=0)->zXg l p rs=0
 | [],_=>rfl
 | x :: rs,h=>by unfold zXg;rw[if_neg (by rw[h x (by simp)];simp)];exact zKr λy hy=>h y (by simp[hy])
theorem yX0{t:Tbl}(h:zQY t.page=false):zQh t=1:=by unfold zQh;rw[h];rfl
theorem zVY{t:Tbl}(h:zQY t.page=true)(h2:zQZ t.fields ≠ 0):zQh t=zQZ t.fields:=by unfold zQh;rw[h,if_pos rfl,if_pos h2]
theorem yX1{t:Tbl}(h:zQY t.page=true)(h2:zQZ t.fields=0)(h3:300<t.recs.length):zQh t=3:=by unfold zQh;rw[h,if_pos rfl,if_neg (by omega),if_pos h3]
theorem yXR{t:Tbl}(h:zQY t.page=true)(h2:zQZ t.fields=0)(h3:¬300<t.recs.length):zQh t=zXg t.fields t.page t.recs:=by unfold zQh;rw[h,if_pos rfl,if_neg (by omega),if_neg h3]
theorem zXt{l:List Fld}(h:zQZ l=0):l ≠ []/\l.all zQo=true/\(l.map (·.name)).Nodup/\l.length<=16/\zXE l<=2000:=by
 unfold zQZ at h
 split at h
 ·omega
 ·rename_i h1
  split at h
  ·omega
  ·rename_i h2
   split at h
   ·omega
   ·rename_i h3
    simp only[not_or]at h1 h3
    exact⟨h1.1,by simpa using h1.2,by simpa using h2,by omega,by omega⟩
abbrev zYq(t:Tbl)(f r:SV):Value:=.agg #[.int .i64 t.page,.slice f.a f.len f.cap,.slice r.a r.len r.cap]
theorem zZ9{w:World}{t:Tbl}{f r:SV}(h:zXB w t f r)(hl:Lim.ok t.fields):Calls prog 106 #[zYq t f r] w λe w'=>e=.returned (.int .i64 (zQh t))/\Pu w w':=by
 refine yKs _ _ _ w _ ?_
 refine alB λw1 aA aD=>⟨_,cl0 aD,(yZb t.page w1).mono ?_⟩
 rintro e w2 ⟨rfl,ay⟩
 have h1:=h.recs.len
 have h3:=h.recs.lim
 have h1f:=h.fields.len
 have h3f:=h.fields.lim
 refine⟨_,rfl,Br.of (λd=>⟨by rw[yX0 (by simpa using d)],aA.trans ay⟩) (λd=>⟨_,cl (ay.blk aD) 1,(zKk (h.fields.pu (aA.trans ay)) hl).mono ?_⟩)⟩
 have hpg:zQY t.page=true:=by simpa using d
 rintro e w3 ⟨rfl,aC⟩
 have bn:=ay.trans aC
 refine⟨_,rfl,Br.of (λd1=>⟨by rw[zVY hpg (zQG d1)],aA.trans bn⟩) (λd1=>⟨_,cl (bn.blk aD) 2,Br.of (λd2=>⟨by rw[yX1 hpg (zQ4 d1) (by have:=zQs d2;omega)],aA.trans bn⟩) (λd2=>⟨_,cl (bn.blk aD) 2,?_⟩)⟩)⟩
 have hvf:=zQ4 d1
 obtain⟨_,hall,_,_,_⟩:=zXt hvf
 have e0:=yXR hpg hvf (by have:=zQj d2;omega)
 refine zQD t.recs.length (λk u w'=>u=(k:Int)/\(∀x ∈ t.recs.take k,zQA t.fields t.page x=0)/\Pu w1 w') ⟨rfl,by simp,bn⟩ ?_
 rintro k J u w4 hk ⟨hu,hal,aK⟩ hJ
 obtain rfl:u=(k:Int):=hu
 refine Br.of (λd3=>?_) (λd3=>?_)
 ·have aI:k<t.recs.length:=by have:=zQs d3;omega
  obtain⟨x,hx⟩:=zXf aI
  obtain⟨a,q,ha,hi,hq,c0,c1⟩:=yQB ((h.recs.pu aA).pu aK) hx
  have next:∀{w6:World},Pu w4 w6->zQA t.fields t.page x=0->yVq (λe w'=>e=.returned (.int .i64 (zQh t))/\Pu w w') J (some (⟨w.heap.size,0,none⟩:Addr)) r ((r.len:Nat):Int) (k:Int) [] w6:=λ{w6} cW h0=>by
   show J (IntKind.i64.wrap ((k:Int)+1)) w6
   rw[zQa (by omega) (by omega)]
   refine hJ _ _ aI ⟨by omega,λy hy=>?_,aK.trans cW⟩
   rw[zQK hx,List.mem_append,List.mem_singleton]at hy
   rcases hy with hy|rfl
   ·exact hal y hy
   ·exact h0
  have hql:=hq.len
  refine⟨a,ha,by omega,by omega,_,c0,_,c1,zYj rfl (by kernel_rfl) rfl λw5 ba j9 bq=>⟨_,cl bq 1,_,cl ((aK.trans ba).blk aD) 1,Br.of (λd4=>?_) (λd4=>⟨_,cl ((aK.trans ba).blk aD) 1,?_⟩)⟩⟩
  ·have:zQA t.fields t.page x=10:=zV9 (by have:=zQG d4;omega)
   exact⟨by rw[e0,zJR hal hx (by rw[this];omega),this],aA.trans (aK.trans ba)⟩
  have hlen:x.v.length=t.fields.length:=by have:=zQ4 d4;omega
  have gk:=aK.trans ba
  refine zQD t.fields.length (λj u w'=>u=(j:Int)/\((t.fields.zip x.v).take j).all (λy=>zXi y.1 t.page y.2)=true/\Pu w5 w') ⟨rfl,rfl,Pu.refl _⟩ ?_
  rintro j J2 u w6 hj ⟨hu,haz,cW⟩ zY
  obtain rfl:u=(j:Int):=hu
  have bU:=gk.trans cW
  refine Br.of (λd5=>?_) (λd5=>?_)
  ·have jC:j<t.fields.length:=by have:=zQs d5;omega
   obtain⟨g,hg⟩:=zXf jC
   obtain⟨v,hv⟩:=zXf (show j<x.v.length by omega)
   obtain⟨b,hb,hbi,_,_,c',k0,k1,k2,k3⟩:=zVj ((h.fields.pu aA).pu bU) hg
   refine⟨b,hb,by omega,by omega,_,k0,_,k1,_,k2,_,k3,zYj rfl s23.symm rfl λw7 dK zZ sD=>zQe λw8 bM _=>?_⟩
   have mj:=dK.trans bM
   have iC:=bU.trans mj
   have lI:=bM.blk sD
   obtain⟨m,hm,hmi,_,_,v0,v1,v2⟩:=xZX (hq.pu ((ba.trans cW).trans mj)) hv
   refine⟨_,cl lI 0,_,cl lI 1,_,cl lI 2,_,cl lI 3,_,cl0 (iC.blk aD),q,cl ((cW.trans mj).blk bq) 1,m,hm,by omega,by omega,_,v0,_,v1,_,v2,(xJ1 g t.page v (hl g (List.mem_of_getElem? hg)) (List.all_eq_true.1 hall g (List.mem_of_getElem? hg)) hpg w8).mono ?_⟩
   rintro e w9 ⟨rfl,dY⟩
   have hz:=xQ4 hg hv
   refine⟨_,rfl,Br.of (λd6=>?_) (λd6=>?_)⟩
   ·have:zWL t.fields t.page x.v=false:=by unfold zWL;rw[List.all_eq_false];exact⟨_,List.mem_of_getElem? hz,by simpa using d6⟩
    have h1:zQA t.fields t.page x=1:=by rw[zKQ hlen,this];rfl
    exact⟨by rw[e0,zJR hal hx (by rw[h1];omega),h1],aA.trans (iC.trans dY)⟩
   ·rw[zQa (by omega) (by omega)]
    exact zY _ _ jC ⟨by omega,by rw[zYb _ hz,haz,show zXi g t.page v=true by simpa using d6];rfl,(cW.trans mj).trans dY⟩
  ·have jC:j=t.fields.length:=by have:=zQj d5;omega
   have:zWL t.fields t.page x.v=true:=by unfold zWL;rw[←haz,List.take_of_length_le (by rw[List.length_zip];omega)]
   exact next (ba.trans cW) (by rw[zKQ hlen,this];rfl)
 ·have aI:k=t.recs.length:=by have:=zQj d3;omega
  subst aI
  rw[List.take_length]at hal
  exact⟨by rw[e0,zKr hal],aA.trans aK⟩
end Go.Proofs.YtaeecpjhfmcliaaGreatDoor
/- Table: the bytes of a header. No condition. -/
namespace Go.Proofs.YtaeecpjhfmcliaaGreatDoor
open Go.Sh Go.RowKit Tryz
def u8V(b:UInt8):Value:=.int .u8 ((b.toNat:Nat):Int)
def zZr(n:Int):UInt8:=UInt8.ofNat (n % 256).toNat
theorem zZC(n:Int):(Value.int .u8 (IntKind.u8.wrap n))=u8V (zZr n):=by
 unfold u8V zZr
 rw[IntKind.wrap_u8]
 congr 1
 have:(UInt8.ofNat (n % 256).toNat).toNat=(n % 256).toNat:=by simp;omega
 rw[this];omega
theorem yJj:(prog.info? 5).map (λi=>(i.zero,i.size,i.bytes))=some (some (.int .u8 0),1,1):=by kernel_rfl
def zQc(w0 w:World)(s:SV)(l:List UInt8):Prop:=zQi w 5 1 s (l.map u8V)/\∀b ∈ zQb s,w0.heap.size<=b
theorem zQc.len{w0 w:World}{s:SV}{l:List UInt8}(h:zQc w0 w s l):s.len=l.length:=by have:=h.1.1;simp at this;omega
theorem zQc.pu{w0 w w':World}{s:SV}{l:List UInt8}(h:zQc w0 w s l)(hp:Pu w w'):zQc w0 w' s l:=⟨h.1.pu hp,h.2⟩
theorem zQc.nil(w0 w:World):zQc w0 w ⟨none,0,0⟩ []:=⟨zQi.nil w 5 1,by simp[zQb]⟩
theorem zQc.fr{B:Nat->Prop}{w0 w w':World}{s:SV}{l:List UInt8}(h:zQc w0 w s l)(hf:Fr B w w')(hn:∀k ∈ zQb s,¬B k):zQc w0 w' s l:=⟨h.1.fr hf hn,h.2⟩
theorem zQc.low{w0 w1 w:World}{s:SV}{l:List UInt8}(h:zQc w1 w s l)(hz:w0.heap.size<=w1.heap.size):zQc w0 w s l:=⟨h.1,λb hb=>Nat.le_trans hz (h.2 b hb)⟩
theorem zQc.app {w0 w:World} {s m:SV} {l news:List UInt8} (h:zQc w0 w s l) (hz:w0.heap.size<=w.heap.size) (hl:m.len=news.length) (hn:∀(j:Nat) (b:UInt8),news[j]?=some b->∃a,m.a=some a/\w.cell? (a.add j)=some (u8V b)) (hb:l.length+news.length<=70368744177664) :
  ∃(s':SV) (w':World),(Builtin.append_ #[22,22] 22 #[.slice s.a s.len s.cap,.slice m.a m.len m.cap]).run prog w=.ok (.slice s'.a s'.len s'.cap) w'/\zQc w0 w' s' (l ++ news)/\Fr (· ∈ zQb s) w w':=by
 have h1:=h.len
 obtain⟨s',w',hr,hrow,hf,hblk,_⟩:=zJo (P:=prog) (ty:=22) u37 yJj rfl h.1 (m:=m) (news:=news.map u8V) (by simpa using hl) (λj u hu=>by
  obtain⟨b,hb,rfl⟩:∃b,news[j]?=some b/\u8V b=u:=by simpa using hu
  exact hn j b hb) (λu hu=>by simp at hu;obtain⟨x,_,rfl⟩:=hu;rfl) (by omega)
 refine⟨s',w',hr,⟨by rw[List.map_append];exact hrow,λb hb=>?_⟩,hf⟩
 rcases hblk b hb with h2|h2
 ·exact h.2 b h2
 ·omega
theorem zQc.one {w0 w:World} {s:SV} {l:List UInt8} (h:zQc w0 w s l) (hz:w0.heap.size<=w.heap.size) {r:Nat} {b:UInt8} {c:Array Value} (hr:w.heap[r]?=some (.cells c 5)) (hc:c[0]?=some (u8V b)) (hb:l.length<=70368744177663) :
  ∃(s':SV) (w':World),(Builtin.append_ #[22,22] 22 #[.slice s.a s.len s.cap,.slice (some ⟨r,0,none⟩) 1 1]).run prog w=.ok (.slice s'.a s'.len s'.cap) w'/\zQc w0 w' s' (l ++ [b])/\Fr (· ∈ zQb s) w w':=
 h.app hz (m:=⟨some ⟨r,0,none⟩,1,1⟩) (news:=[b]) rfl (λj b' hj=>by
  cases j with
  | zero=>simp at hj;subst hj;exact⟨_,rfl,by rw[xX5,zQ8 hr];exact hc⟩
  | succ j=>simp at hj) (by simp;omega)
theorem zQc.box {w0 w:World} {r:Nat} {l:List UInt8} (hr:w.heap[r]?=some (.cells (l.map u8V).toArray 5)) (hz:w0.heap.size<=r) (hl:l.length<=140737488355328):zQc w0 w ⟨some ⟨r,0,none⟩,l.length,l.length⟩ l:=
 ⟨⟨by simp,.inr ⟨r,_,rfl,hr,Nat.le_refl _,by show l.length<=maxLen;unfold maxLen;omega,by simp,by simp[←List.map_take]⟩⟩,λb hb=>by simp[zQb]at hb;omega⟩
theorem zQc.cell {w0 w:World} {s:SV} {l:List UInt8} (h:zQc w0 w s l) {j:Nat} {b:UInt8} (hj:l[j]?=some b):∃a,s.a=some a/\w.cell? (a.add j)=some (u8V b):=by
 obtain⟨a,h1,h2,_⟩:=h.1.cell (j:=j) (v:=u8V b) (by rw[List.getElem?_map,hj];rfl)
 exact⟨a,h1,h2⟩
def zWq(n k:Nat):List UInt8:=(List.range k).map λj=>UInt8.ofNat (n / 256 ^ j % 256)
theorem zXp(n k:Nat):(zWq n k).length=k:=by simp[zWq]
theorem yQM(n k:Nat):zWq n (k+1)=zWq n k ++ [UInt8.ofNat (n / 256 ^ k % 256)]:=by simp[zWq,List.range_succ]
theorem zWK(n:Nat):zZr (n:Int)=UInt8.ofNat (n % 256):=by
 unfold zZr;congr 1
theorem yYO(n k:Nat)(hk:k<=8)(w:World):Calls prog 202 #[.int .i64 (n:Int),.int .i64 (k:Int)] w λe w'=>∃s:SV,e=.returned (.slice s.a s.len s.cap)/\zQc w w' s (zWq n k)/\Pu w w':=by
 refine yJa _ _ w _ ?_
 refine zQD k (λj t w'=>t.1=((n / 256 ^ j:Nat):Int)/\t.2.2=(j:Int)/\zQc w w' t.2.1 (zWq n j)/\Pu w w') ⟨by simp,rfl,zQc.nil w w,Pu.refl _⟩ ?_
 rintro j J ⟨t1,t2,t3⟩ w2 hj ⟨h1,h3,hr,hp⟩ hJ
 obtain rfl:t1=((n / 256 ^ j:Nat):Int):=h1
 obtain rfl:t3=(j:Int):=h3
 have hr:zQc w w2 t2 (zWq n j):=hr
 dsimp only
 refine Br.of (λd=>?_) (λd=>?_)
 ·have jC:j<k:=by have:=zQs d;omega
  refine alB λw3 aC be=>?_
  have hz:w.heap.size<=w3.heap.size:=(hp.trans aC).size
  obtain⟨s',w4,e4,wD,fX⟩:=(hr.pu aC).one hz (b:=zZr ((n / 256 ^ j:Nat):Int)) be (by rw[zZC];rfl) (by rw[zXp];omega)
  refine⟨s',w4,e4,by omega,?_⟩
  rw[zQa (by omega) (by omega)]
  refine hJ _ _ jC ⟨?_,by dsimp only;omega,?_,(hp.trans aC).andNew fX λi hi=>hr.2 i hi⟩
  ·show Int.fdiv ((n / 256 ^ j:Nat):Int) (2 ^ 8)=_
   rw[Int.fdiv_eq_ediv_of_nonneg _ (by decide),Nat.pow_succ,←Nat.div_div_eq_div_mul]
   norm_cast
  ·dsimp only;rw[yQM,←zWK];exact wD
 ·have jC:j=k:=by have:=zQj d;omega
  subst jC
  exact⟨t2,rfl,hr,hp⟩
def zYi(k:Int):UInt8:=if k=1 then 76 else if k=2 then 78 else if k=3 then 68 else if k=4 then 67 else 77
def xZT(b:Bool):UInt8:=if b then 1 else 0
def zQS(f:Fld):List UInt8:=f.name.data.toList ++ List.replicate (10 - f.name.size) 0 ++ [zYi f.kind,zZr f.width,xZT f.null,0,0,0]
def zKB(t:Tbl):List UInt8:=[67,zZr t.page] ++ zWq t.recs.length 4 ++ zWq (13+16 * t.fields.length) 2 ++ zWq (zXE t.fields).toNat 2 ++ [zZr t.fields.length,0] ++ t.fields.flatMap zQS ++ [13]
theorem zQT{f:Fld}(h:zQo f=true):1<=f.name.size/\f.name.size<=10/\∃K,zQJ f.kind=some K/\K.letter=((zYi f.kind).toNat:Nat):=by
 unfold zQo at h
 simp only[Bool.and_eq_true]at h
 obtain⟨hn,hk⟩:=h
 unfold zWl at hn
 simp only[Bool.and_eq_true,decide_eq_true_eq]at hn
 refine⟨hn.1.1.1,hn.1.1.2,?_⟩
 rcases zZG f.kind with⟨e,h1⟩|⟨e,h1⟩|⟨e,h1⟩|⟨e,h1⟩|⟨e,h1⟩|⟨h1,h2,h3,h4,h5,hh⟩
 ·exact⟨_,h1,by rw[e];rfl⟩
 ·exact⟨_,h1,by rw[e];rfl⟩
 ·exact⟨_,h1,by rw[e];rfl⟩
 ·exact⟨_,h1,by rw[e];rfl⟩
 ·exact⟨_,h1,by rw[e];rfl⟩
 ·rw[zV7 (by rw[hh];rfl)]at hk;cases hk
theorem zZb{f:Fld}(h:f.name.size<=10):(zQS f).length=16:=by
 unfold zQS;simp only[List.length_append,List.length_replicate,zQv,List.length_cons,List.length_nil];omega
theorem yQ4(n:Nat)(hn:n<=1000000)(w:World):Calls prog 159 #[.int .i64 (n:Int)] w λe w'=>e=.returned (.int .i64 ((13+16 * n:Nat):Int))/\Pu w w':=by
 refine yKj _ w _ ⟨?_,Pu.refl w⟩
 rw[zQa (n:=16 * (n:Int)) (by omega) (by omega),zQa (by omega) (by omega)];norm_cast
theorem u123:prog.underlying 227=some (.array 16 5):=by kernel_rfl
theorem yYC(r:Nat)(w:World):(Instr.sliceAt 227 (.pointer (some (⟨r,0,none⟩:Addr))) none (some (.int .i64 10)) (some (.int .i64 10))).run prog w=.ok (.slice (some ⟨r,0,none⟩) 10 10) w:=by
 have hs:(sizeOf 5).run prog w=.ok 1 w:=Tryz.sizeOf5 w
 simp[Instr.sliceAt,zQg u123,Instr.sureAddr,hs,Instr.sliceBounds,Instr.sliceBound,asIntOf,Addr.add]
end Go.Proofs.YtaeecpjhfmcliaaGreatDoor
/- Table: the program's header of a table. No condition. -/
namespace Go.Proofs.YtaeecpjhfmcliaaGreatDoor
open Go.Sh Go.RowKit Tryz
def xZu(R:Rt)(r1 bW:Nat)(bL:SV)(ds:Ds)(bt:World):Prop:=
 ∃cZ:SV,∃eu:World,(Builtin.append_ #[22,22] 22 #[.slice (some ⟨bW,0,none⟩) 2 2,.slice bL.a bL.len bL.cap]).run prog bt=.ok (.slice cZ.a cZ.len cZ.cap) eu/\
 ∃cX:SV,eu.cell? ((⟨r1,0,none⟩:Addr).add 1)=some (.slice cX.a cX.len cX.cap)/\
 Calls prog 159 #[.int .i64 ((cX.len:Nat):Int)] eu λe cy=>
 ∃n20:Int,e=.returned (.int .i64 n20)/\
 Calls prog 202 #[.int .i64 n20,.int .i64 2] cy λe cS=>
 ∃cU:SV,e=.returned (.slice cU.a cU.len cU.cap)/\
 ∃cj:SV,∃eG:World,(Builtin.append_ #[22,22] 22 #[.slice cZ.a cZ.len cZ.cap,.slice cU.a cU.len cU.cap]).run prog cS=.ok (.slice cj.a cj.len cj.cap) eG/\
 ∃ct:SV,eG.cell? ((⟨r1,0,none⟩:Addr).add 1)=some (.slice ct.a ct.len ct.cap)/\
 Calls prog 161 #[.slice ct.a ct.len ct.cap] eG λe dB=>
 ∃bo:Int,e=.returned (.int .i64 bo)/\
 Calls prog 202 #[.int .i64 bo,.int .i64 2] dB λe fW=>
 ∃bZ:SV,e=.returned (.slice bZ.a bZ.len bZ.cap)/\
 ∃ez:SV,∃dN:World,(Builtin.append_ #[22,22] 22 #[.slice cj.a cj.len cj.cap,.slice bZ.a bZ.len bZ.cap]).run prog fW=.ok (.slice ez.a ez.len ez.cap) dN/\
 ∃fq:SV,dN.cell? ((⟨r1,0,none⟩:Addr).add 1)=some (.slice fq.a fq.len fq.cap)/\
 alE (.cells #[.int .u8 (IntKind.u8.wrap ((fq.len:Nat):Int)),.int .u8 0] 5) dN λqZ fg=>
 ∃jw:SV,∃fH:World,(Builtin.append_ #[22,22] 22 #[.slice ez.a ez.len ez.cap,.slice (some ⟨qZ,0,none⟩) 2 2]).run prog fg=.ok (.slice jw.a jw.len jw.cap) fH/\
 ∃cV:SV,fH.cell? ((⟨r1,0,none⟩:Addr).add 1)=some (.slice cV.a cV.len cV.cap)/\
 yQH R jw cV ((cV.len:Nat):Int) 0 ds fH
theorem yQw {l:List Fld} {k:Nat} {f:Fld} (h:l[k]?=some f):(l.take (k+1)).flatMap zQS=(l.take k).flatMap zQS ++ zQS f:=by
 rw[zQK h,List.flatMap_append];simp
theorem yJR{l:List Fld}(h:∀f ∈ l,f.name.size<=10):(l.flatMap zQS).length<=16 * l.length:=by
 induction l with
 | nil=>simp
 | cons f l ih=>
  rw[List.flatMap_cons,List.length_append,zZb (h f (by simp)),List.length_cons]
  have:=ih λg hg=>h g (by simp[hg])
  omega
theorem zYF(l:List UInt8):Lib.byteCells l=l.map u8V:=rfl
def yWw(n:Nat):List Value:=List.replicate n (.int .u8 0)
def zXW(s:ByteArray)(a b c:Value):Array Value:=(s.data.toList.map u8V ++ (List.replicate (10 - s.size) 0).map u8V ++ [a,b,c,.int .u8 0,.int .u8 0,.int .u8 0]).toArray
theorem yXI{s:ByteArray}(h:s.size<=10)(a b c:Value):(zXW s a b c).size=16:=by
 unfold zXW;simp only[List.size_toArray,List.length_append,List.length_map,zQv,List.length_replicate,List.length_cons,List.length_nil];omega
theorem yQx{s:ByteArray}(h:s.size<=10)(a b c v:Value):(zXW s a b c).setIfInBounds 10 v=zXW s v b c:=by
 unfold zXW
 apply Array.toList_inj.1
 rw[Array.toList_setIfInBounds]
 simp only
 rw[List.set_append_right _ _ (by simp only[List.length_append,List.length_map,zQv,List.length_replicate];omega)]
 simp only[List.length_append,List.length_map,zQv,List.length_replicate]
 rw[show 10 - (s.size+(10 - s.size))=0 by omega];rfl
theorem yQu{s:ByteArray}(h:s.size<=10)(a b c v:Value):(zXW s a b c).setIfInBounds 11 v=zXW s a v c:=by
 unfold zXW
 apply Array.toList_inj.1
 rw[Array.toList_setIfInBounds]
 simp only
 rw[List.set_append_right _ _ (by simp only[List.length_append,List.length_map,zQv,List.length_replicate];omega)]
 simp only[List.length_append,List.length_map,zQv,List.length_replicate]
 rw[show 11 - (s.size+(10 - s.size))=1 by omega];rfl
theorem yQV{s:ByteArray}(h:s.size<=10)(a b c v:Value):(zXW s a b c).setIfInBounds 12 v=zXW s a b v:=by
 unfold zXW
 apply Array.toList_inj.1
 rw[Array.toList_setIfInBounds]
 simp only
 rw[List.set_append_right _ _ (by simp only[List.length_append,List.length_map,zQv,List.length_replicate];omega)]
 simp only[List.length_append,List.length_map,zQv,List.length_replicate]
 rw[show 12 - (s.size+(10 - s.size))=2 by omega];rfl
theorem zKR(f:Fld):zXW f.name (u8V (zYi f.kind)) (u8V (zZr f.width)) (u8V (xZT f.null))=((zQS f).map u8V).toArray:=by
 unfold zXW zQS
 simp only[List.map_append,List.map_cons,List.map_nil];rfl
theorem yVw {w:World} {r:Nat} {s:ByteArray} (hb:w.heap[r]?=some (.cells (yWw 16).toArray 227)) (hs:s.size<=10) :
  ∃(n:Int) (w':World),(Builtin.copy_ #[22,9] 3 #[.slice (some ⟨r,0,none⟩) 10 10,.string s]).run prog w=.ok (.int .i64 n) w'/\w'.heap[r]?=some (.cells (zXW s (.int .u8 0) (.int .u8 0) (.int .u8 0)) 227)/\Fr (·=r) w w':=by
 have h:=Lib.run_copy_row_string (P:=prog) w 22 9 3 5 r 0 10 10 s (yWw 16).toArray 227 u37 (by have:=yJj;simp only[Option.map_eq_some_iff]at *;obtain⟨i,h1,h2⟩:=this;exact⟨i,h1,by simp at h2;exact h2.2.1⟩) hb (by omega) (by simp[yWw];omega)
 refine⟨_,_,h,?_,?_⟩
 ·rw[setRow_heap w r _ _ 227 (0,0) hb]
  congr 2
  unfold zXW
  rw[zYF]
  simp only[List.take_zero,List.nil_append,Nat.zero_add,yWw]
  rw[List.drop_replicate]
  apply Array.toList_inj.1
  simp only[List.append_assoc]
  congr 1
  have e:(List.replicate (10 - s.size) (0:UInt8)).map u8V=List.replicate (10 - s.size) (.int .u8 0):=by rw[List.map_replicate];rfl
  rw[e,show 16 - s.size=(10 - s.size)+6 by omega,←List.replicate_append_replicate];rfl
 ·exact⟨rfl,rfl,rfl,by simp,λk _ hk=>setRow_other w r k _ hk⟩
theorem yJz{ww w0 w:World}(hww:Pu ww w0){s l:SV}{fs:List Fld}{acc:List UInt8}(hz:w0.heap.size<=w.heap.size)(z7:Pu w0 w)(h:zXV w0 s fs)(hr:zQc w0 w l acc)(hall:fs.all zQo=true)(hn:fs.length<=16)(ha:acc.length<=100) :
  yQH (λe w'=>∃q:SV,e=.returned (.slice q.a q.len q.cap)/\zQc ww w' q (acc ++ fs.flatMap zQS ++ [13])/\Pu ww w') l s ((s.len:Nat):Int) 0 [] w:=by
 have hlen:=h.len
 have fh:∀f ∈ fs,f.name.size<=10:=λf hf=>(zQT (List.all_eq_true.1 hall f hf)).2.1
 refine zQD fs.length (λk t w'=>t.2=(k:Int)/\zQc w0 w' t.1 (acc ++ (fs.take k).flatMap zQS)/\Pu w0 w') ⟨rfl,by simpa using hr,z7⟩ ?_
 rintro k J ⟨t1,t2⟩ w2 hk ⟨h2,gl,ay⟩ hJ
 obtain rfl:t2=(k:Int):=h2
 have gl:zQc w0 w2 t1 (acc ++ (fs.take k).flatMap zQS):=gl
 have hfl:=yJR (l:=fs.take k) λf hf=>fh f (List.mem_of_mem_take hf)
 have htl:=List.length_take_le k fs
 dsimp only
 refine Br.of (λd=>?_) (λd=>?_)
 ·have aI:k<fs.length:=by have:=zQs d;omega
  obtain⟨f,hf⟩:=zXf aI
  have hfB:=List.all_eq_true.1 hall f (List.mem_of_getElem? hf)
  obtain⟨f1,f10,K,hK,hKl⟩:=zQT hfB
  obtain⟨a,ha',hi,_,_,_,c0,c1,c2,c3⟩:=zVj (h.pu ay) hf
  refine⟨a,ha',by omega,by omega,_,c0,_,c1,_,c2,_,c3,zYj rfl s23.symm rfl λw3 aC oX be=>alB λw4 aK cc=>zQe λw5 ba hh5=>?_⟩
  have sE:=(aK.trans ba).blk be
  have wE:w5.heap[w3.heap.size]?=some (.cells (yWw 16).toArray 227):=ba.blk cc
  have hlt:w2.heap.size<w3.heap.size:=zQ5 be
  have kz:Pu w0 w5:=((ay.trans aC).trans aK).trans ba
  refine⟨λu=>u=w5,rfl,f.name,λu hu=>by subst hu;exact cl0 sE,⟨some ⟨w3.heap.size,0,none⟩,10,10⟩,w5,yYC _ w5,rfl,?_⟩
  obtain⟨n,w6,e6,iB,jB⟩:=yVw wE f10
  refine⟨n,w6,e6,zQe λw7 dK zX=>?_⟩
  have sF:=dK.blk (jB.blk sE (show ¬w2.heap.size=w3.heap.size by omega))
  have sG:=dK.blk iB
  have kM:zQc w0 w7 t1 (acc ++ (fs.take k).flatMap zQS):=((((gl.pu aC).pu aK).pu ba).fr jB λb hb e=>by
   have aL:=gl.1.lt b hb
   have e:b=w3.heap.size:=e
   omega).pu dK
  have kA:Pu w0 w7:=(kz.andNew jB λi hi=>by have hi:i=w3.heap.size:=hi;have:=ay.size;omega).trans dK
  refine⟨λu=>u.heap[w2.heap.size]?=some (.cells #[.string f.name,.int .i64 f.kind,.int .i64 f.width,.bool f.null] 129),sF,f.kind,λu hu=>cl hu 1,f.width,λu hu=>cl hu 2,(zKN w7).mono ?_⟩
  rintro e w8 ⟨m,rfl,hm,tQ,bM⟩
  have wF:=bM.blk sG
  have sH:=bM.blk sF
  have hsz:∀a b c,(zXW f.name a b c).size=16:=yXI f10
  have z3:w3.heap.size<w7.heap.size:=zQ5 sG
  refine⟨some m,rfl,λu=>u.heap[w2.heap.size]?=some (.cells #[.string f.name,.int .i64 f.kind,.int .i64 f.width,.bool f.null] 129)/\zXl u yVF zWP m zX7,⟨sH,hm⟩,λu hu=>hu.1,K.letter,K.least,K.most,.func (.func K.wr) #[] #[],.func (.func K.rd) #[] #[],λu hu=>?_,by omega,by omega,?_⟩
  ·have:=zKc hu.2 f.kind false
   rw[hK]at this;exact this
  ·show st1 ((⟨w3.heap.size,0,none⟩:Addr).add 10) _ w8 _
   rw[zQn,Nat.zero_add]
   refine zQw wF (by rw[hsz];omega) λw9 tR kB=>?_
   have lJ:Fr (·=w3.heap.size) w8 w9:=by rw[tR];exact Fr.cell w8 _ 10 _
   rw[yQx f10,hKl]at kB
   have sI:=lJ.blk sH (show ¬w2.heap.size=w3.heap.size by omega)
   refine⟨λu=>u.heap[w2.heap.size]?=some (.cells #[.string f.name,.int .i64 f.kind,.int .i64 f.width,.bool f.null] 129)/\zXl u yVF zWP m zX7,⟨sI,hm.fr lJ (by omega)⟩,λu hu=>hu,by omega,by omega,?_⟩
   show st1 ((⟨w3.heap.size,0,none⟩:Addr).add 11) _ w9 _
   rw[zQn,Nat.zero_add]
   refine zQw kB (by rw[hsz];omega) λaM pz dZ=>?_
   have jO:Fr (·=w3.heap.size) w9 aM:=by rw[pz];exact Fr.cell w9 _ 11 _
   rw[yQu f10,zZC]at dZ
   have kb:=jO.blk sI (show ¬w2.heap.size=w3.heap.size by omega)
   -- behind the last store
   have fin:∀{aQ:World},Fr (·=w3.heap.size) aM aQ->aQ.heap[w3.heap.size]?=some (.cells ((zQS f).map u8V).toArray 227)->
     ∃eY:SV,∃aR:World,(Builtin.append_ #[22,22] 22 #[.slice t1.a t1.len t1.cap,.slice (some (if 16=0 then(⟨w3.heap.size,0,none⟩:Addr)else(⟨w3.heap.size,0,none⟩:Addr).add (0 * 1))) (16 - 0) (16 - 0)]).run prog aQ=.ok (.slice eY.a eY.len eY.cap) aR/\J (eY,(IntKind.i64.wrap ((k:Int)+1))) aR:=λ{aQ} iD eg=>by
    have hfa:Fr (·=w3.heap.size) w8 aQ:=(lJ.trans jO λ_ h _=>h).trans iD λ_ h _=>h
    have lq:zQc w0 aQ t1 (acc ++ (fs.take k).flatMap zQS):=(kM.pu bM).fr hfa λb hb e=>by
     have aL:=gl.1.lt b hb
     have e:b=w3.heap.size:=e
     omega
    have oZ:Pu w0 aQ:=(kA.trans bM).andNew hfa λi hi=>by have hi:i=w3.heap.size:=hi;have:=ay.size;omega
    obtain⟨s',aR,e12,wG,gm⟩:=lq.app oZ.size (m:=⟨some ⟨w3.heap.size,0,none⟩,16,16⟩) (news:=zQS f) (zZb f10).symm (λj b hj=>⟨_,rfl,by rw[zQn,zQ8 eg,Nat.zero_add];simp[hj]⟩) (by rw[zZb f10];simp only[List.length_append];omega)
    refine⟨s',aR,e12,?_⟩
    rw[zQa (by omega) (by omega)]
    refine hJ _ _ aI ⟨by dsimp only;omega,?_,oZ.andNew gm λi hi=>lq.2 i hi⟩
    rw[yQw hf,←List.append_assoc];exact wG
   refine⟨_,cl kb 3,Br.of (λd1=>⟨by omega,by omega,?_⟩) (λd1=>⟨by omega,by omega,fin (Fr.refl _ _) ?_⟩)⟩
   ·show st1 ((⟨w3.heap.size,0,none⟩:Addr).add 12) _ aM _
    rw[zQn,Nat.zero_add]
    refine zQw dZ (by rw[hsz];omega) λaQ wH eg=>⟨by omega,by omega,fin (by rw[wH];exact Fr.cell aM _ 12 _) ?_⟩
    rw[yQV f10]at eg
    rw[←zKR,d1];exact eg
   ·rw[←zKR,d1];exact dZ
 ·have aI:k=fs.length:=by have:=zQj d;omega
  subst aI
  rw[List.take_length]at gl hfl
  refine alB λw3 aC be=>?_
  obtain⟨s',w4,e4,wD,fX⟩:=(gl.pu aC).one (ay.trans aC).size (b:=13) be rfl (by simp only[List.length_append];omega)
  exact⟨s',w4,e4,s',rfl,wD.low hww.size,hww.trans ((ay.trans aC).andNew fX λi hi=>gl.2 i hi)⟩
theorem yYE {ww w0 bt:World} (hww:Pu ww w0) {t:Tbl} {f r bL:SV} {r1 bW:Nat} (h:zXB w0 t f r) (hvf:zQZ t.fields=0) (hrl:t.recs.length<=1000000) (hp:Pu w0 bt) (aD:w0.heap[r1]?=some (.cells #[.int .i64 t.page,.slice f.a f.len f.cap,.slice r.a r.len r.cap] 35)) (o8:w0.heap.size<=bW)
  (dZ:bt.heap[bW]?=some (.cells #[.int .u8 67,.int .u8 (IntKind.u8.wrap t.page)] 5)) (hl:zQc w0 bt bL (zWq t.recs.length 4)) :
  xZu (λe w'=>∃q:SV,e=.returned (.slice q.a q.len q.cap)/\zQc ww w' q (zKB t)/\Pu ww w') r1 bW bL [] bt:=by
 obtain⟨hne0,hall,hnd,wI,hw⟩:=zXt hvf
 have hfl:=h.fields.len
 rw[zZC]at dZ
 have box:zQc w0 bt ⟨some ⟨bW,0,none⟩,2,2⟩ [67,zZr t.page]:=zQc.box (l:=[67,zZr t.page]) dZ o8 (by simp)
 obtain⟨cZ,eu,e22,r15,f22⟩:=box.app hp.size (m:=bL) (news:=zWq t.recs.length 4) hl.len (λj b hj=>hl.cell hj) (by rw[zXp];simp)
 have sJ:Pu w0 eu:=hp.andNew f22 λi hi=>box.2 i hi
 refine⟨cZ,eu,e22,f,cl (sJ.blk aD) 1,?_⟩
 rw[hfl]
 refine(yQ4 t.fields.length (by omega) eu).mono ?_
 rintro e cy ⟨rfl,jp⟩
 refine⟨_,rfl,(yYO (13+16 * t.fields.length) 2 (by omega) cy).mono ?_⟩
 rintro e cS ⟨cU,rfl,tO,eP⟩
 have o0:=sJ.trans (jp.trans eP)
 have sK:=r15.pu (jp.trans eP)
 obtain⟨cj,eG,e25,r22,f25⟩:=sK.app o0.size (m:=cU) (news:=zWq (13+16 * t.fields.length) 2) tO.len (λj b hj=>tO.cell hj) (by simp only[List.length_append,zXp];simp)
 have iA:Pu w0 eG:=o0.andNew f25 λi hi=>sK.2 i hi
 refine⟨cU,rfl,cj,eG,e25,f,cl (iA.blk aD) 1,(zVZ (h.fields.pu iA) (WOk.of hall)).mono ?_⟩
 rintro e dB ⟨rfl,sL⟩
 have hs:=zZQ (WOk.of hall)
 have pC:zXE t.fields=((zXE t.fields).toNat:Int):=by unfold zXE at *;omega
 refine⟨_,rfl,?_⟩
 rw[show(Value.int .i64 (zXE t.fields))=.int .i64 (((zXE t.fields).toNat:Nat):Int)by rw[←pC]]
 refine(yYO (zXE t.fields).toNat 2 (by omega) dB).mono ?_
 rintro e fW ⟨bZ,rfl,yj,sM⟩
 have o1:=iA.trans (sL.trans sM)
 have sN:=r22.pu (sL.trans sM)
 obtain⟨ez,dN,e28,r28,f28⟩:=sN.app o1.size (m:=bZ) (news:=zWq (zXE t.fields).toNat 2) yj.len (λj b hj=>yj.cell hj) (by simp only[List.length_append,zXp];simp)
 have kC:Pu w0 dN:=o1.andNew f28 λi hi=>sN.2 i hi
 refine⟨bZ,rfl,ez,dN,e28,f,cl (kC.blk aD) 1,alB λfg kD sO=>?_⟩
 rw[zZC,hfl]at sO
 have o2:=kC.trans kD
 have wJ:zQc w0 fg ⟨some ⟨dN.heap.size,0,none⟩,2,2⟩ [zZr (t.fields.length:Int),0]:=zQc.box (l:=[zZr (t.fields.length:Int),0]) sO kC.size (by simp)
 have sP:=r28.pu kD
 obtain⟨jw,fH,e30,r35,f30⟩:=sP.app o2.size (m:=⟨some ⟨dN.heap.size,0,none⟩,2,2⟩) (news:=[zZr (t.fields.length:Int),0]) rfl (λj b hj=>wJ.cell hj) (by simp only[List.length_append,zXp];simp)
 have pD:Pu w0 fH:=o2.andNew f30 λi hi=>sP.2 i hi
 refine⟨jw,fH,e30,f,cl (pD.blk aD) 1,?_⟩
 exact yJz hww pD.size pD h.fields r35 hall wI (by simp only[List.length_append,zXp,List.length_cons,List.length_nil];omega)
theorem yYg{w:World}{t:Tbl}{f r:SV}(h:zXB w t f r)(hvf:zQZ t.fields=0)(hrl:t.recs.length<=1000000):Calls prog 157 #[zYq t f r] w λe w'=>∃q:SV,e=.returned (.slice q.a q.len q.cap)/\zQc w w' q (zKB t)/\Pu w w':=by
 refine yKy _ _ _ w _ ?_
 refine alB λw1 aA aD=>zQe λw2 ay yf=>?_
 have dW:=aA.trans ay
 have aL:=ay.blk aD
 have hrlen:=h.recs.len
 have z1:=dW.size
 have up:∀{bt bW bL},Pu w2 bt->w2.heap.size<=bW->bt.heap[bW]?=some (.cells #[.int .u8 67,.int .u8 (IntKind.u8.wrap t.page)] 5)->zQc w2 bt bL (zWq t.recs.length 4)->
   xZu (λe w'=>∃q:SV,e=.returned (.slice q.a q.len q.cap)/\zQc w w' q (zKB t)/\Pu w w') w.heap.size bW bL [] bt:=λ{bt bW bL} q1 q2 q3 q4=>by
  exact yYE dW (h.pu dW) hvf hrl q1 aL q2 q3 q4
 refine⟨λu=>Pu w2 u,Pu.refl _,t.page,λu hu=>cl0 (hu.blk aL),r,λu hu=>cl (hu.blk aL) 2,?_⟩
 rw[hrlen]
 constructor
 ·refine alB λcf fU wK=>⟨fU,(yYO t.recs.length 4 (by omega) cf).mono ?_⟩
  rintro e bt ⟨bL,rfl,aB,lr⟩
  exact⟨bL,rfl,fU.trans lr,up (fU.trans lr) (Nat.le_refl _) (lr.blk wK) (aB.low fU.size)⟩
 ·refine(yYO t.recs.length 4 (by omega) w2).mono ?_
  rintro e eD ⟨bL,rfl,aB,jq⟩
  refine⟨bL,rfl,jq,alB λft pE wL=>⟨jq.trans pE,up (jq.trans pE) jq.size wL (aB.pu pE)⟩⟩
theorem zVu{t:Tbl}(h:zQh t=0):zQY t.page=true/\zQZ t.fields=0/\t.recs.length<=300/\zXg t.fields t.page t.recs=0:=by
 unfold zQh at h
 split at h
 ·rename_i hp
  split at h
  ·omega
  ·rename_i hf
   split at h
   ·omega
   ·rename_i hr
    exact⟨hp,by omega,by omega,h⟩
 ·omega
end Go.Proofs.YtaeecpjhfmcliaaGreatDoor
/- Table: the null flags of a record, as bytes. No condition. -/
namespace Go.Proofs.YtaeecpjhfmcliaaGreatDoor
open Go.Sh Go.RowKit Tryz
def zJc(bs:List Bool)(i j:Nat):Nat:=if bs[8 * i+j]?=some true then 2 ^ j else 0
def zXC(bs:List Bool)(i:Nat):Nat:=zJc bs i 0+zJc bs i 1+zJc bs i 2+zJc bs i 3+zJc bs i 4+zJc bs i 5+zJc bs i 6+zJc bs i 7
def flN(N:Nat)(bs:List Bool):List UInt8:=(List.range N).map λi=>UInt8.ofNat (zXC bs i)
theorem zKI(N:Nat)(bs:List Bool):(flN N bs).length=N:=by simp[flN]
theorem xJt(N:Nat):flN N []=List.replicate N 0:=by
 unfold flN
 apply List.ext_getElem?
 intro i
 simp only[List.getElem?_map,List.getElem?_replicate]
 by_cases h:i<N
 ·rw[List.getElem?_range h,if_pos h];rfl
 ·rw[if_neg h,List.getElem?_eq_none (by simp;omega)];rfl
theorem zVx(bs:List Bool)(k:Nat):((bs ++ [false])[k]?=some true) ↔ (bs[k]?=some true):=by
 rcases Nat.lt_trichotomy k bs.length with h|h|h
 ·rw[List.getElem?_append_left h]
 ·subst h;simp
 ·rw[List.getElem?_eq_none (by simp;omega),List.getElem?_eq_none (by omega)]
theorem zZJ(bs:List Bool)(k:Nat):((bs ++ [true])[k]?=some true) ↔ (bs[k]?=some true∨k=bs.length):=by
 rcases Nat.lt_trichotomy k bs.length with h|h|h
 ·rw[List.getElem?_append_left h];constructor
  ·exact .inl
  ·rintro(h1|h1)
   ·exact h1
   ·omega
 ·subst h;simp
 ·rw[List.getElem?_eq_none (by simp;omega),List.getElem?_eq_none (by omega)];simp;omega
theorem yVz(N:Nat)(bs:List Bool):flN N (bs ++ [false])=flN N bs:=by
 unfold flN zXC zJc
 simp only[zVx]
theorem zX1{bs:List Bool}{q r:Nat}(hm:bs.length=8 * q+r)(hr:r<8)(i j:Nat)(hj:j<8):zJc (bs ++ [true]) i j=zJc bs i j+(if i=q/\j=r then 2 ^ j else 0):=by
 unfold zJc
 by_cases h:8 * i+j=bs.length
 ·have h1:i=q/\j=r:=by omega
  have h2:¬bs[8 * i+j]?=some true:=by rw[List.getElem?_eq_none (by omega)];simp
  rw[if_pos ((zZJ _ _).2 (.inr h)),if_neg h2,if_pos h1];omega
 ·have h1:¬(i=q/\j=r):=by omega
  rw[if_neg h1,Nat.add_zero]
  by_cases h2:bs[8 * i+j]?=some true
  ·rw[if_pos ((zZJ _ _).2 (.inl h2)),if_pos h2]
  ·rw[if_neg (λh3=>((zZJ _ _).1 h3).elim h2 h),if_neg h2]
theorem yXF{bs:List Bool}{q r:Nat}(hm:bs.length=8 * q+r)(hr:r<8)(i:Nat):zXC (bs ++ [true]) i=zXC bs i+(if i=q then 2 ^ r else 0):=by
 unfold zXC
 rw[zX1 hm hr i 0 (by omega),zX1 hm hr i 1 (by omega),zX1 hm hr i 2 (by omega),zX1 hm hr i 3 (by omega),zX1 hm hr i 4 (by omega),zX1 hm hr i 5 (by omega),zX1 hm hr i 6 (by omega),zX1 hm hr i 7 (by omega)]
 by_cases h:i=q
 ·simp only[h,true_and,if_true]
  rcases(by omega:r=0∨r=1∨r=2∨r=3∨r=4∨r=5∨r=6∨r=7)with rfl|rfl|rfl|rfl|rfl|rfl|rfl|rfl <;> simp <;> omega
 ·simp[h]
theorem zZP(bs:List Bool)(i j:Nat):zJc bs i j<=2 ^ j:=by
 unfold zJc;split
 ·exact Nat.le_refl _
 ·exact Nat.zero_le _
theorem yKm{bs:List Bool}{q r j:Nat}(hm:bs.length=8 * q+r)(hj:r<=j):zJc bs q j=0:=by
 unfold zJc;rw[if_neg];rw[List.getElem?_eq_none (by omega)];simp
theorem yKS{bs:List Bool}{q r:Nat}(hm:bs.length=8 * q+r)(hr:r<8):zXC bs q<2 ^ r:=by
 have z:∀j,r<=j->zJc bs q j=0:=λj hj=>yKm hm hj
 have l0:=zZP bs q 0
 have l1:=zZP bs q 1
 have l2:=zZP bs q 2
 have l3:=zZP bs q 3
 have l4:=zZP bs q 4
 have l5:=zZP bs q 5
 have l6:=zZP bs q 6
 unfold zXC
 rcases(by omega:r=0∨r=1∨r=2∨r=3∨r=4∨r=5∨r=6∨r=7)with rfl|rfl|rfl|rfl|rfl|rfl|rfl|rfl
 ·rw[z 0 (by omega),z 1 (by omega),z 2 (by omega),z 3 (by omega),z 4 (by omega),z 5 (by omega),z 6 (by omega),z 7 (by omega)];omega
 ·rw[z 1 (by omega),z 2 (by omega),z 3 (by omega),z 4 (by omega),z 5 (by omega),z 6 (by omega),z 7 (by omega)];omega
 ·rw[z 2 (by omega),z 3 (by omega),z 4 (by omega),z 5 (by omega),z 6 (by omega),z 7 (by omega)];omega
 ·rw[z 3 (by omega),z 4 (by omega),z 5 (by omega),z 6 (by omega),z 7 (by omega)];omega
 ·rw[z 4 (by omega),z 5 (by omega),z 6 (by omega),z 7 (by omega)];omega
 ·rw[z 5 (by omega),z 6 (by omega),z 7 (by omega)];omega
 ·rw[z 6 (by omega),z 7 (by omega)];omega
 ·rw[z 7 (by omega)];omega
theorem yYe{N:Nat}{bs:List Bool}{q r:Nat}(hm:bs.length=8 * q+r)(hr:r<8)(hq:q<N):flN N (bs ++ [true])=(flN N bs).set q (UInt8.ofNat (zXC bs q+2 ^ r)):=by
 apply List.ext_getElem?
 intro i
 rw[List.getElem?_set]
 unfold flN
 simp only[List.length_map,List.length_range,List.getElem?_map]
 by_cases hi:i<N
 ·rw[List.getElem?_range hi]
  simp only[Option.map_some,yXF hm hr]
  by_cases h:q=i
  ·subst h;rw[if_pos rfl,if_pos rfl,if_pos hi]
  ·rw[if_neg (λe=>h e.symm),if_neg h,Nat.add_zero]
 ·rw[List.getElem?_eq_none (by simp;omega)]
  by_cases h:q=i
  ·omega
  ·rw[if_neg h];rfl
theorem xZ2{N:Nat}{bs:List Bool}{q:Nat}(hq:q<N):(flN N bs)[q]?=some (UInt8.ofNat (zXC bs q)):=by
 unfold flN;rw[List.getElem?_map,List.getElem?_range hq];rfl
theorem or_bit:∀r:Nat,r<8->∀x:Nat,x<2 ^ r->(BitVec.ofInt 8 (x:Int) ||| BitVec.ofInt 8 (IntKind.u8.wrap ((1:Int) * 2 ^ (min r 8)))).toNat=x+2 ^ r:=by decide +kernel
def zQV:List Fld->List Val->List Bool
 | [],_=>[]
 | _,[]=>[]
 | f :: fs,v :: vs=>if f.null then decide (v.kind=0) :: zQV fs vs else zQV fs vs
theorem zVH:∀{l:List Fld} {vs:List Val} {k:Nat} {f:Fld} {v:Val},l[k]?=some f->vs[k]?=some v->zQV (l.take (k+1)) (vs.take (k+1))=zQV (l.take k) (vs.take k) ++ (if f.null then [decide (v.kind=0)]else [])
 | [],_,_,_,_,h,_=>by simp at h
 | _ :: _,[],_,_,_,_,h=>by simp at h
 | a :: l,b :: vs,0,f,v,h,h2=>by
  simp at h h2;subst h h2
  simp only[List.take_succ_cons,List.take_zero,zQV]
  split <;> simp
 | a :: l,b :: vs,k+1,f,v,h,h2=>by
  have ih:=zVH (l:=l) (vs:=vs) (k:=k) (f:=f) (v:=v) (by simpa using h) (by simpa using h2)
  simp only[List.take_succ_cons,zQV]
  by_cases hn:a.null=true
  ·rw[if_pos hn,if_pos hn];rw[ih];rfl
  ·rw[if_neg hn,if_neg hn];exact ih
theorem zKg:∀(l:List Fld) (vs:List Val),(zQV l vs).length<=(l.filter (·.null)).length
 | [],_=>by simp[zQV]
 | _ :: _,[]=>by simp[zQV]
 | f :: l,v :: vs=>by
  have:=zKg l vs
  unfold zQV
  rw[List.filter_cons]
  by_cases hn:f.null=true
  ·rw[if_pos hn,if_pos hn];simp only[List.length_cons];omega
  ·rw[if_neg hn,if_neg hn];exact this
end Go.Proofs.YtaeecpjhfmcliaaGreatDoor
/- Table: the program's row of a record. No condition. -/
namespace Go.Proofs.YtaeecpjhfmcliaaGreatDoor
open Go.Sh Go.RowKit Tryz
def yXH (J1:(Int × Int)->World->Prop) (bW cg:Nat) (p7:Option Addr) (n8 n22:Int) (aQ:World):Prop:=
 ∃fj:Int,aQ.cell? (⟨cg,0,none⟩:Addr)=some (.int .i64 fj)/\
 Br (fj == 0) (
 ∃i7:Int,aQ.cell? ((⟨bW,0,none⟩:Addr).add 2)=some (.int .i64 i7)/\
 Calls prog 155 #[.string (⟨#[32]⟩:ByteArray),.int .i64 i7] aQ λe dN=>
 ∃jT:ByteArray,e=.returned (.string jT)/\
 Calls prog 199 #[.pointer p7,.string jT] dN λe fg=>
 ∃dQ:Int,∃fI:Value,e=.returned (.tuple #[.int .i64 dQ,fI])/\
 J1 (n8,(IntKind.i64.wrap (n22+1))) fg) (
 dwE aQ λfH=>
 ∃S6:World->Prop,S6 fH/\
 ∃kT:Int,(∀w',S6 w'->w'.cell? ((⟨bW,0,none⟩:Addr).add 1)=some (.int .i64 kT))/\
 ∃df:ByteArray,(∀w',S6 w'->w'.cell? ((⟨bW,0,none⟩:Addr).add 0)=some (.string df))/\
 ∃dg:Int,(∀w',S6 w'->w'.cell? ((⟨bW,0,none⟩:Addr).add 1)=some (.int .i64 dg))/\
 ∃dk:Int,(∀w',S6 w'->w'.cell? ((⟨bW,0,none⟩:Addr).add 2)=some (.int .i64 dk))/\
 ∃dm:Bool,(∀w',S6 w'->w'.cell? ((⟨bW,0,none⟩:Addr).add 3)=some (.bool dm))/\
 ∃cn:Int,(∀w',S6 w'->w'.cell? ((⟨cg,0,none⟩:Addr).add 0)=some (.int .i64 cn))/\
 ∃dp:Int,(∀w',S6 w'->w'.cell? ((⟨cg,0,none⟩:Addr).add 1)=some (.int .i64 dp))/\
 ∃dq:ByteArray,(∀w',S6 w'->w'.cell? ((⟨cg,0,none⟩:Addr).add 2)=some (.string dq))/\
 Calls prog 145 #[] fH λe eD=>
 ∃kU:Option Nat,e=.returned (.map kU)/\
 ∃S7:World->Prop,S7 eD/\(∀u,S7 u->S6 u)/\
 ∃fJ:Int,∃dR:Int,∃dS:Int,∃dr:Value,∃fK:Value,(∀w',S7 w'->(Instr.lookup 176 (.map kU) (.int .i64 kT) false).run prog w'=.ok (.agg #[.int .u8 fJ,.int .i64 dR,.int .i64 dS,dr,fK]) w')/\
 fnE dr λf63 first63 fL=>
 zQt prog f63=true/\Calls prog f63 (first63.toList ++ (([.agg #[.string df,.int .i64 dg,.int .i64 dk,.bool dm],.agg #[.int .i64 cn,.int .i64 dp,.string dq]]:List Value) ++ fL.toList)).toArray eD λe ft=>
 ∃kV:ByteArray,e=.returned (.string kV)/\
 Calls prog 199 #[.pointer p7,.string kV] ft λe iK=>
 ∃fM:Int,∃fN:Value,e=.returned (.tuple #[.int .i64 fM,fN])/\
 J1 (n8,(IntKind.i64.wrap (n22+1))) iK)
theorem yY4{B:Nat}{w w':World}(h:Below B w w'):Fr (B<=·) w w':=⟨h.os,h.tape,h.output,h.size,λk _ hk=>h.block k (by omega)⟩
theorem yZn{T e:TypeId}{B b:Nat}{xs:List Value}{Bs:Nat->Prop}{w w':World}(h:Lib.IsBuilderF T e B b xs w)(hf:Fr Bs w w')(hn:∀i,B<=i->¬Bs i):Lib.IsBuilderF T e B b xs w':=by
 have one:∀{p},Lib.BuilderAtF T e B b p xs w->Lib.BuilderAtF T e B b p xs w':=by
  rintro p ⟨hB,v,hb,⟨hl,ho⟩,hne⟩
  refine⟨hB,v,hf.blk hb (hn b hB),⟨hl,?_⟩,hne⟩
  rcases ho with ho|⟨g,cap,cur,fz,h1,h2,h3,h4⟩
  ·exact .inl ho
  ·exact .inr ⟨g,cap,cur,fz,h1,h2,hf.blk h3 (hn g h2),h4⟩
 exact h.elim (λh=>.inl (one h)) (λh=>.inr (one h))
theorem xZW {w:World} {b:Nat} (hb:w.heap[b]?=some (.cells #[.pointer none,.slice none 0 0] 220)):Lib.IsBuilderF 220 5 b b (Lib.byteCells []) w:=
 .inl ⟨Nat.le_refl _,.slice none 0 0,hb,⟨rfl,.inl ⟨rfl,rfl⟩⟩,by simp[Value.ownBlock]⟩
theorem zKh {w:World} {B b:Nat} {acc:List UInt8} (s:List UInt8) (h:Lib.IsBuilderF 220 5 B b (Lib.byteCells acc) w) (hl:acc.length+s.length<=140737488355328) (hB:B<=w.heap.size) :
  Calls prog 199 #[.pointer (some ⟨b,0,none⟩),.string (bs s)] w λe w'=>e=.returned (.tuple #[.int .i64 (s.length:Nat),.nilIface])/\Lib.IsBuilderF 220 5 B b (Lib.byteCells (acc ++ s)) w'/\Below B w w':=by
 refine(Any.Builder_WriteString_k Tryz.lays166 Tryz.Builder_Extra_105 B b (Lib.byteCells acc) (bs s) w h (by rw[Lib.byteCells_length,zQ2];exact hl) hB).mono ?_
 rintro e w' ⟨rfl,h1,h2,_⟩
 refine⟨by rw[zQ2],?_,h2⟩
 have e1:Lib.byteCells (acc ++ s)=Lib.byteCells acc ++ Lib.strCells (bs s):=by
  unfold Lib.byteCells Lib.strCells;rw[List.map_append,zQF]
 rw[e1]
 exact .inr h1
theorem u157:prog.underlying 243=some (.pointer 5):=by kernel_rfl
theorem yVt(w:World)(g n:Nat):Fr (·=g) w (w.freeze ⟨g,0,none⟩ n):=by
 unfold World.freeze
 split
 ·exact Fr.refl _ _
 ·refine⟨rfl,rfl,rfl,by simp,λk _ hk=>?_⟩
  have hk:¬g=k:=λe=>hk e.symm
  simp only[Array.getElem?_modify,hk,if_false]
theorem zJy {w:World} {B b:Nat} {acc:List UInt8} (h:Lib.IsBuilderF 220 5 B b (Lib.byteCells acc) w) (h0:acc ≠ []):∃g cap,B<=g/\w.cell? ⟨b,1,none⟩=some (.slice (some ⟨g,0,none⟩) acc.length cap)/\g<w.heap.size/\
  Calls prog 201 #[.pointer (some ⟨b,0,none⟩)] w λe w'=>e=.returned (.string (bs acc))/\Fr (·=g) w w':=by
 obtain⟨p,hB,v,hb,⟨hl,ho⟩,hne⟩:∃p,Lib.BuilderAtF 220 5 B b p (Lib.byteCells acc) w:=h.elim (λh=>⟨_,h⟩) (λh=>⟨_,h⟩)
 rw[Lib.byteCells_length]at ho
 have hpos:0<acc.length:=List.length_pos_iff.2 h0
 rcases ho with⟨_,hz⟩|⟨g,cap,cur,fz,rfl,hg,hgb,hfz,hcap,hmx,hcs,htk⟩
 ·omega
 rw[Nat.mul_one]at hcs htk
 refine⟨g,cap,hg,by rw[zQ8 hb];rfl,zQ5 hgb,?_⟩
 refine yJx _ w _ (zQe λw1 aA hh1=>?_)
 have aD:w1.heap[b]?=some (.cells #[p,.slice (some ⟨g,0,none⟩) acc.length cap] 220 (0,0)):=aA.blk hb
 have tw:w1.heap[g]?=some (.cells cur 5 fz):=aA.blk hgb
 refine⟨λu=>u=w1,rfl,⟨some ⟨g,0,none⟩,acc.length,cap⟩,λu hu=>by subst hu;exact cl aD 1,⟨some ⟨g,0,none⟩,acc.length,cap⟩,λu hu=>by subst hu;exact cl aD 1,some ⟨g,0,none⟩,w1,Lib.run_unsafeSliceData_row _ _ _ _ _ _ (show cap ≠ 0 by omega),rfl,bs acc,w1.freeze ⟨g,0,none⟩ acc.length,?_,rfl,?_⟩
 ·refine Lib.run_unsafeString_row w1 243 3 9 5 u157 (by kernel_rfl) g cur.size (by simp[World.shape?,tw]) acc h0 (by omega) (by unfold maxLen at hmx;omega) λj x hx=>?_
  rw[zQn,zQ8 tw,Nat.zero_add]
  have h1:(cur.toList.take acc.length)[j]?=some (.int .u8 x.toNat):=by rw[htk];simp[Lib.byteCells,hx]
  rw[List.getElem?_take]at h1
  split at h1
  ·simpa using h1
  ·cases h1
 ·exact(Fr.pu aA:Fr (·=g) w w1).trans (yVt w1 g _) λ_ h _=>h
theorem zQc.str{w0 w:World}{s:SV}{l:List UInt8}(h:zQc w0 w s l)(hz:w0.heap.size<=w.heap.size)(news:List UInt8)(hb:l.length+news.length<=70368744177664) :
  ∃(s':SV) (w':World),(Builtin.append_ #[22,9] 22 #[.slice s.a s.len s.cap,.string (bs news)]).run prog w=.ok (.slice s'.a s'.len s'.cap) w'/\zQc w0 w' s' (l ++ news)/\Fr (· ∈ zQb s) w w':=by
 have h1:=h.len
 have hi:=yJj
 obtain⟨i,h2,h3,h4,h5⟩:=info_parts hi
 have own:w.ownsRow 0 5 1 (.slice s.a s.len s.cap) s.len (l.map u8V):=h.1.owns
 have ml:w.ownsRow w0.heap.size 5 1 (.slice s.a s.len s.cap) s.len (l.map u8V):=by
  obtain⟨q1,q2⟩:=own
  refine⟨q1,?_⟩
  rcases q2 with q2|⟨g,cap,cur,q3,_,q4⟩
  ·exact .inl q2
  ·refine .inr ⟨g,cap,cur,q3,h.2 g ?_,q4⟩
   simp only[Value.slice.injEq]at q3
   simp[zQb,q3.1]
 obtain⟨v2,w2,gl,o3,hg,_⟩:=Lib.run_append_own_string (P:=prog) w w0.heap.size 22 9 22 5 i u37 u9 h2 h3 h4 h5 _ _ _ ml (bs news) (by rw[zQ2];unfold maxLen;omega) (by rw[zQ2];omega) hz
 have hs:Lib.strCells (bs news)=news.map u8V:=by unfold Lib.strCells;rw[zQF];rfl
 rw[hs,←List.map_append]at o3
 have hfr:Fr (· ∈ zQb s) w w2:=⟨hg.os,hg.tape,hg.output,hg.size,λk hk hn=>hg.block k hk (λe=>hn (by
  cases ha:s.a with
  | none=>rw[ha]at e;simp[Value.ownBlock]at e
  | some a=>rw[ha]at e;simp only[Value.ownBlock,Option.some.injEq]at e;simp[zQb,ha,e]))⟩
 obtain⟨q1,q2⟩:=o3
 rcases q2 with⟨q2,q3⟩|⟨g,cap,cur,q2,q3,q4,q5,q6,q7,q8⟩
 ·refine⟨⟨none,0,0⟩,w2,by rw[gl,q2],⟨⟨by rw[q1,q3],.inl rfl⟩,by simp[zQb]⟩,hfr⟩
 ·exact⟨⟨some ⟨g,0,none⟩,s.len+(bs news).size,cap⟩,w2,by rw[gl,q2],⟨⟨q1,.inr ⟨g,cur,rfl,q4,q5,q6,q7,q8⟩⟩,λb hb=>by simp[zQb]at hb;omega⟩,hfr⟩
theorem zQc.app' {w0 w:World} {s m:SV} {l news:List UInt8} (h:zQc w0 w s l) (hz:w0.heap.size<=w.heap.size) (hl:m.len=news.length) (hn:∀(j:Nat) (b:UInt8),news[j]?=some b->∃a,m.a=some a/\w.cell? (a.add j)=some (u8V b)) (hb:l.length+news.length<=70368744177664) :
  ∃(s':SV) (w':World),(Builtin.append_ #[22,22] 22 #[.slice s.a s.len s.cap,.slice m.a m.len m.cap]).run prog w=.ok (.slice s'.a s'.len s'.cap) w'/\zQc w0 w' s' (l ++ news)/\Fr (· ∈ zQb s) w w'/\∀k ∈ zQb s',k ∈ zQb s∨w.heap.size<=k:=by
 have h1:=h.len
 obtain⟨s',w',hr,hrow,hf,hblk,_⟩:=zJo (P:=prog) (ty:=22) u37 yJj rfl h.1 (m:=m) (news:=news.map u8V) (by simpa using hl) (λj u hu=>by
  obtain⟨b,hb,rfl⟩:∃b,news[j]?=some b/\u8V b=u:=by simpa using hu
  exact hn j b hb) (λu hu=>by simp at hu;obtain⟨x,_,rfl⟩:=hu;rfl) (by omega)
 refine⟨s',w',hr,⟨by rw[List.map_append];exact hrow,λb hb=>?_⟩,hf,hblk⟩
 rcases hblk b hb with h2|h2
 ·exact h.2 b h2
 ·omega
def zW4(sh:Fld->Val->List UInt8)(f:Fld)(v:Val):List UInt8:=if v.kind=0 then List.replicate f.width.toNat 32 else sh f v
def yZa(sh:Fld->Val->List UInt8)(l:List Fld)(vs:List Val):Prop:=∀(i:Nat) f v,l[i]?=some f->vs[i]?=some v->v.kind ≠ 0->(sh f v).length<=1000/\∃K,zQJ f.kind=some K/\zQt prog K.wr=true/\
 ∀w,Calls prog K.wr #[yQA f,zKL v] w λe w'=>e=.returned (.string (bs (sh f v)))/\Pu w w'
theorem yWS {sh:Fld->Val->List UInt8} {w:World} {bW cg b:Nat} {f:Fld} {v:Val} {acc:List UInt8} {nb n22:Int} {J:(Int × Int)->World->Prop} (hw:0<=f.width/\f.width<=1000)
  (hW:v.kind ≠ 0->(sh f v).length<=1000/\∃K,zQJ f.kind=some K/\zQt prog K.wr=true/\∀w,Calls prog K.wr #[yQA f,zKL v] w λe w'=>e=.returned (.string (bs (sh f v)))/\Pu w w')
  (dZ:w.heap[bW]?=some (.cells #[.string f.name,.int .i64 f.kind,.int .i64 f.width,.bool f.null] 129)) (eg:w.heap[cg]?=some (.cells #[.int .i64 v.kind,.int .i64 v.n,.string v.s] 73))
  (hB:Lib.IsBuilderF 220 5 b b (Lib.byteCells acc) w) (hbs:b<w.heap.size) (ha:acc.length<=1000000)
  (hJ:∀w',Lib.IsBuilderF 220 5 b b (Lib.byteCells (acc ++ zW4 sh f v)) w'->Below b w w'->J (nb,IntKind.i64.wrap (n22+1)) w') :
  yXH J bW cg (some ⟨b,0,none⟩) nb n22 w:=by
 have pub:∀{w'},Pu w w'->Below b w w':=λh=>Below.mono h (by omega)
 refine⟨_,cl0 eg,Br.of (λd=>⟨_,cl dZ 2,?_⟩) (λd=>?_)⟩
 ·have ew:f.width=((f.width.toNat:Nat):Int):=by omega
  rw[show(Value.int .i64 f.width)=.int .i64 ((f.width.toNat:Nat):Int)by rw[←ew]]
  refine(zJ8 32 f.width.toNat (by omega) w).mono ?_
  rintro e w2 ⟨rfl,ay⟩
  refine⟨_,rfl,(zKh (List.replicate f.width.toNat 32) (yZn hB (Fr.pu ay:Fr (λ_=>False) w w2) λ_ _ h=>h) (by simp only[List.length_replicate];omega) (by have:=ay.size;omega)).mono ?_⟩
  rintro e w3 ⟨rfl,yk,hbl⟩
  have:zW4 sh f v=List.replicate f.width.toNat 32:=by unfold zW4;rw[if_pos (zXr d)]
  rw[←this]at yk
  exact⟨_,_,rfl,hJ w3 yk ((pub ay).trans hbl)⟩
 ·have d:=zQ9 d
  obtain⟨hlen,K,hK,hbody,hcall⟩:=hW d
  refine zQe λw2 ay yf=>⟨λu=>Pu w2 u,Pu.refl _,f.kind,λu hu=>cl (hu.blk (ay.blk dZ)) 1,f.name,λu hu=>cl (hu.blk (ay.blk dZ)) 0,f.kind,λu hu=>cl (hu.blk (ay.blk dZ)) 1,f.width,λu hu=>cl (hu.blk (ay.blk dZ)) 2,f.null,λu hu=>cl (hu.blk (ay.blk dZ)) 3,
   v.kind,λu hu=>cl (hu.blk (ay.blk eg)) 0,v.n,λu hu=>cl (hu.blk (ay.blk eg)) 1,v.s,λu hu=>cl (hu.blk (ay.blk eg)) 2,(zKN w2).mono ?_⟩
  rintro e w3 ⟨m,rfl,hm,_,aC⟩
  refine⟨some m,rfl,λu=>Pu w3 u,Pu.refl _,λu hu=>aC.trans hu,K.letter,K.least,K.most,.func (.func K.wr) #[] #[],.func (.func K.rd) #[] #[],λu hu=>?_,hbody,?_⟩
  ·have:=zKc (hm.pu hu) f.kind false
   rw[hK]at this;exact this
  refine(hcall w3).mono ?_
  rintro e w4 ⟨rfl,aK⟩
  have eP:=(ay.trans aC).trans aK
  refine⟨_,rfl,(zKh (sh f v) (yZn hB (Fr.pu eP:Fr (λ_=>False) w w4) λ_ _ h=>h) (by omega) (by have:=eP.size;omega)).mono ?_⟩
  rintro e w5 ⟨rfl,ym,hbl⟩
  have:zW4 sh f v=sh f v:=by unfold zW4;rw[if_neg d]
  rw[←this]at ym
  exact⟨_,_,rfl,hJ w5 ym ((pub eP).trans hbl)⟩
end Go.Proofs.YtaeecpjhfmcliaaGreatDoor
/- Table: the program's row of a record, walked. No condition. -/
namespace Go.Proofs.YtaeecpjhfmcliaaGreatDoor
open Go.Sh Go.RowKit Tryz
def yQv(b:Bool):UInt8:=if b then 42 else 32
def zXs(sh:Fld->Val->List UInt8)(l:List Fld)(vs:List Val):List UInt8:=(l.zip vs).flatMap λx=>zW4 sh x.1 x.2
def zZI(sh:Fld->Val->List UInt8)(l:List Fld)(r:Rec):List UInt8:=[yQv r.gone] ++ flN (zXb l) (zQV l r.v) ++ zXs sh l r.v
theorem zJP {sh:Fld->Val->List UInt8} {l:List Fld} {vs:List Val} {k:Nat} {f:Fld} {v:Val} (h:l[k]?=some f) (h2:vs[k]?=some v):zXs sh (l.take (k+1)) (vs.take (k+1))=zXs sh (l.take k) (vs.take k) ++ zW4 sh f v:=by
 unfold zXs
 rw[zQK h,zQK h2,List.zip_append (by
  have h1:=(List.getElem?_eq_some_iff.1 h).1
  have h3:=(List.getElem?_eq_some_iff.1 h2).1
  rw[List.length_take,List.length_take];omega),List.flatMap_append]
 simp
theorem yWH {sh:Fld->Val->List UInt8} {f:Fld} {v:Val} (hw:0<=f.width/\f.width<=254) (hs:v.kind ≠ 0->(sh f v).length<=1000):(zW4 sh f v).length<=1000:=by
 unfold zW4
 by_cases h:v.kind=0
 ·rw[if_pos h,List.length_replicate];omega
 ·rw[if_neg h];exact hs h
theorem zV1{sh:Fld->Val->List UInt8}{l:List Fld}{vs:List Val}(hw:WOk l)(hW:yZa sh l vs):∀k,k<=l.length->k<=vs.length->(zXs sh (l.take k) (vs.take k)).length<=1000 * k
 | 0,_,_=>by simp[zXs]
 | k+1,h1,h2=>by
  obtain⟨f,hf⟩:=zXf (show k<l.length by omega)
  obtain⟨v,hv⟩:=zXf (show k<vs.length by omega)
  rw[zJP hf hv,List.length_append]
  have:=zV1 hw hW k (by omega) (by omega)
  have:=yWH (sh:=sh) (v:=v) (hw f (List.mem_of_getElem? hf)) (λh=>(hW k f v hf hv h).1)
  omega
theorem zXN(l:List Fld)(k:Nat):((l.take k).filter (·.null)).length<=(l.filter (·.null)).length:=((List.take_sublist k l).filter _).length_le
structure yXK(w:World)(r3 kh b:Nat)(t l6:SV)(g:Bool)(N:Nat)(bits:List Bool)(acc:List UInt8)(w':World):Prop where
 pu:Pu w w'
 rcd:w'.heap[r3]?=some (.cells #[.bool g,.slice t.a t.len t.cap] 67)
 out:w'.heap[kh]?=some (.cells #[u8V (yQv g)] 5)
 fl:zQc w w' l6 (flN N bits)
 bld:Lib.IsBuilderF 220 5 b b (Lib.byteCells acc) w'
 lt:b<w'.heap.size
theorem yXK.below {w:World} {r3 kh b:Nat} {t l6:SV} {g:Bool} {N:Nat} {bits:List Bool} {acc acc':List UInt8} {w' w2:World} (h:yXK w r3 kh b t l6 g N bits acc w') (h3:r3<b) (kN:kh<b) (h6:∀k ∈ zQb l6,k<b) (hb:w.heap.size<=b) (hB:Below b w' w2) (hbld:Lib.IsBuilderF 220 5 b b (Lib.byteCells acc') w2):yXK w r3 kh b t l6 g N bits acc' w2:=
 ⟨Below.trans h.pu (hB.mono hb),by rw[hB.block _ h3];exact h.rcd,by rw[hB.block _ kN];exact h.out,h.fl.fr (yY4 hB) λk hk e=>by have:=h6 k hk;have e:b<=k:=e;omega,hbld,Nat.lt_of_lt_of_le h.lt hB.size⟩
theorem row_c {w:World} {sh:Fld->Val->List UInt8} {l:List Fld} {s t:SV} {r:Rec} (h:zXV w s l) (hr:zXV w t r.v) (hl:r.v.length=l.length) (fv:l.length<=16) (hwid:WOk l) (hW:yZa sh l r.v) (hne:zXs sh l r.v ≠ []) :
  Calls prog 158 #[.slice s.a s.len s.cap,.agg #[.bool r.gone,.slice t.a t.len t.cap]] w λe w'=>∃q:SV,e=.returned (.slice q.a q.len q.cap)/\zQc w w' q (zZI sh l r)/\Pu w w':=by
 refine yJL _ _ _ w _ ?_
 have hsl:=h.len
 have htl:=hr.len
 have hnl:=zY6 l
 have hN0:(zXb l)=((l.filter (·.null)).length+7) / 8:=rfl
 refine alB λw1 aA aD=>alB λw2 ay aL=>⟨_,cl0 (ay.blk aD),?_⟩
 have l1:w.heap.size<w1.heap.size:=zQ5 aD
 have l2:w1.heap.size<w2.heap.size:=zQ5 aL
 have aJ:=aA.trans ay
 -- behind the first byte
 have main:∀{w3:World},Pu w w3->w3.heap[w.heap.size]?=some (.cells #[.bool r.gone,.slice t.a t.len t.cap] 67)->w3.heap[w1.heap.size]?=some (.cells #[u8V (yQv r.gone)] 5)->
   Calls prog 203 #[.slice s.a s.len s.cap] w3 λe lP=>∃iI:Int,e=.returned (.int .i64 iI)/\∃cu:SV,∃fZ:World,(Instr.makeSlice 22 (.int .i64 iI) (.int .i64 iI)).run prog lP=.ok (.slice cu.a cu.len cu.cap) fZ/\
    alE (.cells #[.pointer none,.slice none 0 0] 220) fZ λr7 rf=>
    yZA (λe w'=>∃q:SV,e=.returned (.slice q.a q.len q.cap)/\zQc w w' q (zZI sh l r)/\Pu w w') (some (⟨w.heap.size,0,none⟩:Addr)) ⟨(some ⟨w1.heap.size,0,none⟩),1,1⟩ cu (some (⟨r7,0,none⟩:Addr)) 0 s ((s.len:Nat):Int) 0 [] rf:=λ{w3} aC be sQ=>by
  refine(zJV (h.pu aC)).mono ?_
  rintro e w4 ⟨rfl,aK⟩
  obtain⟨i,i1,i2,i3,i4⟩:=info_parts yJj
  obtain⟨w5,e5,sR,ba,s5⟩:=zYB (P:=prog) (w:=w4) u37 i1 i2 i3 .i64 .i64 (zXb l) (by rw[i4];omega) (by omega)
  refine⟨_,rfl,⟨some ⟨w4.heap.size,0,none⟩,zXb l,zXb l⟩,w5,e5,alB λw6 cW iB=>?_⟩
  have l3:w1.heap.size<w3.heap.size:=zQ5 sQ
  have z4:w3.heap.size<=w4.heap.size:=aK.size
  have fl6:zQc w w6 ⟨some ⟨w4.heap.size,0,none⟩,zXb l,zXb l⟩ (flN (zXb l) []):=by
   refine⟨(?_:zQi w5 5 1 _ _).pu cW,λb hb=>by simp[zQb]at hb;have:=aC.size;omega⟩
   rw[xJt,List.map_replicate]
   rw[show(Value.int IntKind.u8 0).cells=#[.int .u8 0]from rfl,toList_madeCells_one,Nat.mul_one]at sR
   exact sR
  have qn:yXK w w.heap.size w1.heap.size w5.heap.size t ⟨some ⟨w4.heap.size,0,none⟩,zXb l,zXb l⟩ r.gone (zXb l) [] [] w6:=
   ⟨((aC.trans aK).trans ba).trans cW,((aK.trans ba).trans cW).blk be,((aK.trans ba).trans cW).blk sQ,fl6,xZW iB,zQ5 iB⟩
  have c3:w.heap.size<w5.heap.size:=by omega
  have c12:w1.heap.size<w5.heap.size:=by omega
  have c6:∀k ∈ zQb (⟨some ⟨w4.heap.size,0,none⟩,zXb l,zXb l⟩:SV),k<w5.heap.size:=λk hk=>by simp[zQb]at hk;omega
  have pF:w.heap.size<=w5.heap.size:=by omega
  generalize pG:(⟨some ⟨w4.heap.size,0,none⟩,zXb l,zXb l⟩:SV)=l6 at *
  have hl6len:l6.len=zXb l:=by rw[←pG]
  refine zQD l.length (λk u w'=>u.2=(k:Int)/\u.1=((zQV (l.take k) (r.v.take k)).length:Nat)/\yXK w w.heap.size w1.heap.size w5.heap.size t l6 r.gone (zXb l) (zQV (l.take k) (r.v.take k)) (zXs sh (l.take k) (r.v.take k)) w') ⟨rfl,rfl,qn⟩ ?_
  rintro k J ⟨u1,u2⟩ w7 hk ⟨sT,hu1,st⟩ hJ
  obtain rfl:u2=(k:Int):=sT
  obtain rfl:u1=((zQV (l.take k) (r.v.take k)).length:Nat):=hu1
  have hcl:=zV1 hwid hW k hk (by omega)
  dsimp only
  refine Br.of (λd=>?_) (λd=>?_)
  ·have aI:k<l.length:=by have:=zQs d;omega
   obtain⟨f,hf⟩:=zXf aI
   obtain⟨v,hv⟩:=zXf (show k<r.v.length by omega)
   obtain⟨a,ha,hi,_,_,_,k0,k1,k2,k3⟩:=zVj (h.pu st.pu) hf
   refine⟨a,ha,by omega,by omega,_,k0,_,k1,_,k2,_,k3,zYj rfl s23.symm rfl λw8 bM hs8 lI=>?_⟩
   obtain⟨m,hm,hmi,_,_,v0,v1,v2⟩:=xZX (hr.pu (st.pu.trans bM)) hv
   refine⟨t,cl (bM.blk st.rcd) 1,m,hm,by omega,by omega,_,v0,_,v1,_,v2,zYj rfl s25.symm rfl λw9 dY hs9 kB=>?_⟩
   have mm:=dY.blk lI
   have jQ:=bM.trans dY
   have hlt:=st.lt
   have z79:=jQ.size
   have up:∀{w':World} {B:Nat->Prop} {bits:List Bool},Fr B w7 w'->(∀i,B i->i<w5.heap.size)->(¬B w.heap.size)->(¬B w1.heap.size)->(∀i,B i->w.heap.size<=i)->zQc w w' l6 (flN (zXb l) bits)->yXK w w.heap.size w1.heap.size w5.heap.size t l6 r.gone (zXb l) bits (zXs sh (l.take k) (r.v.take k)) w':=λ{w' B bits} hf q1 q2 q3 q4 q5=>
    ⟨st.pu.andNew hf q4,hf.blk st.rcd q2,hf.blk st.out q3,q5,yZn st.bld hf λi hi hB=>by have:=q1 i hB;omega,Nat.lt_of_lt_of_le hlt hf.size⟩
   -- the end of the round
   have rest:∀{wz:World} {bits:List Bool},yXK w w.heap.size w1.heap.size w5.heap.size t l6 r.gone (zXb l) bits (zXs sh (l.take k) (r.v.take k)) wz->wz.heap[w7.heap.size]?=some (.cells #[.string f.name,.int .i64 f.kind,.int .i64 f.width,.bool f.null] 129)->wz.heap[w8.heap.size]?=some (.cells #[.int .i64 v.kind,.int .i64 v.n,.string v.s] 73)->
     bits=zQV (l.take (k+1)) (r.v.take (k+1))->∀{nb:Int},nb=(bits.length:Nat)->yXH J w7.heap.size w8.heap.size (some ⟨w5.heap.size,0,none⟩) nb (k:Int) wz:=λ{wz bits} q1 q2 q3 q4 {nb} q5=>by
    refine yWS (sh:=sh) (by have:=hwid f (List.mem_of_getElem? hf);omega) (hW k f v hf hv) q2 q3 q1.bld q1.lt (by omega) λw' hb' hbl=>?_
    rw[zQa (by omega) (by omega)]
    refine hJ _ _ aI ⟨by dsimp only;omega,by rw[q5,q4],?_⟩
    rw[←q4,zJP hf hv]
    exact q1.below c3 c12 c6 pF hbl hb'
   have hns:=zVH hf hv
   refine⟨_,cl mm 3,Br.of (λd1=>⟨_,cl0 kB,Br.of (λd2=>?_) (λd2=>?_)⟩) (λd1=>?_)⟩
   ·
    rw[if_pos d1,decide_eq_true (zXr d2)]at hns
    generalize hbits:zQV (l.take k) (r.v.take k)=bits at *
    have hm1:bits.length+1<=(l.filter (·.null)).length:=by
     have h1:=zKg (l.take (k+1)) (r.v.take (k+1))
     have h2:=zXN l (k+1)
     rw[hns]at h1;simp only[List.length_append,List.length_singleton]at h1;omega
    obtain⟨q,ρ,hqr,hρ⟩:∃q ρ,bits.length=8 * q+ρ/\ρ<8:=⟨bits.length / 8,bits.length % 8,by omega,by omega⟩
    have hqN:q<zXb l:=by omega
    have e1:((bits.length:Nat):Int).tdiv 8=(q:Int):=by rw[Int.tdiv_eq_ediv_of_nonneg (by omega)];omega
    have e2:((bits.length:Nat):Int).tmod 8=(ρ:Int):=by rw[Int.tmod_eq_emod_of_nonneg (by omega)];omega
    rw[e1,e2,zQa (n:=(q:Int)) (by omega) (by omega),zQa (n:=((bits.length:Nat):Int)+1) (by have:=List.length_filter_le (·.null) l;omega) (by have:=List.length_filter_le (·.null) l;omega)]
    refine zQe λaM fT hh10=>?_
    have sU:zQc w aM l6 (flN (zXb l) bits):=(st.fl.pu jQ).pu fT
    have hbl:=yKS hqr hρ
    have hpow:2 ^ ρ<=128:=by
     rcases(by omega:ρ=0∨ρ=1∨ρ=2∨ρ=3∨ρ=4∨ρ=5∨ρ=6∨ρ=7)with rfl|rfl|rfl|rfl|rfl|rfl|rfl|rfl <;> decide
    obtain⟨a6,ha6,yn⟩:=sU.cell (xZ2 hqN)
    have ebyte:u8V (UInt8.ofNat (zXC bits q))=.int .u8 ((zXC bits q:Nat):Int):=by
     unfold u8V;congr 2;simp;omega
    rw[ebyte]at yn
    refine⟨rfl,by omega,a6,ha6,by omega,by omega,_,by rw[zZW,Nat.mul_one];exact yn,rfl,by omega,by omega,?_⟩
    rw[zZW,zZW,Nat.mul_one,or_bit ρ hρ _ hbl,zZC]
    have ev:zZr ((zXC bits q+2 ^ ρ:Nat):Int)=UInt8.ofNat (zXC bits q+2 ^ ρ):=by rw[zWK];congr 1;omega
    rw[ev]
    obtain⟨a7,ha7,hst⟩:=sU.1.st1 (j:=q) (by simp[zKI];exact hqN) (u8V (UInt8.ofNat (zXC bits q+2 ^ ρ))) (K:=λbv=>yXH J w7.heap.size w8.heap.size (some ⟨w5.heap.size,0,none⟩) (((bits.length:Nat):Int)+1) (k:Int) bv) λaQ lq iD hs11=>by
     rw[←List.map_set,←yYe hqr hρ hqN]at lq
     have hfa:Fr (· ∈ zQb l6) w7 aQ:=(Fr.pu (jQ.trans fT):Fr (· ∈ zQb l6) w7 aM).trans iD λ_ h _=>h
     refine rest (up hfa c6 (λhc=>?_) (λhc=>?_) (λi hi=>st.fl.2 i hi) ⟨lq,st.fl.2⟩) (iD.blk (fT.blk mm) λhc=>by have:=c6 _ hc;omega) (iD.blk (fT.blk kB) λhc=>by have:=c6 _ hc;have:=bM.size;omega) hns.symm (by simp)
     ·rw[←pG]at hc;simp[zQb]at hc;omega
     ·rw[←pG]at hc;simp[zQb]at hc;omega
    exact⟨a7,ha7,by omega,by omega,hst⟩
   ·rw[if_pos d1,decide_eq_false (zQ9 d2)]at hns
    rw[zQa (n:=((zQV (l.take k) (r.v.take k)).length:Int)+1) (by have:=zKg (l.take k) (r.v.take k);have:=zXN l k;have:=List.length_filter_le (·.null) l;omega) (by have:=zKg (l.take k) (r.v.take k);have:=zXN l k;have:=List.length_filter_le (·.null) l;omega)]
    refine rest (bits:=zQV (l.take k) (r.v.take k) ++ [false]) (up (B:=λ_=>False) (Fr.pu jQ) (λ_ h=>h.elim) (λh=>h) (λh=>h) (λ_ h=>h.elim) ?_) mm kB hns.symm (by simp)
    rw[yVz];exact st.fl.pu jQ
   ·rw[if_neg (by rw[d1];simp),List.append_nil]at hns
    exact rest (up (B:=λ_=>False) (Fr.pu jQ) (λ_ h=>h.elim) (λh=>h) (λh=>h) (λ_ h=>h.elim) (st.fl.pu jQ)) mm kB hns.symm rfl
  ·have aI:k=l.length:=by have:=zQj d;omega
   subst aI
   rw[List.take_length,List.take_of_length_le (show r.v.length<=l.length by omega)]at *
   have hlt:=st.lt
   have out:zQc w w7 ⟨some ⟨w1.heap.size,0,none⟩,1,1⟩ [yQv r.gone]:=zQc.box (l:=[yQv r.gone]) st.out (by omega) (by simp)
   obtain⟨jG,w8,e8,r8,f8,wM⟩:=out.app' st.pu.size (m:=l6) (news:=flN (zXb l) (zQV l r.v)) st.fl.len (λj b hj=>st.fl.cell hj) (by simp only[List.length_singleton,zKI];omega)
   have sV:=yZn st.bld f8 λi hi hB=>by simp[zQb]at hB;omega
   have z8:=f8.size
   have bM:Pu w w8:=st.pu.andNew f8 λi hi=>out.2 i hi
   obtain⟨g,cap,hbg,hcell,hgl,hcall⟩:=zJy sV hne
   have hg7:g<w7.heap.size:=by
    obtain⟨g',cap',_,hcell',hgl',_⟩:=zJy st.bld hne
    have e1:w8.heap[w5.heap.size]?=w7.heap[w5.heap.size]?:=f8.block _ hlt (by simp[zQb];omega)
    have e2:w8.cell? ⟨w5.heap.size,1,none⟩=w7.cell? ⟨w5.heap.size,1,none⟩:=World.cell?_of_block e1
    rw[e2,hcell']at hcell
    simp only[Option.some.injEq,Value.slice.injEq,Addr.mk.injEq]at hcell
    omega
   refine⟨jG,w8,e8,hcall.mono ?_⟩
   rintro e w9 ⟨rfl,hfg⟩
   have r9:zQc w w9 jG ([yQv r.gone] ++ flN (zXb l) (zQV l r.v)):=r8.fr hfg λb hb e=>by
    have e:b=g:=e
    rcases wM b hb with h1|h1
    ·simp[zQb]at h1;omega
    ·omega
   have hbl:Fr (w5.heap.size<=·) w8 w9:=⟨hfg.os,hfg.tape,hfg.output,hfg.size,λi hi hn=>hfg.block i hi (λe=>hn (by have e:i=g:=e;omega))⟩
   have dY:Pu w w9:=bM.andNew hbl λi hi=>Nat.le_trans pF hi
   obtain⟨q,aM,tS,bW,f10⟩:=r9.str dY.size (zXs sh l r.v) (by simp only[List.length_append,List.length_singleton,zKI];omega)
   exact⟨_,rfl,q,aM,tS,q,rfl,bW,dY.andNew f10 λi hi=>r9.2 i hi⟩
 refine Br.of (λd=>⟨_,rfl,by omega,by omega,?_⟩) (λd=>main aJ (ay.blk aD) (by rw[d];exact aL))
 show st1 ((⟨w1.heap.size,0,none⟩:Addr).add 0) _ w2 _
 rw[zQn]
 refine zQw aL (by decide) λw3 mn be=>main ?_ ?_ (by rw[d];exact be)
 ·exact aJ.andNew (B:=(·=w1.heap.size)) (by rw[mn];exact Fr.cell w2 _ 0 _) λi hi=>by omega
 ·exact(by rw[mn];exact Fr.cell w2 _ 0 _:Fr (·=w1.heap.size) w2 w3).blk (ay.blk aD) (by omega)
end Go.Proofs.YtaeecpjhfmcliaaGreatDoor
/- Table: the row with its code; the table that each law looks at. No condition. -/
namespace Go.Proofs.YtaeecpjhfmcliaaGreatDoor
open Go.Sh Go.RowKit Tryz
def zVG(f:Fld)(v:Val):List UInt8:=v.s.data.toList ++ List.replicate (f.width.toNat - v.s.size) 32
theorem yXj (f:Fld) (v:Val) (hw:(v.s.size:Int)<=f.width/\f.width<=1000) (w:World):Calls prog 186 #[yQA f,zKL v] w λe w'=>e=.returned (.string (bs (zVG f v)))/\Pu w w':=by
 refine yJG _ _ _ _ _ _ _ w _ ?_
 refine alB λw1 aA aD=>alB λw2 ay aL=>zQe λw3 aC _=>?_
 have bn:=ay.trans aC
 refine⟨λu=>Pu w3 u,Pu.refl _,v.s,λu hu=>cl (hu.blk (aC.blk aL)) 2,f.width,λu hu=>cl (hu.blk (bn.blk aD)) 2,v.s,λu hu=>cl (hu.blk (aC.blk aL)) 2,?_⟩
 rw[zQa (by omega) (by omega)]
 have e1:f.width - ((v.s.size:Nat):Int)=((f.width.toNat - v.s.size:Nat):Int):=by omega
 rw[e1]
 refine(zJ8 32 _ (by omega) w3).mono ?_
 rintro e w4 ⟨rfl,aK⟩
 refine⟨_,rfl,aK,?_,?_,(aA.trans bn).trans aK⟩
 ·have e4:=zQ2 (List.replicate (f.width.toNat - v.s.size) 32);rw[List.length_replicate]at e4;omega
 ·rw[zZB,zQF];rfl
def zZy(t:Tbl)(k:Int):Int:=if zQh t ≠ 0 then zQh t else if k<1∨(t.recs.length:Int)<k then 4 else 0
def zVU(sh:Fld->Val->List UInt8)(t:Tbl)(k:Int):List UInt8:=if zZy t k=0 then(match t.recs[(k - 1).toNat]? with|some x=>zZI sh t.fields x|none=>[])else []
theorem zWW{l:List Fld}{p:Int}{r:Rec}(h:zQA l p r=0):r.v.length=l.length/\zWL l p r.v=true:=by
 by_cases h1:r.v.length=l.length
 ·rw[zKQ h1]at h
  refine⟨h1,?_⟩
  cases hx:zWL l p r.v
  ·rw[hx]at h;simp at h
  ·rfl
 ·rw[zV9 h1]at h;omega
theorem zZw{l:List Fld}{p:Int}:∀{rs:List Rec},zXg l p rs=0->∀x ∈ rs,zQA l p x=0
 | [],_,_,hx=>by cases hx
 | a :: rs,h,x,hx=>by
  unfold zXg at h
  by_cases h1:zQA l p a ≠ 0
  ·rw[if_pos h1]at h;exact absurd h h1
  ·rw[if_neg h1]at h
   rcases List.mem_cons.1 hx with rfl|hx
   ·simpa using h1
   ·exact zZw h x hx
theorem rowE_c {w:World} {t:Tbl} {f r:SV} {sh:Fld->Val->List UInt8} (h:zXB w t f r) (hl:Lim.ok t.fields) (k:Int) (hk:zZ2 k) (hW:zQh t=0->∀x ∈ t.recs,yZa sh t.fields x.v/\zXs sh t.fields x.v ≠ []) :
  Calls prog 144 #[zYq t f r,.int .i64 k] w λe w'=>∃q:SV,e=.returned (.tuple #[.slice q.a q.len q.cap,.int .i64 (zZy t k)])/\zQc w w' q (zVU sh t k)/\Pu w w':=by
 refine yK3 _ _ _ _ w _ ?_
 refine alB λw1 aA aD=>⟨_,cl aD 0,_,cl aD 1,_,cl aD 2,(zZ9 (h.pu aA) hl).mono ?_⟩
 rintro e w2 ⟨rfl,ay⟩
 have dW:=aA.trans ay
 have hrl:=h.recs.len
 have no:∀{c:Int},c ≠ 0->zZy t k=c->∃q:SV,Ending.returned (.tuple #[.slice none 0 0,.int .i64 c])=.returned (.tuple #[.slice q.a q.len q.cap,.int .i64 (zZy t k)])/\zQc w w2 q (zVU sh t k)/\Pu w w2:=λh1 h2=>
  ⟨⟨none,0,0⟩,by rw[h2],by unfold zVU;rw[if_neg (by rw[h2];exact h1)];exact zQc.nil w w2,dW⟩
 refine⟨_,rfl,Br.of (λd=>no (zQG d) (by unfold zZy;rw[if_pos (zQG d)])) (λd=>Br.of (λd1=>no (c:=4) (by decide) ?_) (λd1=>⟨_,cl (ay.blk aD) 2,Br.of (λd2=>no (c:=4) (by decide) ?_) (λd2=>?_)⟩))⟩
 ·unfold zZy;rw[if_neg (by rw[zQ4 d];simp),if_pos (.inl (zQs d1))]
 ·unfold zZy;rw[if_neg (by rw[zQ4 d];simp),if_pos (.inr (by have:=zQs d2;omega))]
 have hv:=zQ4 d
 have d1:=zQj d1
 have d2:=zQj d2
 obtain⟨hpg,hvf,gn,hfb⟩:=zVu hv
 obtain⟨_,hall,_,fv,_⟩:=zXt hvf
 have hki:(k - 1).toNat<t.recs.length:=by omega
 obtain⟨x,hx⟩:=zXf hki
 have hxm:=List.mem_of_getElem? hx
 obtain⟨hxl,_⟩:=zWW (zZw hfb x hxm)
 have hc:zZy t k=0:=by unfold zZy;rw[if_neg (by rw[hv];simp),if_neg (by omega)]
 refine zQe λw3 aC _=>?_
 have bn:=ay.trans aC
 have cd:=aA.trans bn
 rw[zQa (by omega) (by have:=h.recs.lim;omega)]
 obtain⟨a,q,ha,hi,hq,c0,c1⟩:=yQB (h.recs.pu cd) hx
 refine⟨_,cl (bn.blk aD) 1,_,cl (bn.blk aD) 2,a,ha,by omega,by omega,_,c0,_,c1,(row_c (sh:=sh) (h.fields.pu cd) hq hxl fv (WOk.of hall) (hW hv x hxm).1 (hW hv x hxm).2).mono ?_⟩
 rintro e w4 ⟨o,rfl,ho,aK⟩
 refine⟨o,rfl,o,by rw[hc],?_,cd.trans aK⟩
 unfold zVU;rw[if_pos hc,hx];exact ho.low cd.size
theorem yYh{w0 w:World}{s:SV}{l:List UInt8}(h:zQc w0 w s l):(convert 22 9 (.slice s.a s.len s.cap)).run prog w=.ok (.string (bs l)) w:=by
 obtain⟨⟨hl,ho⟩,_⟩:=h
 rcases ho with rfl|⟨g,cur,h3,h4,h5,h6,h7,h8⟩
 ·have:l=[]:=by simpa using hl
  subst this
  exact Lib.run_convert_nil_bytes w 22 9 5 0 u37 u5 u9
 ·have hsl:s.len=(bs l).size:=by rw[zQ2];simp at hl;omega
  rw[h3,hsl]
  refine Lib.run_convert_whole w 22 5 9 u37 u5 u9 g 0 (bs l) (λi hi=>?_) s.cap
  rw[Nat.zero_add,zQ8 h4]
  have hi':i<l.length:=by rw[zQ2]at hi;exact hi
  have h1:(cur.toList.take (s.len * 1))[i]?=some (u8V (l[i])):=by rw[h8];simp[hi']
  rw[List.getElem?_take]at h1
  split at h1
  ·have h2:cur[i]?=some (u8V l[i]):=by simpa using h1
   rw[h2];rfl
  ·cases h1
end Go.Proofs.YtaeecpjhfmcliaaGreatDoor
/- Table: lengths and offsets; how large a table is; the law on which tables there are. No condition. -/
namespace Go.Proofs.YtaeecpjhfmcliaaGreatDoor
open Go.Sh Go.RowKit Tryz
theorem u55:prog.underlying 52=some (.slice 3):=by kernel_rfl
theorem info3:(prog.info? 3).map (λi=>(i.zero,i.size,i.bytes))=some (some (.int .i64 0),1,8):=by kernel_rfl
def zWm(w0 w:World)(s:SV)(l:List Int):Prop:=zQi w 3 1 s (l.map yVF)/\∀b ∈ zQb s,w0.heap.size<=b
theorem zWm.len{w0 w:World}{s:SV}{l:List Int}(h:zWm w0 w s l):s.len=l.length:=by have:=h.1.1;simp at this;omega
theorem zWm.pu{w0 w w':World}{s:SV}{l:List Int}(h:zWm w0 w s l)(hp:Pu w w'):zWm w0 w' s l:=⟨h.1.pu hp,h.2⟩
theorem zWm.nil(w0 w:World):zWm w0 w ⟨none,0,0⟩ []:=⟨zQi.nil w 3 1,by simp[zQb]⟩
theorem zWm.low{w0 w1 w:World}{s:SV}{l:List Int}(h:zWm w1 w s l)(hz:w0.heap.size<=w1.heap.size):zWm w0 w s l:=⟨h.1,λb hb=>Nat.le_trans hz (h.2 b hb)⟩
theorem zWm.push {w0 w:World} {s:SV} {l:List Int} (h:zWm w0 w s l) (hz:w0.heap.size<=w.heap.size) {r:Nat} {n:Int} (hr:w.heap[r]?=some (.cells #[.int .i64 n] 3)) (hb:l.length<=1000000) :
  ∃(s':SV) (w':World),(Builtin.append_ #[52,52] 52 #[.slice s.a s.len s.cap,.slice (some ⟨r,0,none⟩) 1 1]).run prog w=.ok (.slice s'.a s'.len s'.cap) w'/\zWm w0 w' s' (l ++ [n])/\Fr (· ∈ zQb s) w w':=by
 have h1:=h.len
 obtain⟨s',w',hra,hrow,hf,hblk,_⟩:=yYN (P:=prog) (ty:=52) u55 info3 rfl h.1 (a:=⟨r,0,none⟩) (u:=.int .i64 n) (by rw[zQ8 hr];rfl) rfl (by omega)
 refine⟨s',w',hra,⟨by simpa using hrow,λb hb=>?_⟩,hf⟩
 rcases hblk b hb with h2|h2
 ·exact h.2 b h2
 ·omega
end Go.Proofs.YtaeecpjhfmcliaaGreatDoor
/- Table: the law on what a value becomes in a field. No condition. -/
namespace Go.Proofs.YtaeecpjhfmcliaaGreatDoor
open Go.Sh Go.RowKit Tryz
theorem zJJ{α:Type}(p:α->Bool):∀l:List α,(l.dropWhile p).dropWhile p=l.dropWhile p
 | []=>rfl
 | a :: l=>by
  by_cases h:p a=true
  ·rw[List.dropWhile_cons,if_pos h];exact zJJ p l
  ·rw[List.dropWhile_cons,if_neg h,List.dropWhile_cons,if_neg h]
theorem yVh(l:List UInt8):zZ4 (zZ4 l)=zZ4 l:=by
 unfold zZ4;rw[List.reverse_reverse,zJJ]
theorem yXA(a b:Val)(w:World):Calls prog 140 #[zKL a,zKL b] w λe w'=>e=.returned (.bool (decide (a=b)))/\Pu w w':=by
 refine yK2 _ _ _ _ _ _ w _ ?_
 refine alB λw1 aA aD=>alB λw2 ay aL=>?_
 have hp:=aA.trans ay
 have q1:=ay.blk aD
 refine⟨_,cl0 q1,_,cl0 aL,Br.of (λd=>⟨_,cl q1 1,_,cl aL 1,Br.of (λd1=>⟨_,cl q1 2,_,cl aL 2,?_,hp⟩) (λd1=>⟨?_,hp⟩)⟩) (λd=>⟨?_,hp⟩)⟩
 ·rw[zXI]
  congr 2
  have e1:a.kind=b.kind:=zXr d
  have e2:a.n=b.n:=zXr d1
  refine zZj ⟨λe3=>?_,λe=>by rw[e]⟩
  obtain⟨a1,a2,a3⟩:=a;obtain⟨b1,b2,b3⟩:=b
  simp only at e1 e2 e3
  subst e1 e2 e3;rfl
 ·rw[decide_eq_false (λe=>zQ9 d1 (by rw[e]))]
 ·rw[decide_eq_false (λe=>zQ9 d (by rw[e]))]
end Go.Proofs.YtaeecpjhfmcliaaGreatDoor
/- Table: records of empty values, places of names; the law on them. No condition. -/
namespace Go.Proofs.YtaeecpjhfmcliaaGreatDoor
open Go.Sh Go.RowKit Tryz
theorem u44:prog.underlying 38=some (.slice 73):=by kernel_rfl
theorem info25:(prog.info? 73).map (λi=>(i.zero,i.size,i.bytes))=some (some (.agg #[.int .i64 0,.int .i64 0,.string ⟨#[]⟩]),3,32):=by kernel_rfl
theorem s46:zXn prog 67=2:=by kernel_rfl
theorem zX6(v:Val):(zWQ v).length=3:=rfl
def zJO(w0 w:World)(s:SV)(l:List Val):Prop:=zQi w 73 3 s (l.flatMap zWQ)/\∀b ∈ zQb s,w0.heap.size<=b
theorem zJO.len{w0 w:World}{s:SV}{l:List Val}(h:zJO w0 w s l):s.len=l.length:=h.1.len zX6 (by decide)
theorem zJO.pu{w0 w w':World}{s:SV}{l:List Val}(h:zJO w0 w s l)(hp:Pu w w'):zJO w0 w' s l:=⟨h.1.pu hp,h.2⟩
theorem zJO.fr{B:Nat->Prop}{w0 w w':World}{s:SV}{l:List Val}(h:zJO w0 w s l)(hf:Fr B w w')(hn:∀k ∈ zQb s,¬B k):zJO w0 w' s l:=⟨h.1.fr hf hn,h.2⟩
theorem zJO.nil(w0 w:World):zJO w0 w ⟨none,0,0⟩ []:=⟨zQi.nil w 73 3,by simp[zQb]⟩
theorem zJO.low{w0 w1 w:World}{s:SV}{l:List Val}(h:zJO w1 w s l)(hz:w0.heap.size<=w1.heap.size):zJO w0 w s l:=⟨h.1,λb hb=>Nat.le_trans hz (h.2 b hb)⟩
theorem zJO.push {w0 w:World} {s:SV} {l:List Val} (h:zJO w0 w s l) (hz:w0.heap.size<=w.heap.size) {r:Nat} {v:Val} {c:Array Value} (hr:w.heap[r]?=some (.cells c 73)) (hc:c=#[.int .i64 v.kind,.int .i64 v.n,.string v.s]) (hb:l.length<=1000000) :
  ∃(s':SV) (w':World),(Builtin.append_ #[38,38] 38 #[.slice s.a s.len s.cap,.slice (some ⟨r,0,none⟩) 1 1]).run prog w=.ok (.slice s'.a s'.len s'.cap) w'/\zJO w0 w' s' (l ++ [v])/\Fr (· ∈ zQb s) w w':=by
 subst hc
 have h1:=h.len
 obtain⟨s',w',hra,hrow,hf,hblk,_⟩:=zQ1 (P:=prog) (ty:=38) u44 info25 rfl (by decide) h.1 (A:=some ⟨r,0,none⟩) (m:=1) (c:=1) (news:=zWQ v) rfl (λj u hu=>⟨_,rfl,by rw[cl hr];simpa using hu⟩) (λu hu=>by simp[zWQ]at hu;rcases hu with rfl|rfl|rfl <;> rfl) (by omega)
 refine⟨s',w',hra,⟨by simpa using hrow,λb hb=>?_⟩,hf⟩
 rcases hblk b hb with h2|h2
 ·exact h.2 b h2
 ·omega
structure RdV(w:World)(s:SV)(l:List Val):Prop where
 len:s.len=l.length
 lim:l.length<=140737488355328
 get:∀i v,l[i]?=some v->∃a,s.a=some a/\w.cell? ((a.add (i * 3)).add 0)=some (.int .i64 v.kind)/\w.cell? ((a.add (i * 3)).add 1)=some (.int .i64 v.n)/\w.cell? ((a.add (i * 3)).add 2)=some (.string v.s)
theorem RdV.pu{w w':World}{s:SV}{l:List Val}(h:RdV w s l)(hp:Pu w w'):RdV w' s l:=⟨h.len,h.lim,λi v hv=>by
 obtain⟨a,h1,h2,h3,h4⟩:=h.get i v hv
 exact⟨a,h1,hp.cell h2,hp.cell h3,hp.cell h4⟩⟩
theorem RdV.of{w:World}{s:SV}{l:List Val}(h:zXV w s l):RdV w s l:=⟨h.len,by have:=h.lim;have:=h.len;omega,λi v hv=>by
 obtain⟨a,h1,_,_,_,h2,h3,h4⟩:=xZX h hv
 exact⟨a,h1,h2,h3,h4⟩⟩
theorem zJO.rd{w0 w:World}{s:SV}{l:List Val}(h:zJO w0 w s l)(hb:l.length<=140737488355328):RdV w s l:=⟨h.len,hb,λi v hv=>by
 obtain⟨a,h1,_,h2⟩:=h.1.elem zX6 hv (o:=0) rfl
 obtain⟨a',ke,_,h3⟩:=h.1.elem zX6 hv (o:=1) rfl
 obtain⟨a'',h1'',_,h4⟩:=h.1.elem zX6 hv (o:=2) rfl
 rw[h1]at ke h1'';cases ke;cases h1''
 exact⟨a,h1,h2,h3,h4⟩⟩
theorem zZ5 {α:Type} {a b:List α} {k:Nat} (h:a.take k=b.take k) {x y:α} (hx:a[k]?=some x) (hy:b[k]?=some y) (e:x=y):a.take (k+1)=b.take (k+1):=by
 rw[zQK hx,zQK hy,h,e]
theorem yQI{w:World}{s t:SV}{a b:List Val}(ha:RdV w s a)(hb:RdV w t b):Calls prog 105 #[.slice s.a s.len s.cap,.slice t.a t.len t.cap] w λe w'=>e=.returned (.bool (decide (a=b)))/\Pu w w':=by
 refine yZZ _ _ w _ ?_
 have hla:=ha.len
 have hlb:=hb.len
 have hlim:=ha.lim
 refine Br.of (λd=>⟨by rw[decide_eq_false (λe=>zQG d (by rw[hla,hlb,e]))],Pu.refl _⟩) (λd=>?_)
 have hab:a.length=b.length:=by have:=zQ4 d;omega
 refine zQD a.length (λk t w'=>t=(k:Int)/\a.take k=b.take k/\Pu w w') ⟨rfl,by simp,Pu.refl _⟩ ?_
 rintro k J t w2 hk ⟨ht,he,hp⟩ hJ
 obtain rfl:t=(k:Int):=ht
 refine Br.of (λd1=>zQe λw3 aC _=>?_) (λd1=>?_)
 ·have aI:k<a.length:=by have:=zQs d1;omega
  obtain⟨x,hx⟩:=zXf aI
  obtain⟨y,hy⟩:=zXf (show k<b.length by omega)
  obtain⟨p,hpa,c0,c1,c2⟩:=((ha.pu hp).pu aC).get k x hx
  obtain⟨q,hqa,e0,e1,e2⟩:=((hb.pu hp).pu aC).get k y hy
  refine⟨p,hpa,by omega,by omega,_,c0,_,c1,_,c2,q,hqa,by omega,by omega,_,e0,_,e1,_,e2,(yXA x y w3).mono ?_⟩
  rintro e w4 ⟨rfl,aK⟩
  refine⟨_,rfl,Br.of (λd2=>⟨?_,(hp.trans aC).trans aK⟩) (λd2=>?_)⟩
  ·rw[decide_eq_false]
   intro e
   subst e
   rw[hx]at hy
   cases hy
   simp at d2
  ·rw[zQa (by omega) (by omega)]
   exact hJ _ _ aI ⟨by omega,zZ5 he hx hy (by simpa using d2),(hp.trans aC).trans aK⟩
 ·have aI:k=a.length:=by have:=zQj d1;omega
  subst aI
  rw[List.take_length,hab,List.take_length]at he
  exact⟨by rw[decide_eq_true he],hp⟩
theorem yQF{w:World}{s t:SV}{x y:Bool}{a b:List Val}(ha:RdV w s a)(hb:RdV w t b):Calls prog 70 #[.agg #[.bool x,.slice s.a s.len s.cap],.agg #[.bool y,.slice t.a t.len t.cap]] w λe w'=>e=.returned (.bool (decide (x=y) && decide (a=b)))/\Pu w w':=by
 refine yWP _ _ _ _ w _ (alB λw1 aA aD=>alB λw2 ay aL=>?_)
 have hp:=aA.trans ay
 have q1:=ay.blk aD
 refine⟨_,cl0 q1,_,cl0 aL,Br.of (λd=>⟨_,cl q1 1,_,cl aL 1,(yQI (ha.pu hp) (hb.pu hp)).mono ?_⟩) (λd=>⟨?_,hp⟩)⟩
 ·rintro e w3 ⟨rfl,aC⟩
  exact⟨_,rfl,by rw[decide_eq_true (p:=x=y) (by simpa using d)];rfl,hp.trans aC⟩
 ·rw[decide_eq_false (p:=x=y) (by simpa using d)];rfl
theorem yKW(n:Int)(w:World):Calls prog 45 #[.int .i64 n] w λe w'=>e=.returned (zKL ⟨2,n,⟨#[]⟩⟩)/\Pu w w':=by
 refine yWy _ w _ (zYj rfl s25.symm rfl λw1 aA _ aD=>?_)
 exact⟨_,cl aD 0,_,cl aD 1,_,cl aD 2,rfl,aA⟩
def xQS(l:List Fld):List Val:=if zQZ l=0 then l.map zZh else []
def yK7(l:List Fld)(s:ByteArray):Option Nat:=l.findIdx? λf=>decide (f.name=s)
def idxK(l:List Fld)(s:ByteArray):Int:=((yK7 l s).getD 0:Nat)
theorem xJp{w:World}{s:SV}{l:List Fld}(h:zXV w s l)(nm:ByteArray):Calls prog 82 #[.slice s.a s.len s.cap,.string nm] w λe w'=>e=.returned (.tuple #[.int .i64 (idxK l nm),.bool (yK7 l nm).isSome])/\Pu w w':=by
 refine yVx _ _ w _ (alB λw1 aA aD=>?_)
 have tells:yZG l 114 #[.pointer (some ⟨w.heap.size,0,none⟩)] (λf=>decide (f.name=nm)) w1:=⟨by kernel_rfl,λf hf w2 ay=>by
  refine yJY _ _ _ _ _ w2 _ (alB λw3 aC be=>⟨_,cl0 be,_,cl0 ((ay.trans aC).blk aD),?_,aC⟩)
  rw[zXI]⟩
 refine(zWB (h.pu aA) tells).mono ?_
 rintro e w2 ⟨rfl,ay⟩
 refine⟨_,rfl,_,w2,yKL _ _ _ _ _ _,?_,aA.trans ay⟩
 unfold idxK yK7
 cases l.findIdx? λf=>decide (f.name=nm)with
 | none=>rfl
 | some k=>
  dsimp only
  rw[Int.max_eq_left (by omega),decide_eq_true (by omega)];rfl
end Go.Proofs.YtaeecpjhfmcliaaGreatDoor
