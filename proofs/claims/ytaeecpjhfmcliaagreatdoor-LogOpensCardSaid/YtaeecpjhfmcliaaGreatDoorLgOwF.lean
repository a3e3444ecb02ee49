import Derived.Test.YtaeecpjhfmcliaaGreatDoorLgOwE
import Derived.Test.YtaeecpjhfmcliaaGreatDoorLgOwC
import Derived.Test.YtaeecpjhfmcliaaGreatDoorShFourteen
import Derived.Test.YtaeecpjhfmcliaaGreatDoorShTwentyOne
import Derived.Test.YtaeecpjhfmcliaaGreatDoorShTwentyTwo
import Derived.Test.YtaeecpjhfmcliaaGreatDoorShTwentyFive
import Derived.Test.YtaeecpjhfmcliaaGreatDoorShTwentyNine
import Derived.Test.YtaeecpjhfmcliaaGreatDoorLgPrB
/- The log: what every call keeps of a store and its files. In plain words. No condition but those stated. -/
set_option linter.unusedVariables false
set_option linter.unusedSimpArgs false
namespace Go.Proofs.YtaeecpjhfmcliaaGreatDoor
open Go.Sh Go.RowKit Tryz
structure Like(p:Int)(f:List Fld)(t:Tbl):Prop where
 ok:zQi t=0
 page:t.page=p
 fields:t.fields=f
def okW(y:Wr):Prop:=(y.file=0∨y.file=1)/\0<=y.at_/\y.b.length<=700000
structure InvW(p:Int)(f:List Fld)(d:Dat):Prop where
 t:Like p f d.σ.t
 lev:∀u ∈ d.σ.lev,Like p f u/\d.σ.last.recs.length<=u.recs.length
 done:∀u ∈ d.σ.done,Like p f u
 ne:d.σ.done ≠ []
 ge:d.σ.last.recs.length<=d.σ.t.recs.length
 h0:∀u,d.σ.lev.head?=some u->u=d.σ.last
 l8:d.σ.lev.length<=8
 eq:d.last=zXU d.first d.wr d.wr.length
 file:zQW d.last=(some d.σ.last,[],false)
 hist:yZD d.first d.wr d.pts d.σ.done
 wb:∀x ∈ d.wr,okW x
structure Inv(p:Int)(f:List Fld)(d:Dat):Prop extends InvW p f d where
 at0:d.σ.lev=[]->d.σ.t=d.σ.last
variable {p : Int} {f : List Fld} {d : Dat}
theorem zZK {σ:Sto} (h:σ.done ≠ []):σ.done.getLast?=some σ.last:=by
 unfold Sto.last
 rw[List.getLast?_eq_some_getLast h];rfl
theorem zVM {σ σ':Sto} (h:σ.done ≠ []) (e:σ'.done=σ.done):σ'.last=σ.last:=by
 have h1:=zZK h
 have h2:=zZK (σ:=σ') (by rw[e];exact h)
 rw[e]at h2
 exact Option.some.inj (h2.symm.trans h1)
theorem InvW.lastL(h:InvW p f d):Like p f d.σ.last:=h.done _ (List.mem_of_getLast? (zZK h.ne))
theorem InvW.write (h:InvW p f d) {x:Wr} (hb:okW x) (hk:∀k,(zQW (zJu d.last x k)).1=some d.σ.last) (hf:zQW (zQK d.last x)=(some d.σ.last,[],false)):InvW p f (d.write x) where
 t:=h.t
 lev:=h.lev
 done:=h.done
 ne:=h.ne
 ge:=h.ge
 h0:=h.h0
 l8:=h.l8
 eq:=by
  show zQK d.last x=zXU d.first (d.wr ++ [x]) (d.wr ++ [x]).length
  rw[List.length_append,List.length_singleton,zJi,←h.eq]
 file:=hf
 hist:=h.hist.same (zZK h.ne) (by rw[←h.eq];exact hk)
 wb:=λy hy=>by
  rcases List.mem_append.1 hy with hy|hy
  ·exact h.wb y hy
  ·rw[List.mem_singleton.1 hy];exact hb
theorem yXX {F:Fls} {t:Tbl} (h:zQW F=(some t,[],false)) {kind:UInt8} {body:List UInt8} (hb:body.length<4294967296) (k:Int) :
  (zQW (zJu F ⟨1,F.2.length,zJ1 kind body⟩ k)).1=some t∨zJu F ⟨1,F.2.length,zJ1 kind body⟩ k=(F.1,F.2 ++ zJ1 kind body):=by
 by_cases h0:k<=0
 ·rw[zYF _ _ h0,h];exact .inl rfl
 ·have e:zJu F ⟨1,F.2.length,zJ1 kind body⟩ k=(F.1,F.2 ++ (zJ1 kind body).take k.toNat):=by
   rw[yQV _ _ (by omega)]
   show F.put 1 (F.2.take (min (F.2.length:Int) F.2.length).toNat ++ _)=_
   rw[Fls.put1,show(min (F.2.length:Int) F.2.length).toNat=F.2.length by omega,List.take_length]
  rw[e]
  by_cases hl:(zJ1 kind body).length<=k.toNat
  ·rw[List.take_of_length_le hl];exact .inr rfl
  ·left
   have hn:zZm ((zJ1 kind body).take k.toNat)=none:=yKX hb (List.take_prefix _ _) (by rw[List.length_take];omega)
   show(zWc (zXE F.1) false (F.2 ++ _)).1=_
   rw[zVV (show zWc (zXE F.1) false F.2=_ from h),zZW hn]
theorem yQI{F:Fls}{t:Tbl}{kind:UInt8}{body:List UInt8}:zQK F ⟨1,F.2.length,zJ1 kind body⟩=(F.1,F.2 ++ zJ1 kind body):=by
 rw[yXg]
 show F.put 1 (F.2.take (min (F.2.length:Int) F.2.length).toNat ++ _)=_
 rw[Fls.put1,show(min (F.2.length:Int) F.2.length).toNat=F.2.length by omega,List.take_length]
theorem yZv {F:Fls} {t u:Tbl} (h:zQW F=(some t,[],false)) {body:List UInt8} (hb:body.length<4294967296) (hc:zQO t body=some u):zQW (F.1,F.2 ++ zJ1 99 body)=(some u,[],false):=by
 show zWc (zXE F.1) false (F.2 ++ zJ1 99 body)=_
 rw[zVV (show zWc (zXE F.1) false F.2=_ from h),←List.append_nil (zJ1 99 body),xQw hb]
 have e:zK9 (some t) false 99 body=(some u,false):=by
  unfold zK9
  rw[if_neg (by decide),if_neg (by decide)]
  rw[Option.bind_some,hc]
 rw[e,zZW yXd]
theorem zYI(h:InvW p f d):Inv p f d.commit:=by
 unfold Dat.commit
 split
 ·rename_i hc
  obtain⟨hl,hne⟩:=hc
  have hL:=h.lastL
  have hcl:=zYS (t:=d.σ.last) h.t.ok h.ge
  have hbody:(zXg d.σ.t (zZF d.σ)).length<=650000:=hcl
  have hch:zQO d.σ.last (zXg d.σ.t (zZF d.σ))=some d.σ.t:=zYs hL.ok h.t.ok (by rw[h.t.page,hL.page]) (by rw[h.t.fields,hL.fields]) h.ge
  have hlast:({ d.σ with done:=d.σ.done ++ [d.σ.t] }:Sto).last=d.σ.t:=by unfold Sto.last;simp
  have ew:zQK d.last d.rec_=(d.last.1,d.last.2 ++ zJ1 99 (zXg d.σ.t (zZF d.σ))):=yQI (t:=d.σ.t)
  have hfile:=yZv h.file (by omega) hch
  refine⟨⟨h.t,λu hu=>?_,λu hu=>?_,by simp,Nat.le_of_eq (congrArg (λx=>x.recs.length) hlast),λu hu=>?_,h.l8,?_,?_,?_,?_⟩,λ_=>hlast.symm⟩
  ·have hu:u ∈ d.σ.lev:=hu
   rw[hl]at hu;cases hu
  ·rcases List.mem_append.1 hu with hu|hu
   ·exact h.done u hu
   ·rw[List.mem_singleton.1 hu];exact h.t
  ·have hu:d.σ.lev.head?=some u:=hu
   rw[hl]at hu;cases hu
  ·show zQK d.last d.rec_=zXU d.first (d.wr ++ [d.rec_]) (d.wr ++ [d.rec_]).length
   rw[List.length_append,List.length_singleton,zJi,←h.eq]
  ·show zQW (zQK d.last d.rec_)=_
   rw[ew,hfile,hlast]
  ·refine h.hist.new (zZK h.ne) (Ne.symm hne) (by rw[←h.eq,ew,hfile]) λk=>?_
   rw[←h.eq]
   rcases yXX h.file (kind:=99) (body:=zXg d.σ.t (zZF d.σ)) (by omega) k with h1|h1
   ·exact .inl h1
   ·right
    show(zQW (zJu d.last ⟨1,d.last.2.length,zJ1 99 (zXg d.σ.t (zZF d.σ))⟩ k)).1=_
    rw[h1,hfile]
  ·intro y hy
   rcases List.mem_append.1 hy with hy|hy
   ·exact h.wb y hy
   ·rw[List.mem_singleton.1 hy]
    refine⟨.inr rfl,by show 0<=(d.last.2.length:Int);omega,?_⟩
    show(zJ1 99 (zXg d.σ.t (zZF d.σ))).length<=_
    rw[zKd];omega
 ·rename_i hc
  exact⟨h,λhl=>Classical.byContradiction λhne=>hc ⟨hl,hne⟩⟩
theorem yYl {t:Tbl} {F:Fls} (hv:zQi t=0) (h:zQW F=(some t,[],false)):Inv t.page t.fields (Dat.new t F) where
 t:=⟨hv,rfl,rfl⟩
 lev:=λu hu=>absurd hu List.not_mem_nil
 done:=λu hu=>by rw[List.mem_singleton.1 hu];exact⟨hv,rfl,rfl⟩
 ne:=by simp[Dat.new,Sto.new]
 ge:=Nat.le_refl _
 h0:=λu hu=>by cases hu
 l8:=Nat.zero_le _
 eq:=rfl
 file:=h
 hist:=yZD.start (by show(zQW F).1=_;rw[h])
 wb:=λx hx=>absurd hx List.not_mem_nil
 at0:=λ_=>rfl
theorem xXt{t:Tbl}(hv:zQi t=0):zQW (zQ1 t,[])=(some t,[],false):=by
 show zWc (zXE (zQ1 t)) false []=_
 rw[zZW yXd,zYa hv]
theorem yXc(h:Inv p f d):Inv p f d.begin:=by
 by_cases h8:8<=d.σ.lev.length
 ·have:d.begin=d:=by unfold Dat.begin Dat.to zKr;rw[if_pos h8]
  rw[this];exact h
 ·have e:d.begin={ d with σ:={ d.σ with lev:=d.σ.lev ++ [d.σ.t] } }:=by unfold Dat.begin Dat.to zKr;rw[if_neg h8]
  rw[e]
  refine⟨⟨h.t,λu hu=>?_,h.done,h.ne,h.ge,λu hu=>?_,?_,h.eq,h.file,h.hist,h.wb⟩,λhl=>?_⟩
  ·rcases List.mem_append.1 hu with hu|hu
   ·exact h.lev u hu
   ·rw[List.mem_singleton.1 hu];exact⟨h.t,h.ge⟩
  ·have hu:(d.σ.lev ++ [d.σ.t]).head?=some u:=hu
   cases hl:d.σ.lev with
   | nil=>rw[hl]at hu;cases hu;exact h.at0 hl
   | cons a l=>rw[hl]at hu;cases hu;exact h.h0 u (by rw[hl];rfl)
  ·show(d.σ.lev ++ [d.σ.t]).length<=8
   rw[List.length_append,List.length_singleton];omega
  ·have hl:d.σ.lev ++ [d.σ.t]=[]:=hl
   simp at hl
theorem zWf{α:Type}{l:List α}{u:α}(h:l.dropLast.head?=some u):l.head?=some u:=by
 cases l with
 | nil=>cases h
 | cons a l=>cases l with
  | nil=>cases h
  | cons b l=>exact h
theorem yQo(h:Inv p f d):InvW p f (d.to { d.σ with lev:=d.σ.lev.dropLast }):=
 ⟨h.t,λu hu=>h.lev u (List.dropLast_subset _ hu),h.done,h.ne,h.ge,λu hu=>h.h0 u (zWf hu),Nat.le_trans (show d.σ.lev.dropLast.length<=d.σ.lev.length from Nat.le_trans (Nat.le_of_eq List.length_dropLast) (Nat.sub_le _ _)) h.l8,h.eq,h.file,h.hist,h.wb⟩
theorem xWx(h:Inv p f d):Inv p f d.end_:=by
 unfold Dat.end_
 split
 ·exact h
 ·exact zYI (yQo h)
theorem xQ7(h:Inv p f d):Inv p f d.back:=by
 by_cases hl:d.σ.lev=[]
 ·have:d.back=d:=by unfold Dat.back Dat.to yQJ;rw[if_pos hl]
  rw[this];exact h
 ·obtain⟨u,hu⟩:∃u,d.σ.lev.getLast?=some u:=⟨_,List.getLast?_eq_some_getLast hl⟩
  have e:d.back={ d with σ:={ d.σ with t:=u,lev:=d.σ.lev.dropLast } }:=by unfold Dat.back Dat.to yQJ;rw[if_neg hl,hu];rfl
  have hm:=h.lev u (List.mem_of_getLast? hu)
  have hs:({ d.σ with t:=u,lev:=d.σ.lev.dropLast }:Sto).last=d.σ.last:=zVM h.ne rfl
  have hlw:=yQo h
  have hs':({ d.σ with lev:=d.σ.lev.dropLast }:Sto).last=d.σ.last:=zVM h.ne rfl
  rw[e]
  refine⟨⟨hm.1,λx hx=>?_,h.done,h.ne,Nat.le_trans (Nat.le_of_eq (congrArg (λx=>x.recs.length) hs)) hm.2,λx hx=>?_,hlw.l8,h.eq,?_,h.hist,h.wb⟩,λhd=>?_⟩
  ·rw[hs];exact h.lev x (List.dropLast_subset _ hx)
  ·rw[hs];exact h.h0 x (zWf hx)
  ·show zQW d.last=_;rw[hs];exact h.file
  ·rw[hs]
   have hd:d.σ.lev.dropLast=[]:=hd
   refine h.h0 u ?_
   cases hq:d.σ.lev with
   | nil=>exact absurd hq hl
   | cons a l=>cases l with
    | nil=>rw[hq]at hu;exact hu
    | cons b l=>rw[hq]at hd;simp at hd
theorem yX2(h:Inv p f d){l:List Rec}(hn:l.length<=300)(hge:d.σ.t.recs.length<=l.length)(hr:∀r ∈ l,zQA f p r=0):InvW p f (d.to { d.σ with t:={ d.σ.t with recs:=l } }):=by
 have hR:=zXw.of h.t.ok
 have hs:({ d.σ with t:={ d.σ.t with recs:=l } }:Sto).last=d.σ.last:=zVM h.ne rfl
 refine⟨⟨?_,h.t.page,h.t.fields⟩,λu hu=>?_,h.done,h.ne,?_,λu hu=>?_,h.l8,h.eq,?_,h.hist,h.wb⟩
 ·exact zJQ hR.page hR.vf hn λr hr'=>by
   show zQA d.σ.t.fields d.σ.t.page r=0
   rw[h.t.fields,h.t.page];exact hr r hr'
 ·show _/\(Sto.last { d.σ with t:={ d.σ.t with recs:=l } }).recs.length<=_
  rw[hs];exact h.lev u hu
 ·show(Sto.last { d.σ with t:={ d.σ.t with recs:=l } }).recs.length<=_
  rw[hs];exact Nat.le_trans h.ge hge
 ·show u=Sto.last { d.σ with t:={ d.σ.t with recs:=l } }
  rw[hs];exact h.h0 u hu
 ·show zQW d.last=_;rw[show(d.to { d.σ with t:={ d.σ.t with recs:=l } }).σ.last=d.σ.last from hs];exact h.file
theorem xQ3(h:Inv p f d){l:List Rec}(hn:l.length<=300)(hge:d.σ.t.recs.length<=l.length)(hr:∀r ∈ l,zQA f p r=0):Inv p f (d.recs l):=zYI (yX2 h hn hge hr)
theorem InvW.recR(h:InvW p f d):∀r ∈ d.σ.t.recs,zQA f p r=0:=λr hr=>by
 have:=(zXw.of h.t.ok).recs r hr
 rw[h.t.fields,h.t.page]at this;exact this
theorem zYD{α:Type}{g:α->α}{x:α}:∀{l:List α} {i:Nat},x ∈ l.modify i g->x ∈ l∨∃y,l[i]?=some y/\x=g y:=λ{l i} h=>by
 obtain⟨j,hj⟩:=List.getElem?_of_mem h
 rw[List.getElem?_modify]at hj
 by_cases e:i=j
 ·subst e
  simp only[if_pos]at hj
  cases hl:l[i]? with
  | none=>rw[hl]at hj;cases hj
  | some y=>rw[hl]at hj;right;exact⟨y,rfl,by simpa using hj.symm⟩
 ·simp only[if_neg e]at hj
  left
  have hj:l[j]?=some x:=by simpa using hj
  exact List.mem_of_getElem? hj
end Go.Proofs.YtaeecpjhfmcliaaGreatDoor
/- The log: values that are set, and a clean log, keep a store right; how large its files are. In plain words. No condition but those stated. -/
namespace Go.Proofs.YtaeecpjhfmcliaaGreatDoor
open Go.Sh Go.RowKit Tryz
theorem zJC{l:List Fld}{p:Int}{r:Rec}(h:zQA l p r=0):r.v.length=l.length:=(zV2 h).1
theorem zKg{l:List Fld}{p:Int}{r:Rec}:zQA l p r=0 ↔ r.v.length=l.length/\∀(i:Nat) (f:Fld) (v:Val),l[i]?=some f->r.v[i]?=some v->zQM f p v=true:=by
 constructor
 ·intro h
  refine⟨zJC h,λi f v hf hv=>?_⟩
  unfold zQA at h
  rw[if_neg (by simp[zJC h])]at h
  split at h
  ·next ha=>
   have:=List.all_eq_true.1 ha (f,v) (List.mem_of_getElem? (i:=i) (by rw[List.getElem?_zip_eq_some];exact⟨hf,hv⟩))
   exact this
  ·cases h
 ·rintro⟨h1,h2⟩
  unfold zQA
  rw[if_neg (by simp[h1]),if_pos]
  refine List.all_eq_true.2 λx hx=>?_
  obtain⟨i,hi⟩:=List.getElem?_of_mem hx
  obtain⟨a,b⟩:=List.getElem?_zip_eq_some.1 hi
  exact h2 i x.1 x.2 a b
theorem yJf {f:Fld} {p:Int} {v:Val} (h:(zKk f p v).2=0):zQM f p (zKk f p v).1=true:=by
 cases hB:zQn f && zQT p
 ·rw[zW9 hB]at h;simp at h
 by_cases hv:zXc v ≠ 0
 ·rw[zWR hB hv]at h;exact absurd h hv
 have hv:zXc v=0:=by simpa using hv
 rw[zKB hB hv]at h ⊢
 have hfB:zQn f=true:=by simp at hB;exact hB.1
 by_cases hk:v.kind=0
 ·unfold zZ4 at h ⊢
  rw[if_pos hk]at h ⊢
  by_cases hn:f.null=true
  ·rw[if_pos hn]
   unfold zQM
   rw[if_neg (by simp[hv]),if_pos hk];exact hn
  ·rw[if_neg hn]at h;simp at h
 by_cases aG:v.kind ≠ (zXt f).kind
 ·unfold zZ4 at h;rw[if_neg hk,if_pos aG]at h;simp at h
 by_cases h4:f.kind=4
 ·obtain⟨wl,wh⟩:=yQm hfB h4
  have e1:zZ4 f p v=if zXM (zZo (v.s.data.toList.take f.width.toNat)) p then(⟨4,0,bs (zZo (v.s.data.toList.take f.width.toNat))⟩,0)else(noV,10):=by
   unfold zZ4;rw[if_neg hk,if_neg aG,if_pos h4]
  cases ht:zXM (zZo (v.s.data.toList.take f.width.toNat)) p
  ·rw[e1,ht]at h;simp at h
  rw[e1,ht,if_pos rfl]
  have hbl:=yZo (v.s.data.toList.take f.width.toNat)
  have htl:=List.length_take_le f.width.toNat v.s.data.toList
  have aN:=xQi (v.s.data.toList.take f.width.toNat)
  generalize zZo (v.s.data.toList.take f.width.toNat)=B at *
  have hvB:zXc ⟨4,0,bs B⟩=0:=by
   rw[zZg,if_neg (by dsimp only;rw[zQ3];omega)];rfl
  unfold zQM
  rw[if_neg (by simp[hvB]),if_neg (show ¬(4:Int)=0 by decide),if_neg (by omega),if_neg (by simp[h4]),if_neg (by omega),if_pos h4]
  rw[zQH,aN,ht,zQ3,decide_eq_true rfl,decide_eq_true (show((B.length:Nat):Int)<=f.width by omega)];rfl
 ·unfold zZ4 at h ⊢
  rw[if_neg hk,if_neg aG,if_neg h4]at h ⊢
  cases hf:zQM f p v
  ·rw[hf]at h;simp at h
  ·simp[hf]
variable {p : Int} {f : List Fld} {d : Dat}
theorem yXH {l:List Fld} {p:Int} {r:Rec} (h:zQA l p r=0) {i:Nat} {v:Val} (hv:∀g,l[i]?=some g->zQM g p v=true):zQA l p { r with v:=r.v.set i v }=0:=by
 obtain⟨h1,h2⟩:=zKg.1 h
 refine zKg.2 ⟨by rw[List.length_set];exact h1,λj g x hg hx=>?_⟩
 rw[List.getElem?_set]at hx
 split at hx
 ·rename_i e
  subst e
  split at hx
  ·cases hx;exact hv g hg
  ·cases hx
 ·exact h2 j g x hg hx
theorem xK0{l:List Fld}{s:ByteArray}{i:Nat}(h:yWA l s=some i):i<l.length:=by
 unfold yWA at h
 obtain⟨h1,_⟩:=List.findIdx?_eq_some_iff_getElem.1 h
 exact h1
theorem yVn(h:Inv p f d)(k:Int)(nm:ByteArray)(v:Val):Inv p f (d.set k nm v):=by
 have hn:=(zXw.of h.t.ok).n300
 unfold Dat.set
 split
 ·exact h
 ·rename_i i hi
  split
  ·rename_i hc
   have hil:=xK0 hi
   refine xQ3 h (by rw[List.length_modify];exact hn) (by rw[List.length_modify];exact Nat.le_refl _) λx hx=>?_
   rcases zYD hx with hx|⟨y,hy,rfl⟩
   ·exact h.recR x hx
   ·refine yXH (h.recR y (List.mem_of_getElem? hy)) λg hg=>?_
    have e:d.σ.t.fields.getD i default=g:=by rw[List.getD_eq_getElem?_getD,h.t.fields,hg];rfl
    rw[e,h.t.page]at hc ⊢
    exact yJf hc.2
  ·exact h
theorem zV6{F:Fls}{W:List Wr}{c:Nat}(hF:F.1.length<=c/\F.2.length<=c)(hW:∀x ∈ W,x.b.length<=700000):(W.foldl zQK F).1.length<=c+700000 * W.length/\(W.foldl zQK F).2.length<=c+700000 * W.length:=by
 induction W generalizing F c with
 | nil=>simpa using hF
 | cons x W ih=>
  have hx:=hW x List.mem_cons_self
  have h1:(zQK F x).1.length<=c+700000/\(zQK F x).2.length<=c+700000:=by
   rw[yXg]
   unfold Fls.put Fls.get
   have l1:=List.length_take_le (min x.at_ F.1.length).toNat F.1
   have l2:=List.length_take_le (min x.at_ F.2.length).toNat F.2
   have m1:(F.1.take (min x.at_ F.1.length).toNat).length<=F.1.length:=by rw[List.length_take];exact Nat.min_le_right _ _
   have m2:(F.2.take (min x.at_ F.2.length).toNat).length<=F.2.length:=by rw[List.length_take];exact Nat.min_le_right _ _
   split <;> simp only[List.length_append] <;> omega
  have:=ih h1 λy hy=>hW y (List.mem_cons_of_mem _ hy)
  rw[List.foldl_cons,List.length_cons]
  omega
end Go.Proofs.YtaeecpjhfmcliaaGreatDoor
/- Table: the laws on the reading of bytes. No condition. -/
set_option maxRecDepth 100000
set_option maxHeartbeats 1000000
namespace Go.Proofs.YtaeecpjhfmcliaaGreatDoor
open Go.Sh Go.RowKit Tryz
theorem tbl_eq{a b:Tbl}:(a=b) ↔ (a.page=b.page/\a.fields=b.fields/\a.recs=b.recs):=by
 obtain⟨a1,a2,a3⟩:=a;obtain⟨b1,b2,b3⟩:=b;simp
theorem xQd{w:World}{a b:Tbl}{fa ra fb rb:SV}(ha:zXD w a fa ra)(hb:zXD w b fb rb):Calls prog 18 #[zYj a fa ra,zYj b fb rb] w λe w'=>e=.returned (.bool (decide (a=b)))/\Pu w w':=by
 refine yVQ _ _ _ _ _ _ w _ (alB λw1 ax aE=>alB λw2 ar aN=>?_)
 have aM:=ax.trans ar
 have b1:∀{wz},Pu w2 wz->_:=λ{wz} (h:Pu w2 wz)=>yQ0 (t:=a) (f:=fa) (q:=ra) (h.blk (ar.blk aE))
 have b2:∀{wz},Pu w2 wz->_:=λ{wz} (h:Pu w2 wz)=>yQ0 (t:=b) (f:=fb) (q:=rb) (h.blk aN)
 have c1:=(b1 (Pu.refl _)).1
 have c2:=(b2 (Pu.refl _)).1
 rw[xZm]at c1 c2
 have no:∀{w':World},Pu w2 w'->a ≠ b->(Ending.returned (.bool false)=.returned (.bool (decide (a=b)))/\Pu w w'):=λh hne=>⟨by rw[decide_eq_false hne],aM.trans h⟩
 refine⟨_,c1,_,c2,Br.of (λd=>no (Pu.refl _) λe=>zQ5 d (by rw[e])) (λd=>⟨_,(b1 (Pu.refl _)).2.1,_,(b2 (Pu.refl _)).2.1,(yQR (RdF.of (ha.fields.pu aM)) (RdF.of (hb.fields.pu aM))).mono ?_⟩)⟩
 have hpg:=zQs d
 rintro e w3 ⟨rfl,aA⟩
 refine⟨_,rfl,Br.of (λd1=>no aA λe=>by rw[e]at d1;simp at d1) (λd1=>⟨_,(b1 aA).2.2,_,(b2 aA).2.2,?_⟩)⟩
 have hfl:a.fields=b.fields:=by simpa using d1
 have hla:=ha.recs.len
 have hlb:=hb.recs.len
 have hlm:=ha.recs.lim
 refine Br.of (λd2=>no aA λe=>zQ5 d2 (by rw[hla,hlb,e])) (λd2=>?_)
 have hlen:a.recs.length=b.recs.length:=by have:=zQs d2;omega
 refine zQ0 a.recs.length (λk t w'=>t=(k:Int)/\a.recs.take k=b.recs.take k/\Pu w2 w') ⟨rfl,by simp,aA⟩ ?_
 rintro k J t w4 hk ⟨ht,he,hp⟩ hJ
 obtain rfl:t=(k:Int):=ht
 refine⟨_,(b1 hp).2.2,Br.of (λd3=>zQf λw5 aV _=>?_) (λd3=>?_)⟩
 ·have aG:k<a.recs.length:=by have:=zQk d3;omega
  have p5:=hp.trans aV
  obtain⟨x,hx⟩:=zQZ aG
  obtain⟨y,hy⟩:=zQZ (show k<b.recs.length by omega)
  obtain⟨p,sx,hpa,_,vx,x0,x1⟩:=yQz (ha.recs.pu (aM.trans p5)) hx
  obtain⟨q,sy,hqa,_,vy,y0,y1⟩:=yQz (hb.recs.pu (aM.trans p5)) hy
  refine⟨_,(b1 p5).2.2,p,hpa,by omega,by omega,_,x0,_,x1,_,(b2 p5).2.2,q,hqa,by omega,by omega,_,y0,_,y1,(yXx (RdV.of vx) (RdV.of vy)).mono ?_⟩
  rintro e w6 ⟨rfl,bV⟩
  refine⟨_,rfl,Br.of (λd4=>no (p5.trans bV) λe=>?_) (λd4=>?_)⟩
  ·have:x=y:=by rw[e]at hx;rw[hx]at hy;exact Option.some.inj hy
   subst this
   simp at d4
  ·rw[zQa (by omega) (by omega)]
   have hxy:x=y:=by
    rw[xKt]
    simpa using d4
   exact hJ _ _ aG ⟨by omega,zZP he hx hy hxy,p5.trans bV⟩
 ·have aG:k=a.recs.length:=by have:=zQd d3;omega
  subst aG
  rw[List.take_length,hlen,List.take_length]at he
  exact⟨by rw[decide_eq_true (tbl_eq.2 ⟨hpg,hfl,he⟩)],aM.trans hp⟩
theorem zQe.set{w1 w:World}{s:SV}{l:List UInt8}(h:zQe w1 w s l)(hp:Pu w1 w){i:Nat}(hi:i<l.length)(b:UInt8):∃a,s.a=some a/\∀K:World->Prop,(∀w',zQe w1 w' s (l.set i b)->Pu w1 w'->K w')->st1 (a.add i) (u8V b) w K:=by
 obtain⟨a,ha,_⟩:=h.1.st1 (j:=i) (by simpa using hi) (u8V b) (K:=λ_=>True) λ_ _ _ _=>trivial
 refine⟨a,ha,λK hK=>?_⟩
 obtain⟨a',ha',hst⟩:=h.1.st1 (j:=i) (by simpa using hi) (u8V b) (K:=K) λw' h1 h2 _=>hK w' ⟨by rw[List.map_set];exact h1,h.2⟩ (hp.andNew h2 λi hi=>h.2 i hi)
 rw[ha]at ha';cases ha'
 exact hst
end Go.Proofs.YtaeecpjhfmcliaaGreatDoor
/- The log: how tables, files and a store lie in memory. No condition but those stated. -/
namespace Go.Proofs.YtaeecpjhfmcliaaGreatDoor
open Go.Sh Go.RowKit Tryz
variable {w w' : World}
theorem zWx:zXq prog 35=3:=by kernel_rfl
theorem xZs:zXq prog 67=2:=by kernel_rfl
theorem vk73:zXq prog 73=3:=by kernel_rfl
theorem vk90:zXq prog 90=3:=by kernel_rfl
theorem vu22:prog.underlying 22=some (.slice 5):=by kernel_rfl
theorem vu24:prog.underlying 24=some (.pointer 108):=by kernel_rfl
theorem vu33:prog.underlying 33=some (.slice 67):=by kernel_rfl
theorem vu38:prog.underlying 38=some (.slice 73):=by kernel_rfl
theorem vu32:prog.underlying 32=some (.slice 129):=by kernel_rfl
theorem vu52:prog.underlying 52=some (.slice 3):=by kernel_rfl
theorem vu82:prog.underlying 82=some (.slice 22):=by kernel_rfl
theorem vu87:prog.underlying 87=some (.slice 90):=by kernel_rfl
theorem vu106:prog.underlying 106=some (.slice 35):=by kernel_rfl
theorem vi5:(prog.info? 5).map (λi=>(i.zero,i.size,i.bytes))=some (some (.int .u8 0),1,1):=by kernel_rfl
theorem vi22:(prog.info? 22).map (λi=>(i.zero,i.size,i.bytes))=some (some (.slice none 0 0),1,24):=by kernel_rfl
theorem vi3:(prog.info? 3).map (λi=>(i.zero,i.size,i.bytes))=some (some (.int .i64 0),1,8):=by kernel_rfl
theorem vi35:(prog.info? 35).map (λi=>(i.zero,i.size,i.bytes))=some (some (.agg #[.int .i64 0,.slice none 0 0,.slice none 0 0]),3,56):=by kernel_rfl
theorem vi67:(prog.info? 67).map (λi=>(i.zero,i.size,i.bytes))=some (some (.agg #[.bool false,.slice none 0 0]),2,32):=by kernel_rfl
theorem vi73:(prog.info? 73).map (λi=>(i.zero,i.size,i.bytes))=some (some (.agg #[.int .i64 0,.int .i64 0,.string ⟨#[]⟩]),3,32):=by kernel_rfl
theorem vi90:(prog.info? 90).map (λi=>(i.zero,i.size,i.bytes))=some (some (.agg #[.int .i64 0,.int .i64 0,.slice none 0 0]),3,40):=by kernel_rfl
theorem vi129:(prog.info? 129).map (λi=>(i.zero,i.size,i.bytes))=some (some (.agg #[.string ⟨#[]⟩,.int .i64 0,.int .i64 0,.bool false]),4,40):=by kernel_rfl
abbrev slV(s:SV):Value:=.slice s.a s.len s.cap
structure HT where
 page:Int
 f:SV
 r:SV
 hs:List (Bool × SV)
abbrev yJ8(h:HT):List Value:=[.int .i64 h.page,slV h.f,slV h.r]
theorem zQV(h:HT):(yJ8 h).length=3:=rfl
def vBl (hs:List (Bool × SV)):List Nat:=hs.flatMap λx=>zQb x.2
theorem yZK (x:Bool × SV) (hs:List (Bool × SV)):vBl (x :: hs)=zQb x.2 ++ vBl hs:=rfl
theorem zVQ {hs:List (Bool × SV)} {x:Bool × SV} {b:Nat} (hx:x ∈ hs) (hb:b ∈ zQb x.2):b ∈ vBl hs:=List.mem_flatMap.2 ⟨x,hx,hb⟩
def HT.own(h:HT)(b:Nat):Prop:=b ∈ zQb h.r∨b ∈ vBl h.hs
structure zJv(w:World)(t:Tbl)(h:HT):Prop where
 page:h.page=t.page
 rw_:zQj w 67 2 h.r (h.hs.flatMap yJh)
 len:h.hs.length=t.recs.length
 rec_:∀(i:Nat) (x:Bool × SV) (r:Rec),h.hs[i]?=some x->t.recs[i]?=some r->x.1=r.gone/\zQj w 73 3 x.2 (r.v.flatMap zVO)
 nd:(vBl h.hs).Nodup
variable {t : Tbl} {h : HT}
theorem zJv.fr{B:Nat->Prop}(ht:zJv w t h)(hf:Fr B w w')(hn:∀b,h.own b->¬B b):zJv w' t h where
 page:=ht.page
 rw_:=ht.rw_.fr hf λb hb=>hn b (.inl hb)
 len:=ht.len
 rec_:=λi x r hx hr=>⟨(ht.rec_ i x r hx hr).1,(ht.rec_ i x r hx hr).2.fr hf λb hb=>hn b (.inr (zVQ (List.mem_of_getElem? hx) hb))⟩
 nd:=ht.nd
theorem zJv.pu(ht:zJv w t h)(hp:Pu w w'):zJv w' t h:=ht.fr (Fr.pu hp:Fr (λ_=>False) w w') λ_ _ h=>h
theorem zJv.lt(ht:zJv w t h):∀b,h.own b->b<w.heap.size:=λb hb=>by
 rcases hb with hb|hb
 ·exact ht.rw_.lt b hb
 ·obtain⟨x,hx,hb⟩:=List.mem_flatMap.1 hb
  obtain⟨i,hi⟩:=List.getElem?_of_mem hx
  obtain⟨r,hr⟩:=zQZ (l:=t.recs) (k:=i) (by rw[←ht.len];exact(List.getElem?_eq_some_iff.1 hi).1)
  exact(ht.rec_ i x r hi hr).2.lt b hb
theorem zJv.other (ht:zJv w t h) {b:Nat} {c:Array Value} {e:TypeId} {f:Nat × Nat} (hb:w.heap[b]?=some (.cells c e f)) (h1:e ≠ 67) (h2:e ≠ 73):¬h.own b:=λho=>by
 rcases ho with ho|ho
 ·exact ht.rw_.other hb (Ne.symm h1) ho
 ·obtain⟨x,hx,ho⟩:=List.mem_flatMap.1 ho
  obtain⟨i,hi⟩:=List.getElem?_of_mem hx
  obtain⟨r,hr⟩:=zQZ (l:=t.recs) (k:=i) (by rw[←ht.len];exact(List.getElem?_eq_some_iff.1 hi).1)
  exact(ht.rec_ i x r hi hr).2.other hb (Ne.symm h2) ho
theorem yJM{f:Fld}{p:Int}{v:Val}(h:zQM f p v=true):zZZ v.kind/\zZZ v.n/\v.s.size<=2048:=by
 have hv:zXc v=0:=by
  unfold zQM at h
  split at h
  ·cases h
  ·rename_i hx;simpa using hx
 unfold zXc at hv
 split at hv
 ·cases hv
 rename_i hs
 split at hv
 ·rename_i hk
  simp only[Bool.and_eq_true]at hk
  have h1:=hk.1
  unfold okN at h1
  unfold zZZ
  split at h1
  ·have:=of_decide_eq_true h1;omega
  split at h1
  ·simp at h1;omega
  split at h1
  ·simp at h1;omega
  split at h1
  ·simp at h1;omega
  split at h1
  ·have:=of_decide_eq_true h1;omega
  ·cases h1
 ·cases hv
theorem zWq{t:Tbl}(hv:zQi t=0):R64 t.recs:=λr hr=>by
 have hR:=zXw.of hv
 obtain⟨h1,h2⟩:=zKg.1 (hR.recs r hr)
 have gk:=(zXf hR.vf).2.2.2.1
 refine⟨λv hv=>?_,by omega⟩
 obtain⟨i,hi⟩:=List.getElem?_of_mem hv
 obtain⟨f,hf⟩:=zQZ (l:=t.fields) (k:=i) (by have:=(List.getElem?_eq_some_iff.1 hi).1;omega)
 have:=yJM (h2 i f v hf hi)
 exact⟨this.1,this.2.1⟩
theorem xWz {s:SV} {l:List Val} (h:zQj w 73 3 s (l.flatMap zVO)) (hb:l.length<=1000000) (mv:V64 l):zXF w s l:=zJy.rdS (w0:={ w with heap:=#[] }) ⟨h,λ_ _=>Nat.zero_le _⟩ hb mv
theorem zJv.rd(ht:zJv w t h)(hf:zXF w h.f t.fields)(hv:zQi t=0):zXD w t h.f h.r:=by
 have hR:=zXw.of hv
 have mv:=zWq hv
 have hl:=ht.rw_.len zQN (by decide)
 have te:=ht.len
 have hn:=hR.n300
 have hp:=hR.page
 unfold zQT at hp
 simp only[Bool.and_eq_true,decide_eq_true_eq]at hp
 refine⟨⟨by omega,by omega⟩,hf,by omega,ht.rw_.le_cap.1,by omega,λi r hr=>?_⟩
 obtain⟨x,hx⟩:=zQZ (l:=h.hs) (k:=i) (by have:=(List.getElem?_eq_some_iff.1 hr).1;omega)
 obtain⟨e1,e2⟩:=ht.rec_ i x r hx hr
 obtain⟨a,h1,_,c0⟩:=ht.rw_.elem zQN hx (o:=0) rfl
 obtain⟨a1,md,_,c1⟩:=ht.rw_.elem zQN hx (o:=1) rfl
 rw[h1]at md;cases md
 obtain⟨q1,q2⟩:=mv r (List.mem_of_getElem? hr)
 refine⟨a,h1,_,⟨x.2,rfl,xWz e2 q2 q1⟩,λj v hv=>?_⟩
 rcases j with _|_|j <;> simp at hv
 ·subst hv;rw[←e1];exact c0
 ·subst hv;exact c1
theorem zZL{t:Tbl}(hv:zQi t=0):Lim.ok t.fields:=λf hf=>by
 have:=(zQR (List.all_eq_true.1 (zJt.of hv).all f hf)).2.1
 show f.name.size<=140737488355328
 omega
structure zXx(w:World)(s q0 q1:SV)(F:Fls):Prop where
 len:s.len=2
 cap:2<=s.cap
 ex:∃a,s.a=some a/\w.cell? (a.add 0)=some (slV q0)/\w.cell? (a.add 1)=some (slV q1)
 b0:ByV w q0 F.1
 b1:ByV w q1 F.2
theorem zXx.pu{s q0 q1:SV}{F:Fls}(h:zXx w s q0 q1 F)(hp:Pu w w'):zXx w' s q0 q1 F:=by
 obtain⟨a,h1,h2,h3⟩:=h.ex
 exact⟨h.len,h.cap,⟨a,h1,hp.cell h2,hp.cell h3⟩,h.b0.pu hp,h.b1.pu hp⟩
structure SL where
 S:Nat
 now:HT
 lv:SV
 lh:List HT
 dn:SV
 dh:List HT
 first:SV
 f0:SV
 f1:SV
 last:SV
 l0:SV
 l1:SV
 wr:SV
 wh:List (Int × Int × SV)
 pt:SV
abbrev wrC(x:Int × Int × SV):List Value:=[.int .i64 x.1,.int .i64 x.2.1,slV x.2.2]
theorem zJj(x:Int × Int × SV):(wrC x).length=3:=rfl
def zJr(mu:Int)(L:SL):Array Value:=#[.int .i32 mu,.int .u32 0,.int .i64 L.now.page,slV L.now.f,slV L.now.r,slV L.lv,slV L.dn,slV L.first,slV L.last,slV L.wr,slV L.pt]
def SL.own(L:SL)(b:Nat):Prop:=b=L.S∨b ∈ zQb L.lv∨b ∈ zQb L.dn∨b ∈ zQb L.wr∨b ∈ zQb L.pt∨∃h ∈ L.now :: L.lh,h.own b
abbrev SL.ptr(L:SL):Value:=.pointer (some ⟨L.S,0,none⟩)
structure KpAt(w:World)(L:SL)(d:Dat):Prop where
 nf:zXF w L.now.f d.σ.t.fields
 lf:∀(i:Nat) h t,L.lh[i]?=some h->d.σ.lev[i]?=some t->zXF w h.f t.fields
 dt:∀(i:Nat) h t,L.dh[i]?=some h->d.σ.done[i]?=some t->h.page=t.page/\zXD w t h.f h.r
 fi:zXx w L.first L.f0 L.f1 d.first
 la:zXx w L.last L.l0 L.l1 d.last
 wb:∀(i:Nat) x y,L.wh[i]?=some x->d.wr[i]?=some y->x.1=y.file/\x.2.1=y.at_/\ByV w x.2.2 y.b
theorem KpAt.pu{L:SL}{d:Dat}(h:KpAt w L d)(hp:Pu w w'):KpAt w' L d:=
 ⟨h.nf.pu hp,λi x t hx ht=>(h.lf i x t hx ht).pu hp,λi x t hx ht=>⟨(h.dt i x t hx ht).1,(h.dt i x t hx ht).2.pu hp⟩,h.fi.pu hp,h.la.pu hp,λi x y hx hy=>⟨(h.wb i x y hx hy).1,(h.wb i x y hx hy).2.1,(h.wb i x y hx hy).2.2.pu hp⟩⟩
structure zQS(X:Nat->Prop)(w:World)(L:SL)(d:Dat)(mu:Int):Prop where
 st:w.heap[L.S]?=some (.cells (zJr mu L) 108)
 lv:zQj w 35 3 L.lv (L.lh.flatMap yJ8)
 dn:zQj w 35 3 L.dn (L.dh.flatMap yJ8)
 wr:zQj w 90 3 L.wr (L.wh.flatMap wrC)
 pt:zQj w 3 1 L.pt (d.pts.map (Value.int .i64))
 now:zJv w d.σ.t L.now
 ll:L.lh.length=d.σ.lev.length
 dl:L.dh.length=d.σ.done.length
 wl:L.wh.length=d.wr.length
 lvs:∀(i:Nat) h t,L.lh[i]?=some h->d.σ.lev[i]?=some t->zJv w t h
 ld:∀b ∈ zQb L.lv,b ∉ zQb L.dn
 dj:∀x ∈ L.lh,∀b,L.now.own b->¬x.own b
 djl:∀(i j:Nat) x y,i ≠ j->L.lh[i]?=some x->L.lh[j]?=some y->∀b,x.own b->¬y.own b
 xl:∀b,X b->b<w.heap.size
 kp:∀w',Fr (λb=>L.own b∨X b) w w'->KpAt w' L d
variable {X : Nat -> Prop} {L L' : SL} {d d' : Dat} {mu : Int}
theorem zQS.kp0(h:zQS X w L d mu):KpAt w L d:=h.kp w (Fr.refl _ _)
theorem zQS.lev_tab(h:zQS X w L d mu){x:HT}(hx:x ∈ L.lh):∃t,t ∈ d.σ.lev/\zJv w t x:=by
 obtain⟨i,hi⟩:=List.getElem?_of_mem hx
 obtain⟨t,ht⟩:=zQZ (l:=d.σ.lev) (k:=i) (by rw[←h.ll];exact(List.getElem?_eq_some_iff.1 hi).1)
 exact⟨t,List.mem_of_getElem? ht,h.lvs i x t hi ht⟩
theorem zQS.any_tab(h:zQS X w L d mu){x:HT}(hx:x ∈ L.now :: L.lh):∃t,zJv w t x:=by
 rcases List.mem_cons.1 hx with rfl|hx
 ·exact⟨_,h.now⟩
 ·obtain⟨t,_,ht⟩:=h.lev_tab hx;exact⟨t,ht⟩
theorem zQS.own_lt(h:zQS X w L d mu){b:Nat}(hb:L.own b):b<w.heap.size:=by
 rcases hb with rfl|hb|hb|hb|hb|⟨x,hx,hb⟩
 ·exact zQz h.st
 ·exact h.lv.lt b hb
 ·exact h.dn.lt b hb
 ·exact h.wr.lt b hb
 ·exact h.pt.lt b hb
 ·obtain⟨t,ht⟩:=h.any_tab hx;exact ht.lt b hb
theorem zQS.fr{B:Nat->Prop}(h:zQS X w L d mu)(hf:Fr B w w')(hn:∀b,L.own b->¬B b)(hx:∀b,B b->b<w.heap.size->X b):zQS X w' L d mu where
 st:=hf.blk h.st (hn _ (.inl rfl))
 lv:=h.lv.fr hf λb hb=>hn b (.inr (.inl hb))
 dn:=h.dn.fr hf λb hb=>hn b (.inr (.inr (.inl hb)))
 wr:=h.wr.fr hf λb hb=>hn b (.inr (.inr (.inr (.inl hb))))
 pt:=h.pt.fr hf λb hb=>hn b (.inr (.inr (.inr (.inr (.inl hb)))))
 now:=h.now.fr hf λb hb=>hn b (.inr (.inr (.inr (.inr (.inr ⟨_,List.mem_cons_self,hb⟩)))))
 ll:=h.ll
 dl:=h.dl
 wl:=h.wl
 lvs:=λi x t h1 h2=>(h.lvs i x t h1 h2).fr hf λb hb=>hn b (.inr (.inr (.inr (.inr (.inr ⟨_,List.mem_cons_of_mem _ (List.mem_of_getElem? h1),hb⟩)))))
 ld:=h.ld
 dj:=h.dj
 djl:=h.djl
 xl:=λb hb=>Nat.lt_of_lt_of_le (h.xl b hb) hf.size
 kp:=λw2 h2=>h.kp w2 ((hf.mono λb hb hlt=>.inr (hx b hb hlt)).trans h2 λb hb _=>hb)
theorem zQS.pu(h:zQS X w L d mu)(hp:Pu w w'):zQS X w' L d mu:=h.fr (Fr.pu hp:Fr (λ_=>False) w w') (λ_ _ h=>h) (λ_ h=>h.elim)
theorem zQS.cell(h:zQS X w L d mu)(o:Nat):w.cell? ⟨L.S,o,none⟩=(zJr mu L)[o]?:=zQF h.st o
theorem zQS.cellA(h:zQS X w L d mu)(o:Nat):w.cell? ((⟨L.S,0,none⟩:Addr).add o)=(zJr mu L)[o]?:=by rw[zQr,Nat.zero_add];exact h.cell o
theorem zQS.cellB(h:zQS X w L d mu)(i o:Nat):w.cell? (((⟨L.S,0,none⟩:Addr).add i).add o)=(zJr mu L)[i+o]?:=by rw[zQr,zQr,Nat.zero_add];exact h.cell _
theorem zQS.rdNow(h:zQS X w L d mu)(hv:zQi d.σ.t=0):zXD w d.σ.t L.now.f L.now.r:=h.now.rd h.kp0.nf hv
structure zZy(w w':World)(L L':SL):Prop where
 fr:Fr L.own w w'
 own:∀b,L'.own b->L.own b∨w.heap.size<=b
 ptr:L'.S=L.S
theorem zZy.refl(w:World)(L:SL):zZy w w L L:=⟨Fr.refl _ _,λ_ h=>.inl h,rfl⟩
theorem zZy.pu(hp:Pu w w')(L:SL):zZy w w' L L:=⟨Fr.pu hp,λ_ h=>.inl h,rfl⟩
theorem zZy.trans{w'':World}{L'':SL}(h:zZy w w' L L')(k:zZy w' w'' L' L''):zZy w w'' L L'':=by
 refine⟨h.fr.trans k.fr λb hb hlt=>(h.own b hb).resolve_right (by omega),λb hb=>?_,k.ptr.trans h.ptr⟩
 rcases k.own b hb with h1|h1
 ·exact h.own b h1
 ·exact .inr (Nat.le_trans h.fr.size h1)
theorem zZy.keep {Q:World->Prop} (h:zZy w w' L L') (hq:∀w2,Fr (λb=>L.own b∨X b) w w2->Q w2) (hxl:∀b,X b->b<w.heap.size):∀w2,Fr (λb=>L'.own b∨X b) w' w2->Q w2:=λw2 h2=>
 hq w2 ((h.fr.mono λb hb _=>.inl hb).trans h2 λb hb hlt=>by
  rcases hb with hb|hb
  ·exact .inl ((h.own b hb).resolve_right (by omega))
  ·exact .inr hb)
end Go.Proofs.YtaeecpjhfmcliaaGreatDoor
/- The log: rows, tables and files are copied. No condition but those stated. -/
namespace Go.Proofs.YtaeecpjhfmcliaaGreatDoor
open Go.Sh Go.RowKit Tryz
variable {w w' : World}
def zVT(w:World)(e:TypeId)(sz:Nat)(news:List Value):Rt:=λx w'=>∃q:SV,x=.returned (slV q)/\zQj w' e sz q news/\(∀b ∈ zQb q,w.heap.size<=b)/\Pu w w'
theorem zJA {t e:TypeId} {sz b:Nat} {z:Value} (ht:prog.underlying t=some (.slice e)) (hi:(prog.info? e).map (λi=>(i.zero,i.size,i.bytes))=some (some z,sz,b)) (hz:z.cells.size=sz) (hsz:0<sz)
  (s:SV) {news:List Value} (hl:news.length=s.len * sz) (hn:∀j u,news[j]?=some u->∃a,s.a=some a/\w.cell? (a.add j)=some u) (h1:∀u ∈ news,u.oneCell'=true) (hb:s.len * (b+1)<=140737488355328)
  :
  ∃b4:Bool,∃w1:World,(eqS .eql t (.tmp 3) (.const (.slice none 0 0)) (.slice s.a s.len s.cap) (.slice none 0 0)).run prog w=.ok (.bool b4) w1/\
  Br b4 (zVT w e sz news (.returned (.slice none 0 0)) w1) (alE (.cells #[] e) w1 λr5 w3=>
   ∃l7:SV,∃w4:World,(Builtin.append_ #[t,t] t #[.slice (some ⟨r5,0,none⟩) 0 0,.slice s.a s.len s.cap]).run prog w3=.ok (.slice l7.a l7.len l7.cap) w4/\zVT w e sz news (.returned (.slice l7.a l7.len l7.cap)) w4):=by
 refine⟨_,w,yQh ht _ _ _ _ _ w,Br.of (λhn'=>?_) (λhn'=>?_)⟩
 ·have oG:news=[]:=by
   cases news with
   | nil=>rfl
   | cons v l=>
    obtain⟨a,ha,_⟩:=hn 0 v rfl
    rw[ha]at hn';cases hn'
  subst oG
  exact⟨⟨none,0,0⟩,rfl,zQj.nil _ _ _,by simp[zQb],Pu.refl w⟩
 ·refine zVD λw1 gT=>?_
  have ax:Pu w w1:=by rw[gT];exact Pu.alloc w _
  have nL:zQj w1 e sz ⟨some ⟨w.heap.size,0,none⟩,0,0⟩ []:=⟨by simp,.inr ⟨_,#[],rfl,by rw[gT];exact zXH w _,Nat.le_refl _,Nat.zero_le _,by simp,by simp⟩⟩
  obtain⟨q,w2,hr,hrow,hf,hblk,_⟩:=zQ9 (P:=prog) (ty:=t) ht hi hz hsz nL (A:=s.a) (m:=s.len) (c:=s.cap) (news:=news) hl (λj u hu=>by
   obtain⟨a,ha,hc⟩:=hn j u hu
   exact⟨a,ha,ax.cell hc⟩) h1 (by show(0+s.len) * (b+1)<=_;rw[Nat.zero_add];exact hb)
  rw[List.nil_append]at hrow
  refine⟨q,w2,hr,q,rfl,hrow,λb hb=>?_,ax.andNew hf λb hb=>by simp[zQb]at hb;omega⟩
  rcases hblk b hb with h|h
  ·simp[zQb]at h;omega
  ·have:=ax.size;omega
theorem zW8 {α:Type} {cells:α->List Value} {n:Nat} (hn:∀x,(cells x).length=n) (h0:0<n) {s:SV} {l:List α} (h:∀i x,l[i]?=some x->∃a,s.a=some a/\∀o v,(cells x)[o]?=some v->w.cell? ((a.add (i * n)).add o)=some v) :
  ∀j u,(l.flatMap cells)[j]?=some u->∃a,s.a=some a/\w.cell? (a.add j)=some u:=λj u hu=>by
 have hj:j<l.length * n:=by have:=(List.getElem?_eq_some_iff.1 hu).1;rwa [zQ4 hn]at this
 have hd:j / n<l.length:=(Nat.div_lt_iff_lt_mul h0).2 hj
 have hm:j / n * n+j % n=j:=by have:=Nat.div_add_mod j n;rw[Nat.mul_comm]at this;exact this
 obtain⟨x,hx⟩:=zQZ hd
 obtain⟨a,ha,hc⟩:=h _ x hx
 have h2:=zKi hn hx (j % n) (Nat.mod_lt _ h0)
 rw[hm,hu]at h2
 have h3:=hc _ u h2.symm
 rw[Addr.add_add,hm]at h3
 exact⟨a,ha,h3⟩
theorem xQW{s:SV}{l:List Val}(h:RdV w s l)(hb:l.length<=1000000):Calls prog 78 #[slV s] w (zVT w 73 3 (l.flatMap zVO)):=by
 have hl:=h.len
 refine yVS s w _ (zJA vu38 vi73 rfl (by decide) s (by rw[zQ4 zXP,hl]) (zW8 zXP (by decide) λi v hv=>?_) (λu hu=>?_) (by omega))
 ·obtain⟨a,ha,c0,c1,c2⟩:=h.get i v hv
  refine⟨a,ha,λo u hu=>?_⟩
  rcases o with _|_|_|o <;> simp[zVO]at hu <;> subst hu <;> assumption
 ·obtain⟨y,_,hy⟩:=List.mem_flatMap.1 hu
  simp[zVO]at hy
  rcases hy with rfl|rfl|rfl <;> rfl
theorem xQz{s:SV}{l:List Fld}(h:zXF w s l)(hb:l.length<=1000000):Calls prog 97 #[slV s] w (zVT w 129 4 (l.flatMap zYp)):=by
 have hl:=h.len
 refine yWI s w _ (zJA vu32 vi129 rfl (by decide) s (by rw[zQ4 zJb,hl]) (zW8 zJb (by decide) λi v hv=>?_) (λu hu=>?_) (by omega))
 ·obtain⟨a,ha,_,_,_,_,c0,c1,c2,c3⟩:=zJw h hv
  refine⟨a,ha,λo u hu=>?_⟩
  rcases o with _|_|_|_|o <;> simp[zYp]at hu <;> subst hu <;> assumption
 ·obtain⟨y,_,hy⟩:=List.mem_flatMap.1 hu
  simp[zYp]at hy
  rcases hy with rfl|rfl|rfl|rfl <;> rfl
def RdR (w:World) (s:SV) (hs:List (Bool × SV)) (rs:List Rec):Prop:=s.len=rs.length/\hs.length=rs.length/\(∀(i:Nat) (x:Bool × SV),hs[i]?=some x->∃a,s.a=some a/\w.cell? ((a.add (i * 2)).add 0)=some (.bool x.1)/\w.cell? ((a.add (i * 2)).add 1)=some (slV x.2))/\∀(i:Nat) (x:Bool × SV) (r:Rec),hs[i]?=some x->rs[i]?=some r->x.1=r.gone/\RdV w x.2 r.v
theorem RdR.of{s:SV}{rs:List Rec}(h:zXF w s rs):∃hs,RdR w s hs rs:=by
 have key:∀i r,rs[i]?=some r->∃x:Bool × SV,∃a,s.a=some a/\w.cell? ((a.add (i * 2)).add 0)=some (.bool x.1)/\w.cell? ((a.add (i * 2)).add 1)=some (slV x.2)/\x.1=r.gone/\RdV w x.2 r.v:=λi r hr=>by
  obtain⟨a,t,h1,_,h2,h3,h4⟩:=yQz h hr
  exact⟨(r.gone,t),a,h1,h3,h4,rfl,RdV.of h2⟩
 have rO:∀n,n<=rs.length->∃hs:List (Bool × SV),hs.length=n/\∀(i:Nat) (x:Bool × SV) (r:Rec),hs[i]?=some x->rs[i]?=some r->∃a,s.a=some a/\w.cell? ((a.add (i * 2)).add 0)=some (.bool x.1)/\w.cell? ((a.add (i * 2)).add 1)=some (slV x.2)/\x.1=r.gone/\RdV w x.2 r.v:=by
  intro n
  induction n with
  | zero=>exact λ_=>⟨[],rfl,λi x r hx=>by simp at hx⟩
  | succ n ih=>
   intro hn
   obtain⟨hs,h1,h2⟩:=ih (by omega)
   obtain⟨r,hr⟩:=zQZ (l:=rs) (k:=n) (by omega)
   obtain⟨x,hx⟩:=key n r hr
   refine⟨hs ++ [x],by simp[h1],λi y r' hy hr'=>?_⟩
   rcases Nat.lt_trichotomy i n with hi|hi|hi
   ·rw[List.getElem?_append_left (by omega)]at hy;exact h2 i y r' hy hr'
   ·subst hi
    rw[List.getElem?_append_right (by omega),h1,Nat.sub_self]at hy
    simp at hy;subst hy
    rw[hr]at hr';cases hr'
    exact hx
   ·rw[List.getElem?_eq_none (by rw[List.length_append,h1,List.length_singleton];omega)]at hy;cases hy
 obtain⟨hs,h1,h2⟩:=rO rs.length (Nat.le_refl _)
 refine⟨hs,h.len,h1,λi x hx=>?_,λi x r hx hr=>?_⟩
 ·obtain⟨r,hr⟩:=zQZ (l:=rs) (k:=i) (by have:=(List.getElem?_eq_some_iff.1 hx).1;omega)
  obtain⟨a,q1,q2,q3,_⟩:=h2 i x r hx hr
  exact⟨a,q1,q2,q3⟩
 ·obtain⟨a,_,_,_,q4,q5⟩:=h2 i x r hx hr
  exact⟨q4,q5⟩
theorem xQ4 {s:SV} {hs:List (Bool × SV)} {rs:List Rec} (h:RdR w s hs rs) (hb:rs.length<=1000000):Calls prog 98 #[slV s] w (zVT w 67 2 (hs.flatMap yJh)):=by
 obtain⟨hl,te,h3,h4⟩:=h
 refine yVV s w _ (zJA vu33 vi67 rfl (by decide) s (by rw[zQ4 zQN,hl,te]) (zW8 zQN (by decide) λi v hv=>?_) (λu hu=>?_) (by omega))
 ·obtain⟨a,ha,c0,c1⟩:=h3 i v hv
  refine⟨a,ha,λo u hu=>?_⟩
  rcases o with _|_|o <;> simp[yJh]at hu <;> subst hu <;> assumption
 ·obtain⟨y,_,hy⟩:=List.mem_flatMap.1 hu
  simp[yJh]at hy
  rcases hy with rfl|rfl <;> rfl
theorem xQV{s:SV}{l:List UInt8}(h:ByV w s l)(hb:l.length<=1000000000):Calls prog 110 #[slV s] w λe w'=>∃q:SV,e=.returned (slV q)/\zQe w w' q l/\Pu w w':=by
 have hl:=h.len
 refine(yJL s w (zVT w 5 1 (l.map u8V)) (zJA vu22 vi5 rfl (by decide) s (by rw[List.length_map,Nat.mul_one,hl]) (λj u hu=>?_) (λu hu=>?_) (by omega))).mono λe w' ⟨q,h0,h1,h2,h3⟩=>⟨q,h0,⟨h1,h2⟩,h3⟩
 ·obtain⟨b,hb,rfl⟩:∃b,l[j]?=some b/\u8V b=u:=by simpa using hu
  obtain⟨a,ha,hc⟩:=h.get j b hb
  exact⟨a,ha,by rw[Nat.mul_one]at hc;exact hc⟩
 ·obtain⟨y,_,rfl⟩:=List.mem_map.1 hu;rfl
theorem zXx.cells{s q0 q1:SV}{F:Fls}(h:zXx w s q0 q1 F):∀(j:Nat) u,[slV q0,slV q1][j]?=some u->∃a,s.a=some a/\w.cell? (a.add j)=some u:=by
 obtain⟨a,h1,h2,h3⟩:=h.ex
 refine λj u hu=>⟨a,h1,?_⟩
 rcases j with _|_|j <;> simp at hu <;> subst hu <;> assumption
theorem yYL{s q0 q1:SV}{F:Fls}(h:zXx w s q0 q1 F):Calls prog 109 #[slV s] w (zVT w 22 1 [slV q0,slV q1]):=by
 have hl:=h.len
 refine yKf s w _ (zJA vu82 vi22 rfl (by decide) s (by rw[hl];rfl) h.cells (λu hu=>?_) (by omega))
 simp at hu
 rcases hu with rfl|rfl <;> rfl
structure zKF(w0 w:World)(t:Tbl)(h:HT):Prop where
 tab:zJv w t h
 f:zQj w 129 4 h.f (t.fields.flatMap zYp)
 fn:∀b ∈ zQb h.f,w0.heap.size<=b
 rn:∀b ∈ zQb h.r,w0.heap.size<=b
 vn:∀b ∈ vBl h.hs,w0.heap.size<=b
theorem zKF.fr{w0:World}{t:Tbl}{h:HT}{B:Nat->Prop}(ht:zKF w0 w t h)(hf:Fr B w w')(hn:∀b,w0.heap.size<=b->b<w.heap.size->¬B b):zKF w0 w' t h where
 tab:=ht.tab.fr hf λb hb=>hn b (hb.elim (ht.rn b) (ht.vn b)) (ht.tab.lt b hb)
 f:=ht.f.fr hf λb hb=>hn b (ht.fn b hb) (ht.f.lt b hb)
 fn:=ht.fn
 rn:=ht.rn
 vn:=ht.vn
theorem zKF.pu{w0:World}{t:Tbl}{h:HT}(ht:zKF w0 w t h)(hp:Pu w w'):zKF w0 w' t h:=ht.fr (Fr.pu hp:Fr (λ_=>False) w w') λ_ _ _ h=>h
theorem zKF.low{w0 w1:World}{t:Tbl}{h:HT}(ht:zKF w1 w t h)(hz:w0.heap.size<=w1.heap.size):zKF w0 w t h:=
 ⟨ht.tab,ht.f,λb hb=>Nat.le_trans hz (ht.fn b hb),λb hb=>Nat.le_trans hz (ht.rn b hb),λb hb=>Nat.le_trans hz (ht.vn b hb)⟩
theorem zKQ {t:Tbl} {s:SV} (hv:zQi t=0) (ht:zQj w 129 4 s (t.fields.flatMap zYp)):zXF w s t.fields:=by
 have ho:=zJt.of hv
 have gk:=ho.n16
 refine zWr.rd (w0:={ w with heap:=#[] }) ⟨ht,λ_ _=>Nat.zero_le _⟩ (by omega) λg hg=>?_
 have hg:=List.all_eq_true.1 ho.all g hg
 have h1:=yQq hg
 have h2:=zXh hg
 exact⟨⟨by omega,by omega⟩,⟨by omega,by omega⟩⟩
theorem zKF.fields{w0:World}{t:Tbl}{h:HT}(ht:zKF w0 w t h)(hv:zQi t=0):zXF w h.f t.fields:=zKQ hv ht.f
theorem zKF.rd{w0:World}{t:Tbl}{h:HT}(ht:zKF w0 w t h)(hv:zQi t=0):zXD w t h.f h.r:=ht.tab.rd (ht.fields hv) hv
theorem zYi(s:SV):(zQb s).Nodup:=by unfold zQb;split <;> simp
theorem zXZ (a b:List (Bool × SV)):vBl (a ++ b)=vBl a ++ vBl b:=by unfold vBl;rw[List.flatMap_append]
theorem xWu {hs:List (Bool × SV)} {k:Nat} {x:Bool × SV} (hk:k<hs.length):hs.set k x=hs.take k ++ x :: hs.drop (k+1):=by
 rw[List.set_eq_take_append_cons_drop,if_pos hk]
theorem RdR.pu {s:SV} {hs:List (Bool × SV)} {rs:List Rec} (h:RdR w s hs rs) (hp:Pu w w'):RdR w' s hs rs:=
 ⟨h.1,h.2.1,λi x hx=>let ⟨a,h1,h2,h3⟩:=h.2.2.1 i x hx;⟨a,h1,hp.cell h2,hp.cell h3⟩,λi x r hx hr=>⟨(h.2.2.2 i x r hx hr).1,(h.2.2.2 i x r hx hr).2.pu hp⟩⟩
theorem zJf{t:Tbl}{f r:SV}(h:zXD w t f r)(hv:zQi t=0):Calls prog 56 #[zYj t f r] w λe w'=>∃q:HT,e=.returned (.agg #[.int .i64 q.page,slV q.f,slV q.r])/\zKF w w' t q/\Pu w w':=by
 have hR:=zXw.of hv
 have fK:=hR.n300
 have mv:=zWq hv
 have gk:=(zJt.of hv).n16
 obtain⟨hs,hrr⟩:=RdR.of h.recs
 have r2:=hrr.2.1
 refine yVb _ _ _ w _ (alB λw1 ax aE=>alB λw2 ar aN=>?_)
 have cO:=ar.blk aE
 have aM:=ax.trans ar
 refine⟨f,cl cO 1,(xQz (h.fields.pu aM) (by omega)).mono ?_⟩
 rintro e w3 ⟨q,rfl,hq,hqn,aA⟩
 have lE:=aA.blk cO
 have rv:=aA.blk aN
 have l1:w.heap.size<w1.heap.size:=zQz aE
 have l2:w1.heap.size<w2.heap.size:=zQz aN
 have z3:=aA.size
 refine⟨q,rfl,zQw lE (by show 1<3;omega) λw4 hw4 jY=>?_⟩
 have f34:Fr (·=w.heap.size) w3 w4:=by rw[hw4];exact Fr.cell w3 _ _ _
 have cW:Pu w w4:=(aM.trans aA).andNew f34 λi hi=>by rw[show i=_ from hi];exact Nat.le_refl _
 have nZ:=f34.blk rv (show ¬w1.heap.size=w.heap.size by omega)
 have sT:=hq.fr f34 λb hb e=>by have:=hqn b hb;have e:b=w.heap.size:=e;omega
 refine⟨r,cl jY 2,(xQ4 (hrr.pu cW) (by omega)).mono ?_⟩
 rintro e w5 ⟨s,rfl,kG,hsn,aV⟩
 have gJ:=aV.blk jY
 have nX:=aV.blk nZ
 have z4:w4.heap.size=w3.heap.size:=by rw[hw4];simp
 have z5:=aV.size
 refine⟨s,rfl,zQw gJ (by show 2<3;omega) λw6 hw6 gP=>?_⟩
 have f56:Fr (·=w.heap.size) w5 w6:=by rw[hw6];exact Fr.cell w5 _ _ _
 have z6:w6.heap.size=w5.heap.size:=by rw[hw6];simp
 have cU:Pu w w6:=(cW.trans aV).andNew f56 λi hi=>by rw[show i=_ from hi];exact Nat.le_refl _
 have sv:=f56.blk nX (show ¬w1.heap.size=w.heap.size by omega)
 have sM:=kG.fr f56 λb hb e=>by have:=hsn b hb;have e:b=w.heap.size:=e;omega
 have rR:=(sT.pu aV).fr f56 λb hb e=>by have:=hqn b hb;have e:b=w.heap.size:=e;omega
 have hsl:=sM.len zQN (by decide)
 refine⟨s,cl gP 2,?_⟩
 rw[show((s.len:Nat):Int)=((t.recs.length:Nat):Int)by rw[hsl,r2]]
 -- the loop: so many rows of values are new
 refine zQ0 t.recs.length (λk j w'=>j=(k:Int)/\∃ns:List (Bool × SV),ns.length=k/\zQj w' 67 2 s ((ns ++ hs.drop k).flatMap yJh)/\w'.heap[w.heap.size]?=some (.cells #[.int .i64 t.page,slV q,slV s] 35)/\w'.heap[w1.heap.size]?=some (.cells #[.int .i64 0,.slice none 0 0,.slice none 0 0] 35)/\
   Pu w w'/\zQj w' 129 4 q (t.fields.flatMap zYp)/\w6.heap.size<=w'.heap.size/\(vBl ns).Nodup/\(∀b ∈ vBl ns,w6.heap.size<=b)/\∀(i:Nat) (x:Bool × SV) (r:Rec),ns[i]?=some x->t.recs[i]?=some r->x.1=r.gone/\zQj w' 73 3 x.2 (r.v.flatMap zVO))
  ⟨rfl,[],rfl,by simpa using sM,gP,sv,cU,rR,Nat.le_refl _,by simp[vBl],by simp[vBl],λi x r hx=>by simp at hx⟩ ?_
 rintro k J j wa hk ⟨hj,ns,n1,n2,n3,n4,n5,n6,n7,n8,n9,gb⟩ hJ
 obtain rfl:j=(k:Int):=hj
 have hsl:=n2.len zQN (by decide)
 rw[List.length_append,List.length_drop,n1,r2]at hsl
 refine Br.of (λc=>?_) (λc=>?_)
 ·have hkn:k<t.recs.length:=by have:=zQk c;omega
  obtain⟨x,hx⟩:=zQZ (l:=hs) (k:=k) (by omega)
  obtain⟨rc,hrc⟩:=zQZ hkn
  have hnx:(ns ++ hs.drop k)[k]?=some x:=by rw[List.getElem?_append_right (by omega),n1,Nat.sub_self,List.getElem?_drop,Nat.add_zero];exact hx
  obtain⟨e1,e2⟩:=hrr.2.2.2 k x rc hx hrc
  obtain⟨a,ha,_,c0⟩:=n2.elem zQN hnx (o:=0) rfl
  obtain⟨a',ha',_,c1⟩:=n2.elem zQN hnx (o:=1) rfl
  rw[ha]at ha';cases ha'
  refine⟨a,ha,by omega,by omega,x.1,by rw[zZc];exact c0,x.2,by rw[zZc];exact c1,?_⟩
  refine alB λwb hpb bb=>zQh bb xZs.symm rfl rfl λwc bc fc zc=>zQf λwd hpd hhd=>?_
  have hac:Pu wa wc:=hpb.andNew fc λi hi=>by rw[show i=_ from hi];exact Nat.le_refl _
  have had:=hac.trans hpd
  have bd:=hpd.blk bc
  have vv:rc.v.length<=1000000:=(mv rc (List.mem_of_getElem? hrc)).2
  refine⟨λu=>Pu wd u,Pu.refl _,s,λu hu=>cl (hu.blk (had.blk n3)) 2,x.2,λu hu=>cl (hu.blk bd) 1,(xQW (e2.pu (n5.trans had)) vv).mono ?_⟩
  rintro e we ⟨v,rfl,hv1,hv2,hpe⟩
  have hae:=had.trans hpe
  refine⟨v,rfl,hpe,a,ha,by omega,by omega,?_⟩
  obtain⟨a2,oK,hst⟩:∃a2,s.a=some a2/\Sh.st1 ((a2.add (k * 2)).add 1) (slV v) we λw'=>J (IntKind.i64.wrap ((k:Int)+1)) w':=by
   refine zQj.stField (n2.pu hae) zQN (i:=k) (o:=1) (by rw[List.length_append,List.length_drop,n1];omega) (by decide) (x.1,v) (slV v) (λy hy=>by rw[hnx]at hy;cases hy;rfl) λwf hwf ff zf=>?_
   rw[zQa (by omega) (by omega)]
   have hne:∀{b:Nat} {c:Array Value} {e:TypeId},we.heap[b]?=some (.cells c e)->e ≠ 67->¬b ∈ zQb s:=λhb he=>(n2.pu hae).other hb (Ne.symm he)
   have zae:=hae.size
   have hslo:∀b ∈ zQb s,w4.heap.size<=b:=hsn
   have hshi:∀b ∈ zQb s,b<w6.heap.size:=sM.lt
   refine hJ _ _ hkn ⟨by omega,ns ++ [(x.1,v)],by simp[n1],?_,ff.blk (hae.blk n3) (hne (hae.blk n3) (by decide)),ff.blk (hae.blk n4) (hne (hae.blk n4) (by decide)),(n5.trans hae).andNew ff λb hb=>by have:=hslo b hb;omega,(n6.pu hae).fr ff (λb hb aN=>zQq (n6.pu hae) (n2.pu hae) (by decide) b hb aN),by omega,?_,?_,?_⟩
   ·have e:(ns ++ hs.drop k).set k (x.1,v)=ns ++ [(x.1,v)] ++ hs.drop (k+1):=by
     rw[List.set_append,if_neg (by omega),n1,Nat.sub_self,zXO hx,List.set_cons_zero,List.append_assoc];rfl
    rw[←e];exact hwf
   ·rw[zXZ]
    refine List.nodup_append.2 ⟨n8,by simp[vBl,zYi],λb hb c hc e=>?_⟩
    subst e
    have hc:b ∈ zQb v:=by simpa[vBl] using hc
    have h1:=hv2 b hc
    obtain⟨y,hy,hyb⟩:=List.mem_flatMap.1 hb
    obtain⟨i,hi⟩:=List.getElem?_of_mem hy
    obtain⟨ry,hry⟩:=zQZ (l:=t.recs) (k:=i) (by have:=(List.getElem?_eq_some_iff.1 hi).1;omega)
    have h2:=(gb i y ry hi hry).2.lt b hyb
    have:=had.size
    omega
   ·intro b hb
    rw[zXZ,List.mem_append]at hb
    rcases hb with hb|hb
    ·exact n9 b hb
    ·have hb:b ∈ zQb v:=by simpa[vBl] using hb
     have h1:=hv2 b hb
     have:=had.size
     omega
   ·intro i y ry hy hry
    rcases Nat.lt_trichotomy i k with hi|hi|hi
    ·rw[List.getElem?_append_left (by omega)]at hy
     obtain⟨q1,q2⟩:=gb i y ry hy hry
     exact⟨q1,(q2.pu hae).fr ff (zQq (q2.pu hae) (n2.pu hae) (by decide))⟩
    ·subst hi
     rw[List.getElem?_append_right (by omega),n1,Nat.sub_self]at hy
     simp at hy;subst hy
     rw[hrc]at hry;cases hry
     exact⟨e1,hv1.fr ff (zQq hv1 (n2.pu hae) (by decide))⟩
    ·rw[List.getElem?_eq_none (by rw[List.length_append,n1,List.length_singleton];omega)]at hy;cases hy
  rw[ha]at oK;cases oK
  rw[zZc];exact hst
 ·have hkn:k=t.recs.length:=by have:=zQd c;omega
  subst hkn
  refine⟨_,cl n3 0,q,cl n3 1,s,cl n3 2,zQh n4 zWx.symm rfl rfl λwz bz fz zz=>⟨_,cl bz 0,q,cl bz 1,s,cl bz 2,⟨t.page,q,s,ns⟩,rfl,?_,n5.andNew fz λi hi=>by rw[show i=_ from hi];omega⟩⟩
  rw[←r2,List.drop_length,List.append_nil]at n2
  have nz:∀b,w2.heap.size<=b->b ≠ w1.heap.size:=λb hb e=>by omega
  refine⟨⟨rfl,n2.fr fz λb hb=>nz b (by have:=hsn b hb;omega),n1,λi x r hx hr=>⟨(gb i x r hx hr).1,(gb i x r hx hr).2.fr fz λb hb=>nz b (by have:=n9 b (zVQ (List.mem_of_getElem? hx) hb);omega)⟩,n8⟩,n6.fr fz λb hb=>nz b (hqn b hb),λb hb=>by have:=hqn b hb;omega,λb hb=>by have:=hsn b hb;omega,λb hb=>by have:=n9 b hb;omega⟩
end Go.Proofs.YtaeecpjhfmcliaaGreatDoor
/- The log: numbers, sums and records as the program writes and reads them. No condition but those stated. -/
namespace Go.Proofs.YtaeecpjhfmcliaaGreatDoor
open Go.Sh Go.RowKit Tryz
variable {w w' : World}
theorem zKV:∀(k n:Nat),zZ5 n k=zWZ n k
 | 0,_=>rfl
 | k+1,n=>by
  rw[zZ5,zKV k]
  unfold zWZ
  rw[List.range_succ_eq_map,List.map_cons,List.map_map]
  congr 1
  ·rw[Nat.pow_zero,Nat.div_one]
  ·refine List.map_congr_left λj _=>?_
   show UInt8.ofNat (n / 256 / 256 ^ j % 256)=UInt8.ofNat (n / 256 ^ (j+1) % 256)
   rw[Nat.div_div_eq_div_mul,Nat.pow_succ,Nat.mul_comm 256]
theorem xQh(n k:Nat):zZ5 n (k+1)=zZ5 n k ++ [UInt8.ofNat (n / 256 ^ k % 256)]:=by rw[zKV,zKV,yXb]
theorem yJw(j:Nat):256 ^ j=2 ^ (8 * j):=by rw[Nat.pow_mul]
theorem yZG(n k:Nat)(hk:k<=7)(hn:n<=1000000000000000)(w:World):Calls prog 143 #[.int .i64 (n:Int),.int .i64 (k:Int)] w λe w'=>∃q:SV,e=.returned (slV q)/\zQe w w' q (zZ5 n k)/\Pu w w':=by
 obtain⟨i,h2,h3,h4,h5⟩:=info_parts vi5
 obtain⟨w1,hr,hrow,ax,wB⟩:=zVm (P:=prog) (w:=w) vu22 h2 h3 h4 .i64 .i64 k (by rw[h5];omega) (by omega)
 refine yKA _ _ w _ ⟨⟨some ⟨w.heap.size,0,none⟩,k,k⟩,w1,hr,?_⟩
 have hz:((madeCells (Value.int .u8 0).cells (k * 1)).toList)=(List.replicate k (0:UInt8)).map u8V:=by
  rw[show(Value.int IntKind.u8 0).cells=#[.int .u8 0]from rfl,toList_madeCells_one,Nat.mul_one,List.map_replicate]
  rfl
 rw[hz]at hrow
 refine zQ0 k (λj t w'=>t=(j:Int)/\zQj w' 5 1 ⟨some ⟨w.heap.size,0,none⟩,k,k⟩ ((zZ5 n j ++ List.replicate (k - j) 0).map u8V)/\Pu w w') ⟨rfl,by simpa[zZ5] using hrow,ax⟩ ?_
 rintro j J t w2 hj ⟨ht,h6,ar⟩ hJ
 obtain rfl:t=(j:Int):=ht
 refine Br.of (λc=>?_) (λc=>?_)
 ·have hjk:j<k:=by have:=zQk c;dsimp only at this;omega
  rw[zQa (n:=8 * (j:Int)) (by omega) (by omega)]
  obtain⟨a,ha,hst⟩:=h6.st1 (j:=j) (by rw[List.length_map,List.length_append,zQx,List.length_replicate];omega) (.int .u8 (IntKind.u8.wrap ((n:Int).fdiv (2 ^ (min (8 * (j:Int)).toNat 64))))) (K:=λw3=>J (IntKind.i64.wrap ((j:Int)+1)) w3) λw3 h7 hf hs=>by
   rw[zQa (by omega) (by omega)]
   refine hJ _ _ hjk ⟨rfl,?_,ar.andNew hf λb hb=>by simp[zQb]at hb;omega⟩
   have e:(.int .u8 (IntKind.u8.wrap ((n:Int).fdiv (2 ^ (min (8 * (j:Int)).toNat 64)))):Value)=u8V (UInt8.ofNat (n / 256 ^ j % 256)):=by
    rw[zZU]
    congr 1
    rw[←zYe]
    congr 1
    rw[show(min (8 * (j:Int)).toNat 64)=8 * j by omega,Int.fdiv_eq_ediv_of_nonneg _ (by exact_mod_cast Nat.zero_le _),yJw]
    norm_cast
   rw[e]at h7
   have e2:((zZ5 n j ++ List.replicate (k - j) 0).map u8V).set j (u8V (UInt8.ofNat (n / 256 ^ j % 256)))=(zZ5 n (j+1) ++ List.replicate (k - (j+1)) 0).map u8V:=by
    rw[←List.map_set]
    congr 1
    rw[List.set_append,if_neg (by rw[zQx];omega),zQx,Nat.sub_self,show k - j=(k - (j+1))+1 by omega,List.replicate_succ,List.set_cons_zero,xQh,List.append_assoc]
    rfl
   rw[←e2];exact h7
  refine⟨by omega,a,ha,by omega,by show(j:Int)<((k:Nat):Int);omega,?_⟩
  rw[zZc,Nat.mul_one]
  exact hst
 ·have hjk:j=k:=by have:=zQd c;dsimp only at this;omega
  subst hjk
  rw[Nat.sub_self,List.replicate_zero,List.append_nil]at h6
  exact⟨_,rfl,⟨h6,λb hb=>by simp[zQb]at hb;omega⟩,ar⟩
theorem zWC:∀{d:List UInt8} {j:Nat} {b:UInt8},d[j]?=some b->zQL (d.take (j+1))=zQL (d.take j)+b.toNat * 256 ^ j
 | [],j,b,h=>by simp at h
 | c :: d,0,b,h=>by simp at h;subst h;simp[zQL]
 | c :: d,j+1,b,h=>by
  have h:d[j]?=some b:=by simpa using h
  rw[List.take_succ_cons,List.take_succ_cons,zQL,zQL,zWC h,Nat.pow_succ,Nat.mul_add,Nat.add_assoc]
  congr 2
  rw[Nat.mul_comm 256,Nat.mul_assoc]
theorem zYV:∀d:List UInt8,zQL d<256 ^ d.length
 | []=>by simp[zQL]
 | c :: d=>by
  have h1:=zYV d
  have h2:=c.toNat_lt
  rw[zQL,List.length_cons,Nat.pow_succ]
  omega
theorem xWB{a b j:Nat}(ha:a<2 ^ j):a ||| (b * 2 ^ j)=a+b * 2 ^ j:=by
 rw[Nat.or_comm,←Nat.shiftLeft_eq,←Nat.shiftLeft_add_eq_or_of_lt ha,Nat.add_comm]
theorem xW5(b:UInt8):b.toNat<256:=b.toNat_lt
theorem yQd{s:SV}{d:List UInt8}(h:ByV w s d)(hd:d.length<=7):Calls prog 126 #[slV s] w λe w'=>e=.returned (.int .i64 (zQL d:Nat))/\Pu w w':=by
 have hl:=h.len
 refine yJU _ w _ ?_
 refine zQ0 d.length (λj t w'=>t.2=(j:Int)/\t.1=((zQL (d.take j):Nat):Int)/\Pu w w') ⟨rfl,rfl,Pu.refl _⟩ ?_
 rintro j J ⟨t1,t2⟩ w2 hj ⟨h2,h1,hp⟩ hJ
 obtain rfl:t2=(j:Int):=h2
 obtain rfl:t1=((zQL (d.take j):Nat):Int):=h1
 dsimp only
 refine Br.of (λc=>?_) (λc=>?_)
 ·have hjk:j<d.length:=by have:=zQk c;omega
  obtain⟨b,hb⟩:=zQZ hjk
  obtain⟨a,ha,hc⟩:=(h.pu hp).get j b hb
  have hB:=xW5 b
  have hlt:=zYV (d.take j)
  rw[List.length_take,Nat.min_eq_left (by omega),yJw]at hlt
  have cK:(2:Nat) ^ (8 * j)<=2 ^ 48:=Nat.pow_le_pow_right (by decide) (by omega)
  have hmul:b.toNat * 2 ^ (8 * j)<=255 * 2 ^ 48:=Nat.mul_le_mul (by omega) cK
  refine⟨a,ha,by omega,by omega,_,by rw[zZc];exact hc,?_⟩
  rw[zQa (n:=8 * (j:Int)) (by omega) (by omega)]
  refine⟨by omega,?_⟩
  have e0:(min (8 * (j:Int)).toNat 64)=8 * j:=by omega
  have e1:IntKind.i64.wrap (IntKind.i64.wrap ((b.toNat:Nat):Int) * 2 ^ (8 * j))=((b.toNat * 2 ^ (8 * j):Nat):Int):=by
   rw[zQa (n:=((b.toNat:Nat):Int)) (by omega) (by omega),show((b.toNat:Nat):Int) * 2 ^ (8 * j)=((b.toNat * 2 ^ (8 * j):Nat):Int)by norm_cast]
   exact zQa (by omega) (by omega)
  have e2:(BitVec.ofInt 64 ((zQL (d.take j):Nat):Int) ||| BitVec.ofInt 64 ((b.toNat * 2 ^ (8 * j):Nat):Int)).toNat=zQL (d.take (j+1)):=by
   rw[BitVec.toNat_or,BitVec.toNat_ofInt,BitVec.toNat_ofInt]
   have m1:(((zQL (d.take j):Nat):Int) % ((2 ^ 64:Nat):Int)).toNat=zQL (d.take j):=by
    rw[Int.emod_eq_of_lt (by omega) (by have p48:(2:Nat) ^ 48=281474976710656:=(by decide);have p64:(2:Nat) ^ 64=18446744073709551616:=(by decide);omega)]
    rfl
   have m2:(((b.toNat * 2 ^ (8 * j):Nat):Int) % ((2 ^ 64:Nat):Int)).toNat=b.toNat * 2 ^ (8 * j):=by
    rw[Int.emod_eq_of_lt (by omega) (by have p48:(2:Nat) ^ 48=281474976710656:=(by decide);have p64:(2:Nat) ^ 64=18446744073709551616:=(by decide);omega)]
    rfl
   rw[m1,m2,xWB hlt,zWC hb,yJw]
  rw[e0,e1,e2]
  have hfin:zQL (d.take (j+1))<=2 ^ 48+255 * 2 ^ 48:=by rw[zWC hb,yJw];omega
  rw[zQa (by omega) (by have p48:(2:Nat) ^ 48=281474976710656:=(by decide);omega),zQa (by omega) (by omega)]
  exact hJ _ _ hjk ⟨rfl,rfl,hp⟩
 ·have hjk:j=d.length:=by have:=zQd c;omega
  subst hjk
  refine⟨?_,hp⟩
  rw[List.take_length]
theorem yY5(l:List UInt8)(c:UInt8):yQl (l ++ [c])=yWm (yQl l) c:=by
 unfold yQl;rw[List.foldl_append,List.foldl_cons,List.foldl_nil]
theorem yYU{m:Nat}(h:m<2 ^ 32):(BitVec.ofInt 32 (m:Int)).toNat=m:=by
 rw[BitVec.toNat_ofInt,Int.emod_eq_of_lt (by omega) (by exact_mod_cast h)];rfl
theorem step32(n:Nat)(b:UInt8):IntKind.u32.wrap ((BitVec.ofInt 32 (IntKind.u32.wrap ((n:Int) * 16777619)) ^^^ BitVec.ofInt 32 (IntKind.u32.wrap ((b.toNat:Nat):Int))).toNat:Nat)=((yWm n b:Nat):Int):=by
 unfold yWm
 have hc:=xW5 b
 generalize b.toNat=c at hc ⊢
 have e1:IntKind.u32.wrap ((n:Int) * 16777619)=((n * 16777619 % 4294967296:Nat):Int):=by rw[IntKind.wrap_u32];omega
 have e2:IntKind.u32.wrap (c:Int)=(c:Int):=by rw[IntKind.wrap_u32];omega
 have hm:n * 16777619 % 4294967296<4294967296:=Nat.mod_lt _ (by decide)
 rw[e1,e2]
 generalize n * 16777619 % 4294967296=m at hm ⊢
 have p32:(2:Nat) ^ 32=4294967296:=by decide
 rw[BitVec.toNat_xor,yYU (by omega),yYU (by omega)]
 have hx:m ^^^ c<2 ^ 32:=Nat.xor_lt_two_pow (by omega) (by omega)
 generalize m ^^^ c=y at hx ⊢
 rw[IntKind.wrap_u32]
 omega
theorem sum_c{s:SV}{d:List UInt8}(h:ByV w s d):Calls prog 127 #[slV s] w λe w'=>e=.returned (.int .i64 (yQl d:Nat))/\Pu w w':=by
 have hl:=h.len
 have hlim:=h.lim
 refine yWe _ w _ ?_
 refine zQ0 d.length (λj t w'=>t.2=(j:Int)/\t.1=((yQl (d.take j):Nat):Int)/\Pu w w') ⟨rfl,rfl,Pu.refl _⟩ ?_
 rintro j J ⟨t1,t2⟩ w2 hj ⟨h2,h1,hp⟩ hJ
 obtain rfl:t2=(j:Int):=h2
 obtain rfl:t1=((yQl (d.take j):Nat):Int):=h1
 dsimp only
 have hlt:=yZw (d.take j)
 refine Br.of (λc=>?_) (λc=>?_)
 ·have hjk:j<d.length:=by have:=zQk c;omega
  obtain⟨b,hb⟩:=zQZ hjk
  obtain⟨a,ha,hc⟩:=(h.pu hp).get j b hb
  have hB:=xW5 b
  refine⟨a,ha,by omega,by omega,_,by rw[zZc];exact hc,?_⟩
  rw[step32,zQa (by omega) (by omega)]
  exact hJ _ _ hjk ⟨rfl,by rw[zQ8 hb,yY5],hp⟩
 ·have hjk:j=d.length:=by have:=zQd c;omega
  subst hjk
  rw[List.take_length]at hlt ⊢
  generalize yQl d=x at hlt ⊢
  refine⟨?_,hp⟩
  rw[zQa (by omega) (by omega)]
end Go.Proofs.YtaeecpjhfmcliaaGreatDoor
/- The log: records are made and taken off; writes are done; files are copied. No condition but those stated. -/
namespace Go.Proofs.YtaeecpjhfmcliaaGreatDoor
open Go.Sh Go.RowKit Tryz
variable {w w' : World}
def NextR(w:World)(s:SV)(d:List UInt8):Rt:=λe w'=>Pu w w'/\∃(k:Int) (q1 q2:SV) (b:Bool),e=.returned (.tuple #[.int .u8 k,slV q1,slV q2,.bool b])/\
 ((b=false/\zZm d=none)∨b=true/\∃kk body more,zZm d=some (kk,body,more)/\k=((kk.toNat:Nat):Int)/\∀wv,ByV wv s d->ByV wv q1 body/\ByV wv q2 more)
theorem ByV.rest{s:SV}{d:List UInt8}(h:ByV w s d){lo:Nat}(hlo:lo<=d.length):ByV w ⟨if s.cap=lo then s.a else s.a.map (λx=>x.add (lo * 1)),s.len - lo,s.cap - lo⟩ (d.drop lo):=by
 have hl:=h.len
 have h1:=h.sub (lo:=lo) (hi:=d.length) hlo (Nat.le_refl _)
 rw[←hl,List.take_of_length_le (by rw[List.length_drop];omega)]at h1
 exact h1
theorem next_c{s:SV}{d:List UInt8}(h:ByV w s d)(hd:d.length<=1000000000):Calls prog 88 #[slV s] w (NextR w s d):=by
 have hl:=h.len
 have hc:=h.cap
 refine yVt _ w _ (Br.of (λc=>?_) (λc=>?_))
 ·have c:=zQk c
  exact⟨Pu.refl _,0,⟨none,0,0⟩,⟨none,0,0⟩,false,rfl,.inl ⟨rfl,by unfold zZm;rw[if_pos (by omega)]⟩⟩
 have c:=zQd c
 refine⟨by omega,by show 5<=s.cap;omega,by omega,by decide,?_⟩
 have nK:=h.sub (lo:=1) (hi:=5) (by omega) (by omega)
 refine(yQd nK (by rw[List.length_take];omega)).mono ?_
 rintro e w2 ⟨rfl,ar⟩
 refine⟨_,rfl,zQf λw3 aA _=>?_⟩
 obtain⟨n,en⟩:∃n,n=zQL ((d.drop 1).take (5 - 1)):=⟨_,rfl⟩
 rw[←en]
 have hn:n<4294967296:=by
  have:=zYV ((d.drop 1).take (5 - 1))
  rw[←en,List.length_take,List.length_drop,Nat.min_eq_left (by omega)]at this
  exact this
 have aZ:=ar.trans aA
 rw[zQa (n:=((s.len:Nat):Int) - 5) (by omega) (by omega),zQa (n:=((s.len:Nat):Int) - 5 - 4) (by omega) (by omega)]
 refine Br.of (λc1=>?_) (λc1=>?_)
 ·have c1:=zQk c1
  exact⟨aZ,0,⟨none,0,0⟩,⟨none,0,0⟩,false,rfl,.inl ⟨rfl,by unfold zZm;rw[if_neg (by omega),if_pos (by show d.length<zQL ((d.drop 1).take (5 - 1))+9;rw[←en];omega)]⟩⟩
 have c1:=zQd c1
 rw[zQa (n:=(5:Int)+(n:Int)) (by omega) (by omega),zQa (n:=(5:Int)+(n:Int)+4) (by omega) (by omega)]
 have t1:((5:Int)+(n:Int)).toNat=5+n:=by omega
 have t2:((5:Int)+(n:Int)+4).toNat=9+n:=by omega
 rw[t1,t2]
 have mw:=(h.pu aZ).sub (lo:=5+n) (hi:=9+n) (by omega) (by omega)
 refine⟨by omega,by omega,by omega,by omega,by omega,by omega,by omega,(yQd mw (by rw[List.length_take];omega)).mono ?_⟩
 rintro e w5 ⟨rfl,aV⟩
 have cV:=aZ.trans aV
 have ng:=(h.pu cV).sub (lo:=0) (hi:=5+n) (by omega) (by omega)
 refine⟨_,rfl,(sum_c ng).mono ?_⟩
 rintro e w6 ⟨rfl,bV⟩
 have cU:=cV.trans bV
 rw[List.drop_zero,Nat.sub_zero,show 9+n - (5+n)=4 by omega]
 refine⟨_,rfl,Br.of (λc2=>?_) (λc2=>zQf λw8 bM _=>?_)⟩
 ·have c2:¬zQL ((d.drop (5+n)).take 4)=yQl (d.take (5+n)):=λe=>zQ5 c2 (by rw[e])
  exact⟨cU,0,⟨none,0,0⟩,⟨none,0,0⟩,false,rfl,.inl ⟨rfl,by
   unfold zZm
   rw[show(d.drop 1).take 4=(d.drop 1).take (5 - 1)from rfl,←en,if_neg (by omega),if_neg (by omega),if_pos c2]⟩⟩
 ·have c2:zQL ((d.drop (5+n)).take 4)=yQl (d.take (5+n)):=by have:=zQs c2;omega
  have h8:=h.pu (cU.trans bM)
  obtain⟨b0,e0⟩:=zQZ (l:=d) (k:=0) (by omega)
  obtain⟨a,ha,vk⟩:=h8.get 0 b0 e0
  refine⟨a,ha,by omega,by omega,_,vk,by omega,by omega,by omega,by show 5<=5+n;omega,hc,by omega,by omega,cU.trans bM,_,⟨_,_,_⟩,⟨_,_,_⟩,true,rfl,.inr ⟨rfl,b0,(d.drop 5).take n,d.drop (9+n),?_,rfl,λwv hv=>⟨?_,hv.rest (lo:=9+n) (by omega)⟩⟩⟩
  ·unfold zZm
   rw[show(d.drop 1).take 4=(d.drop 1).take (5 - 1)from rfl,←en,if_neg (by omega),if_neg (by omega),if_neg (by rw[c2];simp)]
   have:d.headD 0=b0:=by cases d with
    | nil=>simp at e0
    | cons x d=>simpa using e0
   rw[this]
  ·have aE:=hv.sub (lo:=5) (hi:=5+n) (by omega) (by omega)
   rw[show 5+n - 5=n by omega]at aE
   rw[show((5:Int)).toNat=5 from rfl,show 5+n - 5=n by omega]
   exact aE
theorem zVR {w0:World} {s m:SV} {l:List UInt8} {g:Nat} (h:zQe w0 w s l) (hg:s.a=some ⟨g,0,none⟩) {lo n c:Nat} {src:List UInt8} (hm:ByV w m src) (hne:src ≠ []) (hn:src.length=n) (hfit:lo+n<=l.length) :
  ∃w',(Builtin.copy_ #[22,22] 3 #[.slice (some ⟨g,lo,none⟩) n c,slV m]).run prog w=.ok (.int .i64 (n:Nat)) w'/\zQe w0 w' s (l.take lo ++ src ++ l.drop (lo+n))/\Fr (· ∈ zQb s) w w':=by
 have hl:=h.len
 have hml:=hm.len
 have hsz:(prog.info? 5).map (·.size)=some 1:=by
  have:=vi5
  simp only[Option.map_eq_some_iff]at *
  obtain⟨i,h1,h2⟩:=this
  exact⟨i,h1,by simp at h2;exact h2.2.1⟩
 obtain⟨hrow,hnew⟩:=h
 obtain⟨h1,hd|⟨g',cur,h3,h4,h5,h6,h7,h8⟩⟩:=hrow
 ·rw[hd]at hg;cases hg
 rw[hg]at h3
 obtain rfl:g=g':=by simpa using h3
 obtain⟨b0,oJ⟩:=zQZ (l:=src) (k:=0) (List.length_pos_iff.2 hne)
 obtain⟨a,ha,_⟩:=hm.get 0 b0 oJ
 have hr:=run_copy_row prog (ty:=3) w 22 22 5 g lo n c a m.len m.cap cur 5 (src.map u8V) vu22 hsz h4 (by rw[List.length_map,hn,hml,hn];exact(Nat.min_self n).symm) (λj v hv=>by
  obtain⟨b,hb,rfl⟩:∃b,src[j]?=some b/\u8V b=v:=by simpa using hv
  obtain⟨a',e,hc⟩:=hm.get j b hb
  rw[ha]at e;cases e
  rw[Nat.mul_one]at hc
  exact hc) (by rw[List.length_map,hn,h7];omega) (λv hv=>by obtain⟨b,_,rfl⟩:=List.mem_map.1 hv;rfl)
 rw[List.length_map,hn]at hr
 rw[Nat.mul_one]at h8
 refine⟨_,by show(Builtin.copy_ #[22,22] 3 #[.slice (some ⟨g,lo,none⟩) n c,.slice m.a m.len m.cap]).run prog w=_;rw[ha];exact hr,⟨⟨?_,.inr ⟨g,_,hg,setRow_heap w g cur _ 5 (0,0) h4,h5,h6,?_,?_⟩⟩,hnew⟩,⟨rfl,rfl,rfl,by simp,λk _ hk=>setRow_other w g k _ (λe=>hk (by simp[zQb,hg,e]))⟩⟩
 ·simp;omega
 ·simp;omega
 ·have hll:l.length<=cur.size:=by rw[h7];omega
  rw[Nat.mul_one]
  simp only[List.map_append,List.map_take,List.map_drop,←h8]
  have e1:cur.toList=cur.toList.take s.len ++ cur.toList.drop s.len:=(List.take_append_drop _ _).symm
  apply List.ext_getElem?
  intro j
  have hcl:cur.toList.length=cur.size:=by simp
  simp only[List.getElem?_take,List.getElem?_append,List.length_append,List.length_take,List.length_map,List.getElem?_drop,hcl,hn]
  by_cases hj:j<s.len
  ·rw[if_pos hj]
   by_cases h0:j<lo
   ·rw[if_pos (by omega),if_pos (by omega),if_pos h0,if_pos (by omega),if_pos (by omega),if_pos h0,if_pos hj]
   ·by_cases h2:j<lo+n
    ·rw[if_pos (by omega),if_neg (by omega),if_pos (by omega),if_neg (by omega)]
     congr 1;omega
    ·rw[if_neg (by omega),if_neg (by omega),if_pos (by omega)]
     congr 1;omega
  ·rw[if_neg hj,if_neg (by omega),if_neg (by omega)]
theorem zY7(n:Nat)(hn:n<=1000000000)(w:World):∃w',(Instr.makeSlice 22 (.int .i64 (n:Int)) (.int .i64 (n:Int))).run prog w=.ok (slV ⟨some ⟨w.heap.size,0,none⟩,n,n⟩) w'/\zQe w w' ⟨some ⟨w.heap.size,0,none⟩,n,n⟩ (List.replicate n 0)/\Pu w w':=by
 obtain⟨i,h2,h3,h4,h5⟩:=info_parts vi5
 obtain⟨w1,hr,hrow,ax,wB⟩:=zVm (P:=prog) (w:=w) vu22 h2 h3 h4 .i64 .i64 n (by rw[h5];omega) (by omega)
 refine⟨w1,hr,⟨?_,λb hb=>by simp[zQb]at hb;omega⟩,ax⟩
 rw[show(Value.int IntKind.u8 0).cells=#[.int .u8 0]from rfl,toList_madeCells_one,Nat.mul_one]at hrow
 rw[List.map_replicate]
 exact hrow
theorem zQe.st1 {w0:World} {s:SV} {l:List UInt8} (h:zQe w0 w s l) {j:Nat} (hj:j<l.length) (b:UInt8) {K:World->Prop} (hK:∀w',zQe w0 w' s (l.set j b)->Fr (· ∈ zQb s) w w'->w'.heap.size=w.heap.size->K w') :
  ∃a,s.a=some a/\Sh.st1 (a.add (j * 1)) (u8V b) w K:=by
 obtain⟨a,ha,hst⟩:=h.1.st1 (j:=j) (by rw[List.length_map];exact hj) (u8V b) (K:=K) λw' h1 hf hs=>hK w' ⟨by rw[List.map_set];exact h1,h.2⟩ hf hs
 exact⟨a,ha,by rw[Nat.mul_one];exact hst⟩
theorem zQe.st1G {w0:World} {s:SV} {l:List UInt8} (h:zQe w0 w s l) {i:Int} {j:Nat} (hi:i=(j:Int)) (hj:j<l.length) (b:UInt8) {K:World->Prop} (hK:∀w',zQe w0 w' s (l.set j b)->Fr (· ∈ zQb s) w w'->w'.heap.size=w.heap.size->K w') :
  ∃a,s.a=some a/\0<=i/\i<((s.len:Nat):Int)/\Sh.st1 (a.add (i.toNat * 1)) (u8V b) w K:=by
 obtain⟨a,ha,hst⟩:=h.st1 hj b hK
 have hl:=h.len
 subst hi
 exact⟨a,ha,by omega,by omega,by rw[zZc];exact hst⟩
theorem xQH (kind:UInt8) {s:SV} {body:List UInt8} (h:ByV w s body) (hne:body ≠ []) (hb:body.length<=1000000):Calls prog 111 #[u8V kind,slV s] w λe w'=>∃q:SV,e=.returned (slV q)/\zQe w w' q (zJ1 kind body)/\Pu w w':=by
 have hl:=h.len
 have hpos:=List.length_pos_iff.2 hne
 obtain⟨w1,wG,n1,ax⟩:=zY7 (5+body.length) (by omega) w
 refine yKh _ _ w _ ⟨⟨some ⟨w.heap.size,0,none⟩,5+body.length,5+body.length⟩,w1,?_,?_⟩
 ·rw[hl,zQa (by omega) (by omega),show(5:Int)+((body.length:Nat):Int)=((5+body.length:Nat):Int)by omega];exact wG
 refine n1.st1G (j:=0) rfl (by rw[List.length_replicate];omega) kind λw3 n3 fU hz3=>zQf λw4 aJ _=>?_
 ·have hB:∀b ∈ zQb (⟨some ⟨w.heap.size,0,none⟩,5+body.length,5+body.length⟩:SV),w.heap.size<=b:=n1.2
  have aA:Pu w w3:=ax.andNew fU hB
  have cW:=aA.trans aJ
  refine⟨by omega,by show 5<=5+body.length;omega,by omega,by decide,?_⟩
  rw[show((s.len:Nat):Int)=((body.length:Nat):Int)by omega]
  refine(yZG body.length 4 (by omega) (by omega) w4).mono ?_
  rintro e w5 ⟨q5,rfl,n5,aV⟩
  have m5:=(n3.pu aJ).pu aV
  have l0:((List.replicate (5+body.length) (0:UInt8)).set 0 kind).length=5+body.length:=by simp
  obtain⟨w6,zv,n6,gN⟩:=zVR (lo:=1) (n:=4) (c:=5+body.length - 1) m5 rfl (n5.by (by rw[zQx];omega)) (λe=>by have:=congrArg List.length e;rw[zQx]at this;simp at this) (zQx _ _) (by rw[l0];omega)
  have cU:Pu w w6:=(cW.trans aV).andNew gN hB
  refine⟨q5,rfl,((4:Nat):Int),w6,?_,Nat.le_refl _,by omega,by show 5<=5+body.length;omega,?_⟩
  ·rw[if_neg (by show ¬5+body.length=1;omega)];exact zv
  obtain⟨w7,mc,n7,oC⟩:=zVR (lo:=5) (n:=body.length) (c:=5+body.length - 5) n6 rfl (h.pu cU) hne rfl (by simp[zQx];omega)
  have iO:Pu w w7:=cU.andNew oC hB
  refine⟨((body.length:Nat):Int),w7,?_,?_⟩
  ·rw[if_neg (by show ¬5+body.length=5;omega),show 5+body.length - (5:Int).toNat=body.length by show 5+body.length - 5=_;omega]
   rw[show 5+body.length - 5=body.length by omega]at mc
   exact mc
  have hrow:((List.replicate (5+body.length) (0:UInt8)).set 0 kind).take 1=[kind]:=by
   rw[show 5+body.length=(4+body.length)+1 by omega,List.replicate_succ,List.set_cons_zero];rfl
  have vw:((((List.replicate (5+body.length) (0:UInt8)).set 0 kind).take 1 ++ zZ5 body.length 4 ++ ((List.replicate (5+body.length) (0:UInt8)).set 0 kind).drop (1+4)).take 5 ++ body ++ (((List.replicate (5+body.length) (0:UInt8)).set 0 kind).take 1 ++ zZ5 body.length 4 ++ ((List.replicate (5+body.length) (0:UInt8)).set 0 kind).drop (1+4)).drop (5+body.length))=zJ3 kind body:=by
   have h5:([kind] ++ zZ5 body.length 4).length=5:=by simp[zQx]
   rw[hrow,List.take_append_of_le_length (by omega),List.take_of_length_le (by omega),List.drop_eq_nil_of_le (by simp[zQx];omega),List.append_nil]
   unfold zJ3;simp
  rw[vw]at n7
  have hhl:=zKH kind body
  refine(sum_c (s:=⟨some ⟨w.heap.size,0,none⟩,5+body.length,5+body.length⟩) (n7.by (by omega))).mono ?_
  rintro e w8 ⟨rfl,bM⟩
  have hslt:=yZw (zJ3 kind body)
  refine⟨_,rfl,(yZG (yQl (zJ3 kind body)) 4 (by omega) (by omega) w8).mono ?_⟩
  rintro e w9 ⟨q9,rfl,n9,eH⟩
  have m9:=(n7.pu bM).pu eH
  have jU:=(iO.trans bM).trans eH
  obtain⟨q,aU,rY,gb,jR⟩:=m9.app jU.size (m:=q9) (news:=zZ5 (yQl (zJ3 kind body)) 4) n9.len (λj b hj=>n9.cell hj) (by rw[zQx];omega)
  exact⟨q9,rfl,q,aU,rY,q,rfl,gb,jU.andNew jR hB⟩
end Go.Proofs.YtaeecpjhfmcliaaGreatDoor
