import Derived.Test.YtaeecpjhfmcliaaGreatDoorLgOwG
import Derived.Test.YtaeecpjhfmcliaaGreatDoorLgPrB
import Derived.Test.YtaeecpjhfmcliaaGreatDoorLgOwF
/- The log: the parts of a store are written, one by one, continued. No condition but those stated. -/
set_option maxRecDepth 100000
set_option linter.unusedVariables false
set_option linter.unusedSimpArgs false
noncomputable section
namespace Go.Proofs.YtaeecpjhfmcliaaGreatDoor
open Go.Sh Go.RowKit Tryz
variable {w0 w w' : World} {X : Nat -> Prop} {L L' : SL} {d d' : Dat} {mu : Int}
theorem zQS.oth (h:zQS X w L d mu) {er:TypeId} {szr:Nat} {row:SV} {vsr:List Value} (hr:zQj w er szr row vsr) (hf:Fr (λb=>b=L.S∨b ∈ zQb row) w w') {e:TypeId} {sz:Nat} {s:SV} {vs:List Value} (hx:zQj w e sz s vs) (h1:e ≠ er) (h2:e ≠ 108):zQj w' e sz s vs:=
 hx.fr hf λb hb hB=>by
  rcases hB with rfl|hB
  ·exact hx.other h.st h2 hb
  ·exact zQq hx hr h1 b hb hB
theorem zQS.tabo (h:zQS X w L d mu) {er:TypeId} {szr:Nat} {row:SV} {vsr:List Value} (hr:zQj w er szr row vsr) (hf:Fr (λb=>b=L.S∨b ∈ zQb row) w w') (h1:er ≠ 67) (h2:er ≠ 73) {t:Tbl} {x:HT} (ht:zJv w t x):zJv w' t x:=
 ht.fr hf λb hb hB=>by
  rcases hB with rfl|hB
  ·exact ht.other h.st (by decide) (by decide) hb
  ·obtain⟨_,hd|⟨g,cur,h3,h4,_⟩⟩:=hr
   ·rw[hd]at hB;simp[zQb]at hB
   ·simp[zQb,h3]at hB;subst hB
    exact ht.other h4 h1 h2 hb
theorem zQS.grow (h:zQS X w L d mu) {er:TypeId} {szr:Nat} {row s:SV} {vsr:List Value} {w1:World} (hr:zQj w er szr row vsr) (he:er ≠ 108) (dH:Fr (· ∈ zQb row) w w1) (hblk:∀k ∈ zQb s,k ∈ zQb row∨w.heap.size<=k) {o:Nat} (ho:o<11) {v:Value} {K:World->Prop}
  (hK:∀w2,w2.heap[L.S]?=some (.cells ((zJr mu L).setIfInBounds o v) 108)->Fr (λb=>b=L.S∨b ∈ zQb row) w w2->Fr (·=L.S) w1 w2->(∀b ∈ zQb s,b ≠ L.S)->K w2):st1 ((⟨L.S,0,none⟩:Addr).add o) v w1 K:=by
 have hnS:L.S ∉ zQb row:=hr.other h.st he
 rw[zQr,Nat.zero_add]
 refine zQw (dH.blk h.st hnS) ho λw2 mr aN=>?_
 have fq:Fr (·=L.S) w1 w2:=by rw[mr];exact Fr.cell w1 _ _ _
 refine hK w2 aN ((dH.mono λb hb _=>.inr hb).trans fq λb hb _=>.inl hb) fq λb hb e=>?_
 rcases hblk b hb with h1|h1
 ·exact hnS (by rw[←e];exact h1)
 ·have:=zQz h.st;omega
theorem yQj {α β:Type} {l:List α} {m:List β} {a:α} {b:β} (hl:l.length=m.length) {P:α->β->Prop} (h:∀(i:Nat) x y,l[i]?=some x->m[i]?=some y->P x y) (h0:P a b):∀(i:Nat) x y,(l ++ [a])[i]?=some x->(m ++ [b])[i]?=some y->P x y:=λi x y hx hy=>by
 rcases Nat.lt_trichotomy i m.length with hi|hi|hi
 ·rw[List.getElem?_append_left (by omega)]at hx hy
  exact h i x y hx hy
 ·rw[List.getElem?_append_right (by omega),hl,hi,Nat.sub_self]at hx
  rw[List.getElem?_append_right (by omega),hi,Nat.sub_self]at hy
  simp at hx hy;subst hx hy
  exact h0
 ·rw[List.getElem?_eq_none (by rw[List.length_append,List.length_singleton];omega)]at hy;cases hy
theorem zQS.pushWr (h:zQS X w L d mu) {q:SV} {y:Wr} (hq:∀w2,Fr (λb=>L.own b∨X b) w w2->ByV w2 q y.b) {r:Nat} (hr:w.heap[r]?=some (.cells #[.int .i64 y.file,.int .i64 y.at_,slV q] 90)) (hn:d.wr.length<=1000000)
  {K:World->Prop} (hK:∀w' L',zQS X w' L' { d with wr:=d.wr ++ [y] } mu->zZy w w' L L'->L'.last=L.last->K w') :
  ∃s:SV,∃w1:World,(Builtin.append_ #[87,87] 87 #[slV L.wr,.slice (some ⟨r,0,none⟩) 1 1]).run prog w=.ok (slV s) w1/\st1 ((⟨L.S,0,none⟩:Addr).add 9) (slV s) w1 K:=by
 have hl:=h.wr.len zJj (by decide)
 have hwl:=h.wl
 obtain⟨s,w1,hra,hrow,dH,hblk,hsl⟩:=zQ9 (P:=prog) (ty:=87) vu87 vi90 rfl (by decide) h.wr (A:=some ⟨r,0,none⟩) (m:=1) (c:=1) (news:=wrC (y.file,y.at_,q)) rfl (λj u hu=>⟨_,rfl,by rw[cl hr];simpa using hu⟩) (λu hu=>by simp[wrC]at hu;rcases hu with rfl|rfl|rfl <;> rfl) (by show(L.wr.len+1) * (40+1)<=_;omega)
 refine⟨s,w1,hra,h.grow h.wr (by decide) dH hblk (by decide) λw2 aN hf fq hsn=>?_⟩
 have hown:∀b,SL.own { L with wr:=s,wh:=L.wh ++ [(y.file,y.at_,q)] } b->L.own b∨w.heap.size<=b:=λb hb=>by
  rcases hb with hb|hb|hb|hb|hb|hb
  ·exact .inl (.inl hb)
  ·exact .inl (.inr (.inl hb))
  ·exact .inl (.inr (.inr (.inl hb)))
  ·rcases hblk b hb with h1|h1
   ·exact .inl (.inr (.inr (.inr (.inl h1))))
   ·exact .inr h1
  ·exact .inl (.inr (.inr (.inr (.inr (.inl hb)))))
  ·exact .inl (.inr (.inr (.inr (.inr (.inr hb)))))
 have hleft:zZy w w2 L { L with wr:=s,wh:=L.wh ++ [(y.file,y.at_,q)] }:=⟨hf.mono λb hb _=>hb.elim .inl λhb=>.inr (.inr (.inr (.inl hb))),hown,rfl⟩
 refine hK w2 { L with wr:=s,wh:=L.wh ++ [(y.file,y.at_,q)] } ⟨aN,h.oth h.wr hf h.lv (by decide) (by decide),h.oth h.wr hf h.dn (by decide) (by decide),?_,h.oth h.wr hf h.pt (by decide) (by decide),h.tabo h.wr hf (by decide) (by decide) h.now,h.ll,h.dl,by simp[hwl],λi x u hx hu=>h.tabo h.wr hf (by decide) (by decide) (h.lvs i x u hx hu),h.ld,h.dj,h.djl,λb hb=>Nat.lt_of_lt_of_le (h.xl b hb) hf.size,?_⟩ hleft rfl
 ·show zQj w2 90 3 s ((L.wh ++ [(y.file,y.at_,q)]).flatMap wrC)
  rw[List.flatMap_append,List.flatMap_singleton]
  exact hrow.fr fq λb hb e=>hsn b hb e
 ·have k1:=hleft.keep (X:=X) h.kp h.xl
  have k2:=hleft.keep (X:=X) hq h.xl
  intro w3 h3
  obtain⟨a1,a2,a3,a4,a5,a6⟩:=k1 w3 h3
  exact⟨a1,a2,a3,a4,a5,yQj (P:=λx y=>x.1=y.file/\x.2.1=y.at_/\ByV w3 x.2.2 y.b) h.wl a6 ⟨rfl,rfl,k2 w3 h3⟩⟩
theorem zQS.pushPt (h:zQS X w L d mu) {n:Int} {r:Nat} (hr:w.heap[r]?=some (.cells #[.int .i64 n] 3)) (hn:d.pts.length<=1000000)
  {K:World->Prop} (hK:∀w' L',zQS X w' L' { d with pts:=d.pts ++ [n] } mu->zZy w w' L L'->K w') :
  ∃s:SV,∃w1:World,(Builtin.append_ #[52,52] 52 #[slV L.pt,.slice (some ⟨r,0,none⟩) 1 1]).run prog w=.ok (slV s) w1/\st1 ((⟨L.S,0,none⟩:Addr).add 10) (slV s) w1 K:=by
 have hl:=h.pt.1
 rw[List.length_map,Nat.mul_one]at hl
 obtain⟨s,w1,hra,hrow,dH,hblk,hsl⟩:=zQ9 (P:=prog) (ty:=52) vu52 vi3 rfl (by decide) h.pt (A:=some ⟨r,0,none⟩) (m:=1) (c:=1) (news:=[.int .i64 n]) rfl (λj u hu=>⟨_,rfl,by rw[cl hr];simpa using hu⟩) (λu hu=>by simp at hu;subst hu;rfl) (by show(L.pt.len+1) * (8+1)<=_;omega)
 refine⟨s,w1,hra,h.grow h.pt (by decide) dH hblk (by decide) λw2 aN hf fq hsn=>?_⟩
 have hown:∀b,SL.own { L with pt:=s } b->L.own b∨w.heap.size<=b:=λb hb=>by
  rcases hb with hb|hb|hb|hb|hb|hb
  ·exact .inl (.inl hb)
  ·exact .inl (.inr (.inl hb))
  ·exact .inl (.inr (.inr (.inl hb)))
  ·exact .inl (.inr (.inr (.inr (.inl hb))))
  ·rcases hblk b hb with h1|h1
   ·exact .inl (.inr (.inr (.inr (.inr (.inl h1)))))
   ·exact .inr h1
  ·exact .inl (.inr (.inr (.inr (.inr (.inr hb)))))
 have hleft:zZy w w2 L { L with pt:=s }:=⟨hf.mono λb hb _=>hb.elim .inl λhb=>.inr (.inr (.inr (.inr (.inl hb)))),hown,rfl⟩
 refine hK w2 { L with pt:=s } ⟨aN,h.oth h.pt hf h.lv (by decide) (by decide),h.oth h.pt hf h.dn (by decide) (by decide),h.oth h.pt hf h.wr (by decide) (by decide),?_,h.tabo h.pt hf (by decide) (by decide) h.now,h.ll,h.dl,h.wl,λi x u hx hu=>h.tabo h.pt hf (by decide) (by decide) (h.lvs i x u hx hu),h.ld,h.dj,h.djl,λb hb=>Nat.lt_of_lt_of_le (h.xl b hb) hf.size,?_⟩ hleft
 ·show zQj w2 3 1 s ((d.pts ++ [n]).map (Value.int .i64))
  rw[List.map_append]
  exact hrow.fr fq λb hb e=>hsn b hb e
 ·have k1:=hleft.keep (X:=X) h.kp h.xl
  intro w3 h3
  obtain⟨a1,a2,a3,a4,a5,a6⟩:=k1 w3 h3
  exact⟨a1,a2,a3,a4,a5,a6⟩
theorem zQS.setLast (h:zQS X w L d mu) {s q0 q1:SV} {F:Fls} (hq:∀w2,Fr (λb=>L.own b∨X b) w w2->zXx w2 s q0 q1 F) {K:World->Prop} (hK:∀w' L',zQS X w' L' { d with last:=F } mu->zZy w w' L L'->K w'):st1 ((⟨L.S,0,none⟩:Addr).add 8) (slV s) w K:=by
 rw[zQr,Nat.zero_add]
 refine zQw h.st (by show 8<11;omega) λw2 mr aN=>?_
 have fq:Fr (·=L.S) w w2:=by rw[mr];exact Fr.cell w _ _ _
 have hleft:zZy w w2 L { L with last:=s,l0:=q0,l1:=q1 }:=⟨fq.mono λb hb _=>.inl hb,λb hb=>.inl hb,rfl⟩
 have oth:∀{e:TypeId} {sz:Nat} {s':SV} {vs:List Value},zQj w e sz s' vs->e ≠ 108->zQj w2 e sz s' vs:=λhx h2=>hx.fr fq λb hb e=>hx.other h.st h2 (by rw[←show b=L.S from e];exact hb)
 have tabo:∀{t:Tbl} {x:HT},zJv w t x->zJv w2 t x:=λht=>ht.fr fq λb hb e=>ht.other h.st (by decide) (by decide) (by rw[←show b=L.S from e];exact hb)
 refine hK w2 { L with last:=s,l0:=q0,l1:=q1 } ⟨aN,oth h.lv (by decide),oth h.dn (by decide),oth h.wr (by decide),oth h.pt (by decide),tabo h.now,h.ll,h.dl,h.wl,λi x u hx hu=>tabo (h.lvs i x u hx hu),h.ld,h.dj,h.djl,λb hb=>Nat.lt_of_lt_of_le (h.xl b hb) fq.size,?_⟩ hleft
 have k1:=hleft.keep (X:=X) h.kp h.xl
 have k2:=hleft.keep (X:=X) hq h.xl
 intro w3 h3
 obtain⟨a1,a2,a3,a4,a5,a6⟩:=k1 w3 h3
 exact⟨a1,a2,a3,a4,k2 w3 h3,a6⟩
theorem zQS.pushLev (h:zQS X w0 L d mu) (hp:Pu w0 w) {q:HT} {t:Tbl} (hq:zKF w0 w t q) (hv:zQi t=0) {r:Nat} (hr:w.heap[r]?=some (.cells (yJ8 q).toArray 35)) (hn:d.σ.lev.length<=1000000)
  {K:World->Prop} (hK:∀w' L',zQS X w' L' { d with σ:={ d.σ with lev:=d.σ.lev ++ [t] } } mu->zZy w0 w' L L'->K w') :
  ∃s:SV,∃w1:World,(Builtin.append_ #[106,106] 106 #[slV L.lv,.slice (some ⟨r,0,none⟩) 1 1]).run prog w=.ok (slV s) w1/\st1 ((⟨L.S,0,none⟩:Addr).add 5) (slV s) w1 K:=by
 have h1:=h.pu hp
 have hl:=h1.lv.len zQV (by decide)
 have hll:=h.ll
 obtain⟨s,w1,hra,hrow,dH,hblk,hsl⟩:=zQ9 (P:=prog) (ty:=106) vu106 vi35 rfl (by decide) h1.lv (A:=some ⟨r,0,none⟩) (m:=1) (c:=1) (news:=yJ8 q) rfl (λj u hu=>⟨_,rfl,by rw[cl hr];simpa using hu⟩) (λu hu=>by simp[yJ8]at hu;rcases hu with rfl|rfl|rfl <;> rfl) (by show(L.lv.len+1) * (56+1)<=_;omega)
 refine⟨s,w1,hra,h1.grow h1.lv (by decide) dH hblk (by decide) λw2 aN hf fq hsn=>?_⟩
 have hz:=hp.size
 have hqo:∀b,q.own b->w0.heap.size<=b:=λb hb=>hb.elim (hq.rn b) (hq.vn b)
 have hown:∀b,SL.own { L with lv:=s,lh:=L.lh ++ [q] } b->L.own b∨w0.heap.size<=b:=λb hb=>by
  rcases hb with hb|hb|hb|hb|hb|⟨x,hx,hb⟩
  ·exact .inl (.inl hb)
  ·rcases hblk b hb with h1|h1
   ·exact .inl (.inr (.inl h1))
   ·exact .inr (by omega)
  ·exact .inl (.inr (.inr (.inl hb)))
  ·exact .inl (.inr (.inr (.inr (.inl hb))))
  ·exact .inl (.inr (.inr (.inr (.inr (.inl hb)))))
  ·have hx:x ∈ L.now :: (L.lh ++ [q]):=hx
   rw[←List.cons_append,List.mem_append,List.mem_singleton]at hx
   rcases hx with hx|rfl
   ·exact .inl (.inr (.inr (.inr (.inr (.inr ⟨x,hx,hb⟩)))))
   ·exact .inr (hqo b hb)
 have hfL:Fr L.own w0 w2:=(Fr.pu hp:Fr L.own w0 w).trans (hf.mono λb hb _=>hb.elim .inl λhb=>.inr (.inl hb)) λb hb _=>hb
 have hleft:zZy w0 w2 L { L with lv:=s,lh:=L.lh ++ [q] }:=⟨hfL,hown,rfl⟩
 have nt:zKF w0 w2 t q:=hq.fr hf λb hb hlt e=>by
  rcases e with rfl|e
  ·have:=h.own_lt (.inl rfl);omega
  ·have:=h.lv.lt b e;omega
 have lt:∀x ∈ L.lh,∀b,x.own b->b<w0.heap.size:=λx hx b hb=>h.own_lt (.inr (.inr (.inr (.inr (.inr ⟨x,List.mem_cons_of_mem _ hx,hb⟩)))))
 refine hK w2 { L with lv:=s,lh:=L.lh ++ [q] } ⟨aN,?_,h1.dn.fr hf λb hb hx=>?_,h1.oth h1.lv hf h1.wr (by decide) (by decide),h1.oth h1.lv hf h1.pt (by decide) (by decide),h1.tabo h1.lv hf (by decide) (by decide) h1.now,by simp[hll],h.dl,h.wl,yQj (P:=λx u=>zJv w2 u x) h.ll (λi x u hx hu=>h1.tabo h1.lv hf (by decide) (by decide) (h1.lvs i x u hx hu)) nt.tab,λb hb hx=>?_,λx hx b hb hxb=>?_,λi j x y hij hx hy b hb hyb=>?_,λb hb=>Nat.lt_of_lt_of_le (h.xl b hb) hfL.size,?_⟩ hleft
 ·show zQj w2 35 3 s ((L.lh ++ [q]).flatMap yJ8)
  rw[List.flatMap_append,List.flatMap_singleton]
  exact hrow.fr fq λb hb e=>hsn b hb e
 ·rcases hx with rfl|hx
  ·exact h1.dn.other h1.st (by decide) hb
  ·exact h.ld b hx hb
 ·rcases hblk b hb with h2|h2
  ·exact h.ld b h2 hx
  ·have:=h1.dn.lt b hx;omega
 ·rcases List.mem_append.1 hx with hx|hx
  ·exact h.dj x hx b hb hxb
  ·rw[List.mem_singleton.1 hx]at hxb
   have:=hqo b hxb
   have:=h.own_lt (b:=b) (.inr (.inr (.inr (.inr (.inr ⟨L.now,List.mem_cons_self,hb⟩)))))
   omega
 ·have sV:(L.lh ++ [q])[i]?=some x:=hx
  have sf:(L.lh ++ [q])[j]?=some y:=hy
  rw[List.getElem?_append]at sV sf
  split at sV
  ·split at sf
   ·exact h.djl i j x y hij sV sf b hb hyb
   ·have e:y=q:=List.mem_singleton.1 (List.mem_of_getElem? sf)
    have:=hqo b (by rw[←e];exact hyb)
    have:=lt x (List.mem_of_getElem? sV) b hb
    omega
  ·have e:x=q:=List.mem_singleton.1 (List.mem_of_getElem? sV)
   split at sf
   ·have:=hqo b (by rw[←e];exact hb)
    have:=lt y (List.mem_of_getElem? sf) b hyb
    omega
   ·have hi:=(List.getElem?_eq_some_iff.1 sV).1
    have hj:=(List.getElem?_eq_some_iff.1 sf).1
    simp at hi hj
    omega
 ·have k1:=hleft.keep (X:=X) h.kp h.xl
  intro w3 h3
  obtain⟨a1,a2,a3,a4,a5,a6⟩:=k1 w3 h3
  refine⟨a1,yQj (P:=λx u=>zXF w3 x.f u.fields) h.ll a2 ?_,a3,a4,a5,a6⟩
  have hr3:zQj w3 129 4 q.f (t.fields.flatMap zYp):=by
   refine nt.f.fr h3 λb hb e=>?_
   have hbn:=nt.fn b hb
   rcases e with e|e
   ·
    rcases e with e|e|e|e|e|⟨x,hx,e⟩
    ·have e:b=L.S:=e
     have:=h.own_lt (b:=b) (.inl e)
     omega
    ·exact zQq nt.f (show zQj w2 35 3 s ((L.lh ++ [q]).flatMap yJ8)by
      rw[List.flatMap_append,List.flatMap_singleton];exact hrow.fr fq λb hb e=>hsn b hb e) (by decide) b hb e
    ·have:=h.dn.lt b e;omega
    ·have:=h.wr.lt b e;omega
    ·have:=h.pt.lt b e;omega
    ·have hx:x ∈ L.now :: (L.lh ++ [q]):=hx
     rw[←List.cons_append,List.mem_append,List.mem_singleton]at hx
     rcases hx with hx|rfl
     ·have:=h.own_lt (b:=b) (.inr (.inr (.inr (.inr (.inr ⟨x,hx,e⟩)))));omega
     ·obtain⟨_,hd|⟨g,cur,g3,g4,_⟩⟩:=nt.f
      ·rw[hd]at hb;simp[zQb]at hb
      ·simp[zQb,g3]at hb;subst hb
       exact nt.tab.other g4 (by decide) (by decide) e
   ·have:=h.xl b e;omega
  exact zKQ hv hr3
theorem zQS.reNow (h:zQS X w0 L d mu) (hp:Pu w0 w) {B:Nat->Prop} (hf:Fr B w w') (hB:∀b,B b->b=L.S∨L.now.own b) {q:HT} {t:Tbl} (hst:w'.heap[L.S]?=some (.cells (zJr mu { L with now:=q }) 108)) (hq:zJv w' t q) (ho:∀b,q.own b->L.now.own b∨w0.heap.size<=b)
  (hqf:q.f=L.now.f) (hft:t.fields=d.σ.t.fields):zQS X w' { L with now:=q } { d with σ:={ d.σ with t:=t } } mu/\zZy w0 w' L { L with now:=q }:=by
 have h1:=h.pu hp
 have hown:∀b,SL.own { L with now:=q } b->L.own b∨w0.heap.size<=b:=λb hb=>by
  rcases hb with hb|hb|hb|hb|hb|⟨x,hx,hb⟩
  ·exact .inl (.inl hb)
  ·exact .inl (.inr (.inl hb))
  ·exact .inl (.inr (.inr (.inl hb)))
  ·exact .inl (.inr (.inr (.inr (.inl hb))))
  ·exact .inl (.inr (.inr (.inr (.inr (.inl hb)))))
  ·rcases List.mem_cons.1 hx with rfl|hx
   ·rcases ho b hb with h2|h2
    ·exact .inl (.inr (.inr (.inr (.inr (.inr ⟨L.now,List.mem_cons_self,h2⟩)))))
    ·exact .inr h2
   ·exact .inl (.inr (.inr (.inr (.inr (.inr ⟨x,List.mem_cons_of_mem _ hx,hb⟩)))))
 have hfL:Fr L.own w0 w':=(Fr.pu hp:Fr L.own w0 w).trans (hf.mono λb hb _=>(hB b hb).elim .inl λhb=>.inr (.inr (.inr (.inr (.inr ⟨L.now,List.mem_cons_self,hb⟩))))) λb hb _=>hb
 have hleft:zZy w0 w' L { L with now:=q }:=⟨hfL,hown,rfl⟩
 have oth:∀{e:TypeId} {sz:Nat} {s':SV} {vs:List Value},zQj w e sz s' vs->e ≠ 108->e ≠ 67->e ≠ 73->zQj w' e sz s' vs:=λ{e sz s' vs} hx h2 h3 h4=>hx.fr hf λb hb hbB=>by
  rcases hB b hbB with rfl|hn
  ·exact hx.other h1.st h2 hb
  ·obtain⟨_,hd|⟨g,cur,g3,g4,_⟩⟩:=hx
   ·rw[hd]at hb;simp[zQb]at hb
   ·simp[zQb,g3]at hb;subst hb
    exact h1.now.other g4 h3 h4 hn
 have lt:∀x ∈ L.lh,∀b,x.own b->b<w0.heap.size:=λx hx b hb=>h.own_lt (.inr (.inr (.inr (.inr (.inr ⟨x,List.mem_cons_of_mem _ hx,hb⟩)))))
 refine⟨⟨hst,oth h1.lv (by decide) (by decide) (by decide),oth h1.dn (by decide) (by decide) (by decide),oth h1.wr (by decide) (by decide) (by decide),oth h1.pt (by decide) (by decide) (by decide),hq,h.ll,h.dl,h.wl,λi x u hx hu=>?_,h.ld,λx hx b hb hxb=>?_,h.djl,λb hb=>Nat.lt_of_lt_of_le (h.xl b hb) hfL.size,?_⟩,hleft⟩
 ·refine(h1.lvs i x u hx hu).fr hf λb hb hbB=>?_
  rcases hB b hbB with rfl|hn
  ·exact(h1.lvs i x u hx hu).other h1.st (by decide) (by decide) hb
  ·exact h.dj x (List.mem_of_getElem? hx) b hn hb
 ·rcases ho b hb with h2|h2
  ·exact h.dj x hx b h2 hxb
  ·have:=lt x hx b hxb;omega
 ·have k1:=hleft.keep (X:=X) h.kp h.xl
  intro w3 h3
  obtain⟨a1,a2,a3,a4,a5,a6⟩:=k1 w3 h3
  exact⟨by show zXF w3 q.f t.fields;rw[hqf,hft];exact a1,a2,a3,a4,a5,a6⟩
end Go.Proofs.YtaeecpjhfmcliaaGreatDoor
/- The log: what a recovery writes; stores are made. No condition but those stated. -/
namespace Go.Proofs.YtaeecpjhfmcliaaGreatDoor
open Go.Sh Go.RowKit Tryz
variable {w w' : World}
def yWB(w0 w:World)(q:SV)(b:List UInt8):Prop:=(q=⟨none,0,0⟩/\b=[])∨zQe w0 w q b
theorem yWB.fr{w0:World}{q:SV}{b:List UInt8}{B:Nat->Prop}(h:yWB w0 w q b)(hf:Fr B w w')(hB:∀k,w0.heap.size<=k->k<w.heap.size->¬B k):yWB w0 w' q b:=h.imp id λh=>h.fr hf λk hk=>hB k (h.2 k hk) (h.1.lt k hk)
theorem yWB.by{w0:World}{q:SV}{b:List UInt8}(h:yWB w0 w q b)(hl:b.length<=1000000000):ByV w q b:=by
 rcases h with⟨rfl,rfl⟩|h
 ·exact⟨rfl,Nat.le_refl _,Nat.zero_le _,λj b hj=>by simp at hj⟩
 ·exact h.by (by omega)
structure zZI (w0 w:World) (q:SV) (wh:List (Int × Int × SV)) (l:List Wr):Prop where
 row:zQj w 90 3 q (wh.flatMap wrC)
 rn:∀b ∈ zQb q,w0.heap.size<=b
 len:wh.length=l.length
 each:∀(i:Nat) x y,wh[i]?=some x->l[i]?=some y->x.1=y.file/\x.2.1=y.at_/\yWB w0 w x.2.2 y.b
theorem zZI.nil(w0 w:World):zZI w0 w ⟨none,0,0⟩ [] []:=⟨zQj.nil w 90 3,by simp[zQb],rfl,λi x y hx=>by simp at hx⟩
theorem zZI.pu {w0:World} {q:SV} {wh:List (Int × Int × SV)} {l:List Wr} (h:zZI w0 w q wh l) (hp:Pu w w'):zZI w0 w' q wh l:=
 ⟨h.row.pu hp,h.rn,h.len,λi x y hx hy=>⟨(h.each i x y hx hy).1,(h.each i x y hx hy).2.1,(h.each i x y hx hy).2.2.fr (Fr.pu hp:Fr (λ_=>False) w w') λ_ _ _ h=>h⟩⟩
theorem zZI.push {w0:World} {q:SV} {wh news:List (Int × Int × SV)} {l lnew:List Wr} (h:zZI w0 w q wh l) (hz:w0.heap.size<=w.heap.size) {r:Nat} (hr:w.heap[r]?=some (.cells (news.flatMap wrC).toArray 90)) (hn:news.length=lnew.length) (hb:l.length+lnew.length<=100000)
  (he:∀(i:Nat) x y,news[i]?=some x->lnew[i]?=some y->x.1=y.file/\x.2.1=y.at_/\yWB w0 w x.2.2 y.b) :
  ∃(s:SV) (w1:World),(Builtin.append_ #[87,87] 87 #[slV q,.slice (some ⟨r,0,none⟩) news.length news.length]).run prog w=.ok (slV s) w1/\zZI w0 w1 s (wh ++ news) (l ++ lnew)/\Fr (· ∈ zQb q) w w1:=by
 have hl:=h.row.len zJj (by decide)
 have hll:=h.len
 obtain⟨s,w1,hra,hrow,dH,hblk,hsl⟩:=zQ9 (P:=prog) (ty:=87) vu87 vi90 rfl (by decide) h.row (A:=some ⟨r,0,none⟩) (m:=news.length) (c:=news.length) (news:=news.flatMap wrC) (by rw[zQ4 zJj]) (λj u hu=>⟨_,rfl,by rw[cl hr];simpa using hu⟩) (λu hu=>by
  obtain⟨y,_,hy⟩:=List.mem_flatMap.1 hu
  simp[wrC]at hy
  rcases hy with rfl|rfl|rfl <;> rfl) (by show(q.len+news.length) * (40+1)<=_;omega)
 have keep:∀{x:SV} {b:List UInt8},yWB w0 w x b->yWB w0 w1 x b:=λhx=>hx.imp id λhx=>hx.fr dH λk hk e=>zQq hx.1 h.row (by decide) k hk e
 refine⟨s,w1,hra,⟨by rw[List.flatMap_append];exact hrow,λb hb=>?_,by simp[hll,hn],λi x y hx hy=>?_⟩,dH⟩
 ·rcases hblk b hb with h1|h1
  ·exact h.rn b h1
  ·omega
 ·rw[List.getElem?_append]at hx hy
  split at hx
  ·rename_i hi
   rw[if_pos (by omega)]at hy
   obtain⟨a,b,c⟩:=h.each i x y hx hy
   exact⟨a,b,keep c⟩
  ·rename_i hi
   rw[if_neg (by omega)]at hy
   rw[hll]at hx
   obtain⟨a,b,c⟩:=he _ x y hx hy
   exact⟨a,b,keep c⟩
def mendT(R:Rt)(r3:Nat)(bG:SV)(kz:Bool)(w6:World):Prop:=
 Br kz (
 ∃da:Int,w6.cell? ((⟨r3,0,none⟩:Addr).add 0)=some (.int .i64 da)/\
 ∃ba:SV,w6.cell? ((⟨r3,0,none⟩:Addr).add 1)=some (.slice ba.a ba.len ba.cap)/\
 ∃be:SV,w6.cell? ((⟨r3,0,none⟩:Addr).add 2)=some (.slice be.a be.len be.cap)/\
 Calls prog 86 #[.agg #[.int .i64 da,.slice ba.a ba.len ba.cap,.slice be.a be.len be.cap]] w6 λe w7=>
 ∃cn:SV,∃d7:Int,e=.returned (.tuple #[.slice cn.a cn.len cn.cap,.int .i64 d7])/\
 alE (.cells #[.int .i64 0,.int .i64 0,.slice none 0 0,.int .i64 0,.int .i64 0,.slice cn.a cn.len cn.cap,.int .i64 1,.int .i64 0,.slice none 0 0] 90) w7 λuH w8=>
 ∃bB:SV,∃w9:World,(Builtin.append_ #[87,87] 87 #[.slice bG.a bG.len bG.cap,.slice (some ⟨uH,0,none⟩) 3 3]).run prog w8=.ok (.slice bB.a bB.len bB.cap) w9/\
 R (.returned (.slice bB.a bB.len bB.cap)) w9) (
 R (.returned (.slice bG.a bG.len bG.cap)) w6)
def MendR(w:World)(F:Fls):Rt:=λe w'=>Pu w w'/\∃(q:SV) (wh:List (Int × Int × SV)),e=.returned (slV q)/\zZI w w' q wh (zXo F)
theorem yXA {s q0 q1:SV} {F:Fls} (h:zXx w s q0 q1 F) (hF:F.1.length<=900000000/\F.2.length<=900000000) {t:Tbl} (ht:(zQW F).1=some t):Calls prog 48 #[slV s] w (MendR w F):=by
 have hv:=zK5 ht
 have hl:=h.len
 refine yYf _ w _ ((yZs h hF).mono ?_)
 rintro e w1 ⟨ax,p,f,r,n,a,b,rfl,rfl,rfl,hO⟩
 rcases hO with⟨_,h0⟩|⟨rfl,u,hu,rfl,hO⟩
 ·rw[ht]at h0;cases h0
 rw[ht]at hu;cases hu
 have hrl:(zQW F).2.1.length<=F.2.length:=by
  obtain⟨_,fr,h2,_⟩:=yQ7 (zXE F.1) false F.2
  have:=congrArg List.length h2
  rw[List.length_append]at this
  show(zWc (zXE F.1) false F.2).2.1.length<=_
  omega
 refine⟨_,f,r,_,_,_,rfl,alB λw2 ar aN=>zQh aN zWx.symm rfl rfl λw3 bo fU _=>?_⟩
 have bg:Pu w1 w3:=ar.andNew fU λi hi=>by rw[show i=_ from hi];exact Nat.le_refl _
 have aZ:=ax.trans bg
 obtain⟨aa,ha,c0,c1⟩:=(h.pu aZ).ex
 have sR:=h.b1.len
 refine⟨aa,ha,by omega,by omega,q1,c1,?_⟩
 have hRd:=hO.rd (zXX hv)
 have tail:∀{wz:World} {q:SV} {wh:List (Int × Int × SV)} {l:List Wr},Pu w3 wz->zZI w wz q wh l->l.length<=10->zXo F=l ++ (if (zQW F).2.2 then [⟨0,0,[]⟩,⟨0,0,zX3 t⟩,⟨1,0,[]⟩]else [])->mendT (MendR w F) w1.heap.size q (zQW F).2.2 wz:=λ{wz q wh l} hpz hW hll hm=>by
  have hp0z:=aZ.trans hpz
  refine Br.of (λc=>⟨_,cl (hpz.blk bo) 0,f,cl (hpz.blk bo) 1,r,cl (hpz.blk bo) 2,?_⟩) (λc=>⟨hp0z,q,wh,rfl,?_⟩)
  ·rw[if_pos c]at hm
   refine(yJl (hRd.pu (bg.trans hpz)) (zZL hv)).mono ?_
   rintro e w7 ⟨q7,rfl,h7,cK⟩
   refine⟨q7,_,rfl,alB λw8 bM lZ=>?_⟩
   have si:=cK.trans bM
   obtain⟨s9,w9,zy,hW9,mG⟩:=(hW.pu si).push (hp0z.trans si).size (news:=[(0,0,⟨none,0,0⟩),(0,0,q7),(1,0,⟨none,0,0⟩)]) (lnew:=[⟨0,0,[]⟩,⟨0,0,zX3 t⟩,⟨1,0,[]⟩]) lZ rfl (by simp;omega) (λi x y hx hy=>by
    rcases i with _|_|_|i <;> simp at hx hy <;> subst hx <;> subst hy
    ·exact⟨rfl,rfl,.inl ⟨rfl,rfl⟩⟩
    ·exact⟨rfl,rfl,.inr ((h7.pu bM).low hp0z.size)⟩
    ·exact⟨rfl,rfl,.inl ⟨rfl,rfl⟩⟩)
   exact⟨s9,w9,zy,(hp0z.trans si).andNew mG hW.rn,s9,_,rfl,by rw[hm];exact hW9⟩
  ·rw[if_neg (by rw[c];simp),List.append_nil]at hm
   rw[hm];exact hW
 refine Br.of (λc=>?_) (λc=>?_)
 ·have c:=zQk c
  have hne:(zQW F).2.1 ≠ []:=λe=>by rw[e]at c;simp at c;omega
  refine alB λw5 aV bi=>?_
  have cV:=aZ.trans aV
  obtain⟨s6,w6,zv,hW6,gN⟩:=(zZI.nil w w5).push cV.size (news:=[(1,(F.2.length:Int) - ((zQW F).2.1.length:Int),⟨none,0,0⟩)]) (lnew:=[⟨1,(F.2.length:Int) - ((zQW F).2.1.length:Int),[]⟩]) bi rfl (by simp) (λi x y hx hy=>by
   rcases i with _|i <;> simp at hx hy
   subst hx;subst hy
   exact⟨rfl,rfl,.inl ⟨rfl,rfl⟩⟩)
  refine⟨s6,w6,zv,tail (l:=[⟨1,(F.2.length:Int) - ((zQW F).2.1.length:Int),[]⟩]) (aV.andNew gN λk hk=>by simp[zQb]at hk) hW6 (by simp) ?_⟩
  unfold zXo
  rw[if_neg hne,ht];rfl
 ·have c:=zQd c
  have h0:(zQW F).2.1=[]:=List.eq_nil_of_length_eq_zero (by omega)
  refine tail (q:=⟨none,0,0⟩) (l:=[]) (Pu.refl _) (zZI.nil w w3) (by simp) ?_
  unfold zXo
  rw[if_pos h0,ht];rfl
end Go.Proofs.YtaeecpjhfmcliaaGreatDoor
/- The log: stores are made of tables and of files. No condition but those stated. -/
namespace Go.Proofs.YtaeecpjhfmcliaaGreatDoor
open Go.Sh Go.RowKit Tryz
variable {w w' : World} {X : Nat -> Prop}
def NewS(X:Nat->Prop)(w w':World)(p:Option Addr)(d:Dat):Prop:=∃L:SL,p=some ⟨L.S,0,none⟩/\zQS X w' L d 0/\∀b,L.own b->w.heap.size<=b
theorem xZV{t:Tbl}{f r s q0 q1:SV}{F:Fls}(h:zXD w t f r)(hv:zQi t=0)(hX:∀b,X b->b<w.heap.size)(hF:zX9 X w s q0 q1 F) :
  Calls prog 50 #[zYj t f r,slV s] w λe w'=>∃p,e=.returned (.pointer p)/\NewS X w w' p (Dat.new t F)/\Pu w w':=by
 refine yYu _ _ _ _ w _ (alB λw1 ax aE=>zQf λw2 ar _=>?_)
 have aM:=ax.trans ar
 have cO:=ar.blk aE
 refine⟨λu=>Pu w2 u,Pu.refl _,t.page,λu hu=>cl (hu.blk cO) 0,f,λu hu=>cl (hu.blk cO) 1,r,λu hu=>cl (hu.blk cO) 2,t.page,λu hu=>cl (hu.blk cO) 0,f,λu hu=>cl (hu.blk cO) 1,r,λu hu=>cl (hu.blk cO) 2,(zJf (h.pu aM) hv).mono ?_⟩
 rintro e w3 ⟨x,rfl,hx,aA⟩
 refine⟨x.page,x.f,x.r,rfl,aA,(zJf ((h.pu aM).pu aA) hv).mono ?_⟩
 rintro e w4 ⟨y,rfl,hy,aJ⟩
 refine⟨y.page,y.f,y.r,rfl,alB λw5 aV bi=>alB λw6 bV gi=>?_⟩
 have cV:=((aM.trans aA).trans aJ).trans aV
 have cU:=cV.trans bV
 have z2:=aM.size
 have z3:=aA.size
 have z4:=aJ.size
 have lt4:w4.heap.size<w5.heap.size:=zQz bi
 have lt5:w5.heap.size<w6.heap.size:=zQz gi
 have b9:=bV.blk bi
 have sj:zKF w2 w6 t x:=(((hx.pu aJ).pu aV).pu bV)
 have sW:zKF w3 w6 t y:=((hy.pu aV).pu bV)
 have xlt:∀b,x.own b->b<w3.heap.size:=hx.tab.lt
 have xlo:∀b,x.own b->w2.heap.size<=b:=λb hb=>hb.elim (hx.rn b) (hx.vn b)
 obtain⟨L,hL⟩:∃L:SL,L=⟨w5.heap.size,x,⟨none,0,0⟩,[],⟨some ⟨w4.heap.size,0,none⟩,1,1⟩,[y],s,q0,q1,s,q0,q1,⟨none,0,0⟩,[],⟨none,0,0⟩⟩:=⟨_,rfl⟩
 have own:∀b,L.own b->b=w5.heap.size∨b=w4.heap.size∨x.own b:=λb hb=>by
  rw[hL]at hb
  rcases hb with hb|hb|hb|hb|hb|⟨z,hz,hb⟩
  ·exact .inl hb
  ·simp[zQb]at hb
  ·simp[zQb]at hb;exact .inr (.inl hb)
  ·simp[zQb]at hb
  ·simp[zQb]at hb
  ·have hz:z=x:=by simpa using hz
   rw[hz]at hb;exact .inr (.inr hb)
 have om:∀b,L.own b->w.heap.size<=b:=λb hb=>by
  rcases own b hb with rfl|rfl|hb
  ·omega
  ·omega
  ·have:=xlo b hb;omega
 refine⟨_,rfl,⟨L,by rw[hL],⟨?_,?_,?_,?_,?_,?_,?_,?_,?_,?_,?_,?_,?_,λb hb=>Nat.lt_of_lt_of_le (hX b hb) cU.size,?_⟩,om⟩,cU⟩
 ·rw[hL];exact gi
 ·rw[hL];exact zQj.nil _ _ _
 ·rw[hL]
  refine⟨rfl,.inr ⟨_,_,rfl,b9,Nat.le_refl _,by show 1<=maxLen;unfold maxLen;omega,rfl,rfl⟩⟩
 ·rw[hL];exact zQj.nil _ _ _
 ·rw[hL];exact zQj.nil _ _ _
 ·rw[hL];exact sj.tab
 ·rw[hL];rfl
 ·rw[hL];rfl
 ·rw[hL];rfl
 ·intro i a u ha;rw[hL]at ha;simp at ha
 ·intro b hb;rw[hL]at hb;simp[zQb]at hb
 ·intro a ha;rw[hL]at ha;simp at ha
 ·intro i j a c _ ha;rw[hL]at ha;simp at ha
 ·intro w7 h7
  have hFX:zXx w7 s q0 q1 F:=hF w7 ((Fr.pu cU:Fr X w w6).trans h7 λb hb hlt=>by
   rcases hb with hb|hb
   ·have:=om b hb;omega
   ·exact hb)
  have hnb:∀b,w3.heap.size<=b->b<w4.heap.size->¬(L.own b∨X b):=λb h1 h2 e=>by
   rcases e with e|e
   ·rcases own b e with rfl|rfl|e
    ·omega
    ·omega
    ·have:=xlt b e;omega
   ·have:=hX b e;omega
  have hyl:∀b,y.own b->b<w4.heap.size:=hy.tab.lt
  have hy7:zXD w7 t y.f y.r:=by
   have hyt:zJv w7 t y:=sW.tab.fr h7 λb hb=>hnb b (hb.elim (sW.rn b) (sW.vn b)) (hyl b hb)
   have hyf:zQj w7 129 4 y.f (t.fields.flatMap zYp):=sW.f.fr h7 λb hb=>hnb b (sW.fn b hb) (hy.f.lt b hb)
   exact hyt.rd (zKQ hv hyf) hv
  have hxf:zXF w7 x.f t.fields:=by
   refine zKQ hv (sj.f.fr h7 λb hb e=>?_)
   rcases e with e|e
   ·rcases own b e with e|e|e
    ·exact sj.f.other gi (by decide) (by rw[←e];exact hb)
    ·exact sj.f.other b9 (by decide) (by rw[←e];exact hb)
    ·obtain⟨_,hd|⟨g,cur,g3,g4,_⟩⟩:=sj.f
     ·rw[hd]at hb;simp[zQb]at hb
     ·simp[zQb,g3]at hb;subst hb
      exact sj.tab.other g4 (by decide) (by decide) e
   ·have:=sj.fn b hb;have:=hX b e;omega
  rw[hL]
  refine⟨hxf,λi a u ha=>by simp at ha,λi a u ha hu=>?_,hFX,hFX,λi a u ha=>by simp at ha⟩
  rcases i with _|i
  ·simp at ha;subst ha
   have hu:[t][0]?=some u:=hu
   simp at hu;subst hu
   exact⟨sW.tab.page,hy7⟩
  ·simp at ha
theorem new_c{t:Tbl}{f r:SV}(h:zXD w t f r)(hl:Lim.ok t.fields)(hX:∀b,X b->b<w.heap.size) :
  Calls prog 43 #[zYj t f r] w λe w'=>Pu w w'/\((zQi t ≠ 0/\e=.returned (.tuple #[.pointer none,.int .i64 (zQi t)]))∨zQi t=0/\∃p,e=.returned (.tuple #[.pointer p,.int .i64 0])/\NewS X w w' p (Dat.new t (zQ1 t,[]))):=by
 refine yY0 _ _ _ w _ (alB λw1 ax aE=>⟨_,cl aE 0,f,cl aE 1,r,cl aE 2,(yJl (h.pu ax) hl).mono ?_⟩)
 rintro e w2 ⟨q,rfl,hq,ar⟩
 have aM:=ax.trans ar
 have cO:=ar.blk aE
 refine⟨q,_,rfl,Br.of (λc=>⟨aM,.inl ⟨zQ5 c,rfl⟩⟩) (λc=>⟨_,cl cO 0,f,cl cO 1,r,cl cO 2,alB λw3 aA bo=>?_⟩)⟩
 have hv:zQi t=0:=zQs c
 have hbo:zX3 t=zQ1 t:=by unfold zX3;rw[if_pos hv]
 rw[hbo]at hq
 have aZ:=aM.trans aA
 have hle:=zKT (zJt.of hv)
 have hrow:zQj w3 22 1 ⟨some ⟨w2.heap.size,0,none⟩,2,2⟩ [slV q,slV ⟨none,0,0⟩]:=⟨rfl,.inr ⟨_,_,rfl,bo,Nat.le_refl _,by show 2<=maxLen;unfold maxLen;omega,rfl,rfl⟩⟩
 have hq3:=(hq.pu aA).low ax.size
 have hz:=aM.size
 have hF:zX9 X w3 ⟨some ⟨w2.heap.size,0,none⟩,2,2⟩ q ⟨none,0,0⟩ (zQ1 t,[]):=λw4 h4=>files_row (hrow.fr h4 λb hb e=>by
   simp[zQb]at hb;have:=hX b e;omega) ((hq3.fr h4 λb hb e=>by have:=hq3.2 b hb;have:=hX b e;omega).by (by omega)) ⟨rfl,Nat.le_refl _,Nat.zero_le _,λj b hj=>by simp at hj⟩
 refine(xZV (h.pu aZ) hv (λb hb=>Nat.lt_of_lt_of_le (hX b hb) aZ.size) hF).mono ?_
 rintro e w4 ⟨p,rfl,⟨L,rfl,hS,ho⟩,aJ⟩
 refine⟨_,rfl,aZ.trans aJ,.inr ⟨hv,_,rfl,L,rfl,hS,λb hb=>Nat.le_trans aZ.size (ho b hb)⟩⟩
end Go.Proofs.YtaeecpjhfmcliaaGreatDoor
/- The log: files are opened; the steps of a recovery. No condition but those stated. -/
namespace Go.Proofs.YtaeecpjhfmcliaaGreatDoor
open Go.Sh Go.RowKit Tryz
variable {w w' : World} {X : Nat -> Prop}
theorem vu28:prog.underlying 28=some (.slice 63):=by kernel_rfl
theorem vi63:(prog.info? 63).map (λi=>(i.zero,i.size,i.bytes))=some (some (.agg #[.slice none 0 0,.slice none 0 0]),2,48):=by kernel_rfl
theorem zVr{F:Fls}{y:Wr}(h:y ∈ zXo F):okW y:=by
 have hrl:(zQW F).2.1.length<=F.2.length:=by
  obtain⟨_,fr,h2,_⟩:=yQ7 (zXE F.1) false F.2
  have:=congrArg List.length h2
  rw[List.length_append]at this
  show(zWc (zXE F.1) false F.2).2.1.length<=_
  omega
 unfold zXo at h
 have hb:=yXP ((zQW F).1.getD yKa)
 rcases List.mem_append.1 h with h|h
 ·split at h
  ·cases h
  ·rw[List.mem_singleton.1 h];exact⟨.inr rfl,by show 0<=(F.2.length:Int) - ((zQW F).2.1.length:Int);omega,by simp⟩
 ·split at h
  ·simp at h
   rcases h with rfl|rfl|rfl
   ·exact⟨.inl rfl,Int.le_refl _,by simp⟩
   ·exact⟨.inl rfl,Int.le_refl _,by show(zX3 ((zQW F).1.getD yKa)).length<=_;omega⟩
   ·exact⟨.inr rfl,Int.le_refl _,by simp⟩
  ·cases h
theorem yX5(F:Fls):(zXo F).length<=4:=by
 unfold zXo
 rw[List.length_append]
 split <;> split <;> simp
theorem zZI.at_ {w0:World} {q:SV} {wh:List (Int × Int × SV)} {l:List Wr} (h:zZI w0 w q wh l) {k:Nat} {y:Wr} (hy:l[k]?=some y):∃a x,q.a=some a/\k<q.len/\w.cell? ((a.add (k * 3)).add 0)=some (.int .i64 y.file)/\w.cell? ((a.add (k * 3)).add 1)=some (.int .i64 y.at_)/\w.cell? ((a.add (k * 3)).add 2)=some (slV x)/\yWB w0 w x y.b:=by
 obtain⟨x,hx⟩:=zQZ (l:=wh) (k:=k) (by rw[h.len];exact(List.getElem?_eq_some_iff.1 hy).1)
 obtain⟨e1,e2,e3⟩:=h.each k x y hx hy
 obtain⟨a,ha,hk,c0⟩:=h.row.elem zJj hx (o:=0) rfl
 obtain⟨a',ha',_,c1⟩:=h.row.elem zJj hx (o:=1) rfl
 obtain⟨a'',ha'',_,c2⟩:=h.row.elem zJj hx (o:=2) rfl
 rw[ha]at ha' ha'';cases ha';cases ha''
 exact⟨a,x.2.2,ha,hk,by rw[c0,e1],by rw[c1,e2],c2,e3⟩
theorem zWh {F:Fls} {l:List Wr} {k:Nat} {y:Wr} (hy:l[k]?=some y):(l.take (k+1)).foldl zQK F=zQK ((l.take k).foldl zQK F) y:=by rw[zQ8 hy,List.foldl_append];rfl
def OpenR(X:Nat->Prop)(w:World)(F:Fls):Rt:=λe w'=>Pu w w'/\(((zQW F).1=none/\e=.returned (.tuple #[.pointer none,.int .i64 11]))∨∃t p,(zQW F).1=some t/\e=.returned (.tuple #[.pointer p,.int .i64 0])/\NewS X w w' p (Dat.new t (openF F)))
theorem open_c{s0 s1:SV}{d0 d1:List UInt8}(h0:ByV w s0 d0)(h1:ByV w s1 d1)(oG:d0.length<=800000000)(sQ:d1.length<=800000000)(hX:∀b,X b->b<w.heap.size):Calls prog 11 #[slV s0,slV s1] w (OpenR X w (d0,d1)):=by
 refine yY8 _ _ w _ (alB λw1 ax aE=>?_)
 have hrow:zQj w1 22 1 ⟨some ⟨w.heap.size,0,none⟩,2,2⟩ [slV s0,slV s1]:=⟨rfl,.inr ⟨_,_,rfl,aE,Nat.le_refl _,by show 2<=maxLen;unfold maxLen;omega,rfl,rfl⟩⟩
 refine(zWu (F:=(d0,d1)) (files_row hrow (h0.pu ax) (h1.pu ax)) ⟨by show d0.length<=_;omega,by show d1.length<=_;omega⟩).mono ?_
 rintro e w2 ⟨o,r0,r1,rfl,hN,ar⟩
 have aM:=ax.trans ar
 have hX1:∀b,X b->b<w1.heap.size:=λb hb=>Nat.lt_of_lt_of_le (hX b hb) ax.size
 have vH:zX9 X w2 o r0 r1 (d0,d1):=hN.keep ⟨by show d0.length<=_;omega,by show d1.length<=_;omega⟩ hX1
 refine⟨o,rfl,(yZs vH.at_ ⟨by show d0.length<=_;omega,by show d1.length<=_;omega⟩).mono ?_⟩
 rintro e w3 ⟨aA,p,f,r,n,a,b,rfl,rfl,rfl,hO⟩
 refine⟨_,f,r,_,_,b,rfl,alB λw4 aJ cA=>zQh cA zWx.symm rfl rfl λw5 bi cr _=>?_⟩
 have bL:Pu w3 w5:=aJ.andNew cr λi hi=>by rw[show i=_ from hi];exact Nat.le_refl _
 have cV:=(aM.trans aA).trans bL
 refine Br.of (λc=>?_) (λc=>?_)
 ·have c:b=false:=by simpa using c
  rcases hO with⟨_,h⟩|⟨h,_⟩
  ·exact⟨cV,.inl ⟨h,rfl⟩⟩
  ·rw[c]at h;cases h
 ·have c:b=true:=by simpa using c
  rcases hO with⟨h,_⟩|⟨_,t,ht,rfl,hO⟩
  ·rw[c]at h;cases h
  have hv:=zK5 ht
  have sX:=(vH.pu aA).pu bL
  refine(yXA sX.at_ ⟨by show d0.length<=_;omega,by show d1.length<=_;omega⟩ ht).mono ?_
  rintro e w6 ⟨bV,q,wh,rfl,hW⟩
  refine⟨q,rfl,?_⟩
  have hql:=hW.row.len zJj (by decide)
  have hwl:=hW.len
  have hml:=yX5 (d0,d1)
  refine zQ0 (zXo (d0,d1)).length (λk u w'=>u.2=(k:Int)/\Pu w6 w'/\∃r0 r1,zX9 X w' u.1 r0 r1 (((zXo (d0,d1)).take k).foldl zQK (d0,d1))) ⟨rfl,Pu.refl _,r0,r1,sX.pu bV⟩ ?_
  rintro k J ⟨u1,u2⟩ wa hk ⟨rS,hpa,x0,x1,hK⟩ hJ
  obtain rfl:u2=(k:Int):=rS
  dsimp only at hK ⊢
  have hp0a:=(cV.trans bV).trans hpa
  have hsz:(((zXo (d0,d1)).take k).foldl zQK (d0,d1)).1.length<=803000000/\(((zXo (d0,d1)).take k).foldl zQK (d0,d1)).2.length<=803000000:=by
   have h1:=zV6 (F:=(d0,d1)) (W:=(zXo (d0,d1)).take k) (c:=800000000) ⟨oG,sQ⟩ λy hy=>(zVr (List.mem_of_mem_take hy)).2.2
   have h2:((zXo (d0,d1)).take k).length<=4:=by rw[List.length_take];omega
   omega
  refine Br.of (λc1=>?_) (λc1=>?_)
  ·have aG:k<(zXo (d0,d1)).length:=by have:=zQk c1;omega
   obtain⟨y,hy⟩:=zQZ aG
   obtain⟨zI,zJ,ok3⟩:=zVr (List.mem_of_getElem? hy)
   obtain⟨a,x,ha,hka,g0,g1,g2,hB⟩:=(hW.pu hpa).at_ hy
   refine⟨a,ha,by omega,by omega,_,by rw[zZc];exact g0,_,by rw[zZc];exact g1,x,by rw[zZc];exact g2,alB λwb hpb hbb=>zQh hbb vk90.symm rfl rfl λwc hbc hfc _=>?_⟩
   have hpac:Pu wa wc:=hpb.andNew hfc λi hi=>by rw[show i=_ from hi];exact Nat.le_refl _
   refine⟨_,cl hbc 0,_,cl hbc 1,x,cl hbc 2,?_⟩
   have hB':yWB w5 wc x y.b:=hB.fr (Fr.pu hpac:Fr (λ_=>False) wa wc) λ_ _ _ h=>h
   refine(yV2 (x:=y) (λb hb=>Nat.lt_of_lt_of_le (hX b hb) (hp0a.trans hpac).size) (hK.pu hpac) (hB'.by (by omega)) zI zJ ⟨by omega,by omega⟩ (by omega)).mono ?_
   rintro e wd ⟨o',y0,y1,rfl,hK',hpd⟩
   refine⟨o',rfl,?_⟩
   rw[zQa (by omega) (by omega)]
   exact hJ _ _ aG ⟨rfl,(hpa.trans hpac).trans hpd,y0,y1,by dsimp only;rw[zWh hy];exact hK'⟩
  ·have aG:k=(zXo (d0,d1)).length:=by have:=zQd c1;omega
   subst aG
   rw[List.take_length]at hK hsz
   have hOa:=(hO.pu bL).pu (bV.trans hpa)
   have b5a:=(bV.trans hpa).blk bi
   refine⟨_,cl b5a 0,f,cl b5a 1,r,cl b5a 2,(xZV (hOa.rd (zXX hv)) hv (λb hb=>Nat.lt_of_lt_of_le (hX b hb) hp0a.size) hK).mono ?_⟩
   rintro e wz ⟨p,rfl,⟨L,rfl,hS,ho⟩,hpz⟩
   exact⟨_,rfl,hp0a.trans hpz,.inr ⟨t,_,ht,rfl,L,rfl,hS,λb hb=>Nat.le_trans hp0a.size (ho b hb)⟩⟩
abbrev yYJ(x:SV × SV):List Value:=[slV x.1,slV x.2]
theorem yQU(x:SV × SV):(yYJ x).length=2:=rfl
structure zZE (w0 w:World) (q:SV) (ps:List (SV × SV)) (l:List Fls):Prop where
 row:zQj w 63 2 q (ps.flatMap yYJ)
 rn:∀b ∈ zQb q,w0.heap.size<=b
 len:ps.length=l.length
 each:∀(i:Nat) x F,ps[i]?=some x->l[i]?=some F->zQe w0 w x.1 F.1/\zQe w0 w x.2 F.2
theorem zZE.pu {w0:World} {q:SV} {ps:List (SV × SV)} {l:List Fls} (h:zZE w0 w q ps l) (hp:Pu w w'):zZE w0 w' q ps l:=
 ⟨h.row.pu hp,h.rn,h.len,λi x F hx hF=>⟨(h.each i x F hx hF).1.pu hp,(h.each i x F hx hF).2.pu hp⟩⟩
theorem zZE.push {w0:World} {q:SV} {ps:List (SV × SV)} {l:List Fls} (h:zZE w0 w q ps l) (hz:w0.heap.size<=w.heap.size) {r:Nat} {x:SV × SV} {F:Fls} (hr:w.heap[r]?=some (.cells (yYJ x).toArray 63)) (hb:l.length<=100000) (h0:zQe w0 w x.1 F.1) (h1:zQe w0 w x.2 F.2) :
  ∃(s:SV) (w1:World),(Builtin.append_ #[28,28] 28 #[slV q,.slice (some ⟨r,0,none⟩) 1 1]).run prog w=.ok (slV s) w1/\zZE w0 w1 s (ps ++ [x]) (l ++ [F])/\Fr (· ∈ zQb q) w w1/\∀k ∈ zQb s,k ∈ zQb q∨w.heap.size<=k:=by
 have hl:=h.row.len yQU (by decide)
 have hll:=h.len
 obtain⟨s,w1,hra,hrow,dH,hblk,hsl⟩:=zQ9 (P:=prog) (ty:=28) vu28 vi63 rfl (by decide) h.row (A:=some ⟨r,0,none⟩) (m:=1) (c:=1) (news:=yYJ x) rfl (λj u hu=>⟨_,rfl,by rw[cl hr];simpa using hu⟩) (λu hu=>by simp[yYJ]at hu;rcases hu with rfl|rfl <;> rfl) (by show(q.len+1) * (48+1)<=_;omega)
 refine⟨s,w1,hra,⟨by rw[List.flatMap_append,List.flatMap_singleton];exact hrow,λb hb=>?_,by simp[hll],?_⟩,dH,hblk⟩
 ·rcases hblk b hb with h1|h1
  ·exact h.rn b h1
  ·omega
 ·exact yQj (P:=λx F=>zQe w0 w1 x.1 F.1/\zQe w0 w1 x.2 F.2) h.len (λi y G hy hG=>⟨(h.each i y G hy hG).1.fr dH λk hk e=>zQq (h.each i y G hy hG).1.1 h.row (by decide) k hk e,(h.each i y G hy hG).2.fr dH λk hk e=>zQq (h.each i y G hy hG).2.1 h.row (by decide) k hk e⟩) ⟨h0.fr dH λk hk e=>zQq h0.1 h.row (by decide) k hk e,h1.fr dH λk hk e=>zQq h1.1 h.row (by decide) k hk e⟩
theorem zZI.beside {w0 w1:World} {q u:SV} {wh:List (Int × Int × SV)} {l:List Wr} {ps:List (SV × SV)} {m:List Fls} (h:zZI w0 w q wh l) (hP:zZE w1 w u ps m) (hf:Fr (· ∈ zQb u) w w'):zZI w0 w' q wh l:=
 ⟨h.row.fr hf λk hk e=>zQq h.row hP.row (by decide) k hk e,h.rn,h.len,λi x y hx hy=>⟨(h.each i x y hx hy).1,(h.each i x y hx hy).2.1,(h.each i x y hx hy).2.2.imp id λhn=>hn.fr hf λk hk e=>zQq hn.1 hP.row (by decide) k hk e⟩⟩
def zZV(F:Fls)(k:Nat):List Fls:=((zXo F).take k).foldl (λl x=>l ++ [zQK (l.getLast?.getD F) x]) [F]
theorem zKz(F:Fls):∀k,(zZV F k).getLast?=some (((zXo F).take k).foldl zQK F)
 | 0=>rfl
 | k+1=>by
  by_cases hk:k<(zXo F).length
  ·obtain⟨y,hy⟩:=zQZ hk
   have ih:=zKz F k
   unfold zZV at ih ⊢
   rw[zWh hy,zQ8 hy,List.foldl_append,List.foldl_cons,List.foldl_nil,List.getLast?_append]
   rw[ih]
   rfl
  ·have e:(zXo F).take (k+1)=(zXo F).take k:=by rw[List.take_of_length_le (by omega),List.take_of_length_le (by omega)]
   have ih:=zKz F k
   unfold zZV at ih ⊢
   rw[e];exact ih
theorem zVC {F:Fls} {k:Nat} {y:Wr} (hy:(zXo F)[k]?=some y):zZV F (k+1)=zZV F k ++ [zQK (((zXo F).take k).foldl zQK F) y]:=by
 have h1:=zKz F k
 unfold zZV at h1 ⊢
 rw[zQ8 hy,List.foldl_append,List.foldl_cons,List.foldl_nil,h1]
 rfl
theorem zW7(F:Fls):∀k,(zZV F k).length<=k+1
 | 0=>Nat.le_refl _
 | k+1=>by
  by_cases hk:k<(zXo F).length
  ·obtain⟨y,hy⟩:=zQZ hk
   have:=zW7 F k
   rw[zVC hy,List.length_append,List.length_singleton];omega
  ·have e:zZV F (k+1)=zZV F k:=by unfold zZV;rw[List.take_of_length_le (by omega),List.take_of_length_le (by omega)]
   have:=zW7 F k
   rw[e];omega
def StepsR(w:World)(F:Fls):Rt:=λe w'=>Pu w w'/\(((zQW F).1=none/\e=.returned (.tuple #[.slice none 0 0,.int .i64 11]))∨∃t,(zQW F).1=some t/\∃q ps,e=.returned (.tuple #[slV q,.int .i64 0])/\zZE w w' q ps (yJt F))
theorem yV7{s0 s1:SV}{d0 d1:List UInt8}(h0:ByV w s0 d0)(h1:ByV w s1 d1)(oG:d0.length<=800000000)(sQ:d1.length<=800000000):Calls prog 12 #[slV s0,slV s1] w (StepsR w (d0,d1)):=by
 refine yVq _ _ w _ (alB λw1 ax aE=>?_)
 have hrow:zQj w1 22 1 ⟨some ⟨w.heap.size,0,none⟩,2,2⟩ [slV s0,slV s1]:=⟨rfl,.inr ⟨_,_,rfl,aE,Nat.le_refl _,by show 2<=maxLen;unfold maxLen;omega,rfl,rfl⟩⟩
 refine(zWu (F:=(d0,d1)) (files_row hrow (h0.pu ax) (h1.pu ax)) ⟨by show d0.length<=_;omega,by show d1.length<=_;omega⟩).mono ?_
 rintro e w2 ⟨o,r0,r1,rfl,hN,ar⟩
 have aM:=ax.trans ar
 have vH:zX9 (λ_=>False) w2 o r0 r1 (d0,d1):=hN.keep ⟨by show d0.length<=_;omega,by show d1.length<=_;omega⟩ (λb hb=>hb.elim)
 refine⟨o,rfl,(yZs vH.at_ ⟨by show d0.length<=_;omega,by show d1.length<=_;omega⟩).mono ?_⟩
 rintro e w3 ⟨aA,p,f,r,n,a,b,rfl,rfl,rfl,hO⟩
 refine⟨_,f,r,_,_,b,rfl,alB λw4 aJ cA=>zQh cA zWx.symm rfl rfl λw5 bi cr _=>?_⟩
 have bL:Pu w3 w5:=aJ.andNew cr λi hi=>by rw[show i=_ from hi];exact Nat.le_refl _
 have cV:=(aM.trans aA).trans bL
 refine Br.of (λc=>?_) (λc=>?_)
 ·have c:b=false:=by simpa using c
  rcases hO with⟨_,h⟩|⟨h,_⟩
  ·exact⟨cV,.inl ⟨h,rfl⟩⟩
  ·rw[c]at h;cases h
 ·have c:b=true:=by simpa using c
  rcases hO with⟨h,_⟩|⟨_,t,ht,rfl,hO⟩
  ·rw[c]at h;cases h
  have sX:=(vH.pu aA).pu bL
  refine(xZE sX.at_ ⟨by show d0.length<=_;omega,by show d1.length<=_;omega⟩).mono ?_
  rintro e w6 ⟨t0,t1,rfl,n0,n1,bV⟩
  refine⟨t0,t1,rfl,alB λw7 cK nH=>?_⟩
  have vI:=bV.trans cK
  have iO:=cV.trans vI
  have hK7:=sX.pu vI
  refine(yXA hK7.at_ ⟨by show d0.length<=_;omega,by show d1.length<=_;omega⟩ ht).mono ?_
  rintro e w8 ⟨bM,q,wh,rfl,hW⟩
  refine⟨q,rfl,?_⟩
  have gj:=iO.trans bM
  have hql:=hW.row.len zJj (by decide)
  have hwl:=hW.len
  have hml:=yX5 (d0,d1)
  have z5:=cV.size
  have z6:=bV.size
  have P0:zZE w w8 ⟨some ⟨w6.heap.size,0,none⟩,1,1⟩ [(t0,t1)] [(d0,d1)]:=by
   refine⟨⟨rfl,.inr ⟨_,_,rfl,bM.blk nH,Nat.le_refl _,by show 1<=maxLen;unfold maxLen;omega,rfl,rfl⟩⟩,λb hb=>by simp[zQb]at hb;omega,rfl,λi x F hx hF=>?_⟩
   rcases i with _|i <;> simp at hx hF
   subst hx;subst hF
   exact⟨((n0.pu cK).pu bM).low z5,((n1.pu cK).pu bM).low z5⟩
  refine zQ0 (zXo (d0,d1)).length (λk u w'=>u.2.2=(k:Int)/\Pu w w'/\(∃r0 r1,zX9 (λb=>b ∈ zQb u.2.1) w' u.1 r0 r1 (((zXo (d0,d1)).take k).foldl zQK (d0,d1)))/\(∃ps,zZE w w' u.2.1 ps (zZV (d0,d1) k))/\zZI w7 w' q wh (zXo (d0,d1))) ⟨rfl,gj,⟨r0,r1,λw9 h9=>(sX.pu bV) w9 ((Fr.pu (cK.trans bM):Fr (λb=>False) w6 w8).trans h9 λb hb hlt=>by simp[zQb]at hb;omega)⟩,⟨_,P0⟩,hW⟩ ?_
  rintro k J ⟨u1,u2,u3⟩ wa hk ⟨hu3,hpa,⟨x0,x1,hK⟩,⟨ps,hP⟩,hWa⟩ hJ
  obtain rfl:u3=(k:Int):=hu3
  dsimp only at hK hP ⊢
  have hsz:∀k',k'<=(zXo (d0,d1)).length->(((zXo (d0,d1)).take k').foldl zQK (d0,d1)).1.length<=803000000/\(((zXo (d0,d1)).take k').foldl zQK (d0,d1)).2.length<=803000000:=λk' hk'=>by
   have h1:=zV6 (F:=(d0,d1)) (W:=(zXo (d0,d1)).take k') (c:=800000000) ⟨oG,sQ⟩ λy hy=>(zVr (List.mem_of_mem_take hy)).2.2
   have h2:((zXo (d0,d1)).take k').length<=4:=by rw[List.length_take];omega
   omega
  refine Br.of (λc1=>?_) (λc1=>?_)
  ·have aG:k<(zXo (d0,d1)).length:=by have:=zQk c1;omega
   obtain⟨y,hy⟩:=zQZ aG
   obtain⟨zI,zJ,ok3⟩:=zVr (List.mem_of_getElem? hy)
   obtain⟨a,x,ha,hka,g0,g1,g2,hB⟩:=hWa.at_ hy
   refine⟨a,ha,by omega,by omega,_,by rw[zZc];exact g0,_,by rw[zZc];exact g1,x,by rw[zZc];exact g2,alB λwb hpb hbb=>zQh hbb vk90.symm rfl rfl λwc hbc hfc _=>?_⟩
   have hpac:Pu wa wc:=hpb.andNew hfc λi hi=>by rw[show i=_ from hi];exact Nat.le_refl _
   refine⟨_,cl hbc 0,_,cl hbc 1,x,cl hbc 2,?_⟩
   have hB':yWB w7 wc x y.b:=hB.fr (Fr.pu hpac:Fr (λ_=>False) wa wc) λ_ _ _ h=>h
   have nK:=hsz k hk
   refine(yV2 (x:=y) (λb hb=>Nat.lt_of_lt_of_le (hP.row.lt b hb) hpac.size) (hK.pu hpac) (hB'.by (by omega)) zI zJ ⟨by omega,by omega⟩ (by omega)).mono ?_
   rintro e wd ⟨o',y0,y1,rfl,hK',hpd⟩
   have mw:=hsz (k+1) aG
   rw[zWh hy]at mw
   refine⟨o',rfl,(xZE hK'.at_ ⟨by omega,by omega⟩).mono ?_⟩
   rintro e we ⟨v0,v1,rfl,m0,m1,hpe⟩
   refine⟨v0,v1,rfl,alB λwf hpf hbf=>?_⟩
   have hpaf:=((hpac.trans hpd).trans hpe).trans hpf
   have hp0d:=(hpa.trans hpac).trans hpd
   have hslen:=zW7 (d0,d1) k
   obtain⟨s',wg,hrg,hPg,hfg,hbk⟩:=(hP.pu hpaf).push (hpa.trans hpaf).size (x:=(v0,v1)) (F:=zQK (((zXo (d0,d1)).take k).foldl zQK (d0,d1)) y) hbf (by omega) ((m0.pu hpf).low hp0d.size) ((m1.pu hpf).low hp0d.size)
   refine⟨s',wg,hrg,?_⟩
   rw[zQa (by omega) (by omega)]
   have hfP:Fr (· ∈ zQb u2) wf wg:=hfg
   have hrowf:=(hP.pu hpaf).row
   refine hJ _ _ aG ⟨rfl,(hpa.trans hpaf).andNew hfg hP.rn,⟨y0,y1,?_⟩,⟨_,by dsimp only;rw[zVC hy];exact hPg⟩,?_⟩
   ·dsimp only
    rw[zWh hy]
    exact λw9 h9=>hK' w9 (((Fr.pu (hpe.trans hpf):Fr (λb=>b ∈ zQb u2) wd wf).trans hfg λb hb _=>hb).trans h9 λb hb hlt=>(hbk b hb).resolve_right (by have:=(hpe.trans hpf).size;omega))
   ·exact(hWa.pu hpaf).beside (hP.pu hpaf) hfg
  ·have aG:k=(zXo (d0,d1)).length:=by have:=zQd c1;omega
   subst aG
   have e:zZV (d0,d1) (zXo (d0,d1)).length=yJt (d0,d1):=by unfold zZV yJt;rw[List.take_length]
   rw[e]at hP
   exact⟨hpa,.inr ⟨t,ht,u2,ps,rfl,hP⟩⟩
end Go.Proofs.YtaeecpjhfmcliaaGreatDoor
/- The log: what the reading methods of a store tell. No condition but those stated. -/
namespace Go.Proofs.YtaeecpjhfmcliaaGreatDoor
open Go.Sh Go.RowKit Tryz
variable {w0 w w' : World} {X : Nat -> Prop} {L L' : SL} {d d' : Dat} {mu : Int}
structure Ins(w0 w:World)(L:SL):Prop where
 fr:Fr (·=L.S) w0 w
 st:w.heap[L.S]?=some (.cells (zJr 1 L) 108)
theorem Ins.at_(hi:Ins w0 w L)(h0:zQS X w0 L d mu):zQS X w L d 1:=h0.reS hi.fr hi.st
theorem Ins.pu(hi:Ins w0 w L)(hp:Pu w w'):Ins w0 w' L:=⟨hi.fr.trans (Fr.pu hp:Fr (·=L.S) w w') λ_ h _=>h,hp.blk hi.st⟩
theorem Ins.box (hi:Ins w0 w L) {r:Nat} (hf:Fr (·=r) w w') (hS:L.S<w0.heap.size) (hr:w0.heap.size<=r):Ins w0 w' L:=
 ⟨hi.fr.trans hf λb hb hlt=>by have hb:b=r:=hb;omega,hf.blk hi.st (show ¬L.S=r by omega)⟩
theorem Ins.left(hi:Ins w0 w L):zZy w0 w L L:=⟨hi.fr.mono λb hb _=>.inl hb,λ_ h=>.inl h,rfl⟩
theorem zQS.S_lt(h:zQS X w L d mu):L.S<w.heap.size:=h.own_lt (.inl rfl)
theorem zZ2(h:zQS X w0 L d 0)(hp:Pu w0 w):Calls prog 55 #[L.ptr] w λe w'=>e=.returned (.tuple #[yVW L,.int .i64 0])/\Ins w0 w' L/\Fr (·=L.S) w w'/\w'.heap.size=w.heap.size:=by
 refine(xWq (h.pu hp)).mono ?_
 rintro e w1 ⟨he,h1,hf,hs⟩
 exact⟨he,⟨(Fr.pu hp:Fr (·=L.S) w0 w).trans hf λ_ h _=>h,h1.st⟩,hf,hs⟩
theorem zWk (h0:zQS X w0 L d 0) (hi:Ins w0 w L) {K:World->Prop} (hK:∀w',Pu w0 w'->Fr (·=L.S) w w'->K w'):zQc prog [zZ9 L] w K:=xXm h0 (hi.at_ h0) hi.fr hK
theorem zKF.out {wa:World} {t:Tbl} {q:HT} (h:zKF wa w t q) (hf:Fr (·=L.S) w w') (hS:L.S<w0.heap.size) (hz:w0.heap.size<=wa.heap.size):zKF w0 w' t q:=
 (h.fr hf λb hb _ e=>by have e:b=L.S:=e;omega).low hz
theorem zQe.out {wa:World} {q:SV} {l:List UInt8} (h:zQe wa w q l) (hf:Fr (·=L.S) w w') (hS:L.S<w0.heap.size) (hz:w0.heap.size<=wa.heap.size):zQe w0 w' q l:=
 (h.fr hf λb hb e=>by have:=h.2 b hb;have e:b=L.S:=e;omega).low hz
theorem zVs {K:FuncId->Array Value->Array Value->Prop} (h:K 96 #[L.ptr] #[]):fnE (yVW L) K:=h
theorem yVX(h:zQS X w L d 0)(hn:d.σ.done.length<=1000000):Calls prog 22 #[L.ptr] w λe w'=>e=.returned (.int .i64 ((d.σ.done.length:Nat) - 1))/\Pu w w':=by
 have hl:=h.dn.len zQV (by decide)
 have hll:=h.dl
 refine yVf _ w _ ((zZ2 h (Pu.refl w)).mono ?_)
 rintro e w1 ⟨rfl,hi,hf,hs⟩
 refine⟨_,_,rfl,zVs (Br.of (λc=>by cases c) λ_=>⟨L.dn,(hi.at_ h).cellA 6,zWk h hi λw2 ar _=>⟨?_,ar⟩⟩)⟩
 rw[zQa (by omega) (by omega),hl,hll]
theorem zWX(h:zQS X w L d 0)(hv:zQi d.σ.t=0):Calls prog 14 #[L.ptr] w λe w'=>∃q:HT,e=.returned (.agg #[.int .i64 q.page,slV q.f,slV q.r])/\zKF w w' d.σ.t q/\Pu w w':=by
 have hS:=h.S_lt
 refine yVz _ w _ (alB λw1 ax aE=>(zZ2 h ax).mono ?_)
 rintro e w2 ⟨rfl,hi,hf,hs⟩
 have h2:=hi.at_ h
 have wB:=ax.size
 refine⟨_,_,rfl,zVs (Br.of (λc=>by cases c) λ_=>⟨_,h2.cellB 2 0,L.now.f,h2.cellB 2 1,L.now.r,h2.cellB 2 2,?_⟩)⟩
 rw[h2.now.page]
 refine(zJf (h2.rdNow hv) hv).mono ?_
 rintro e w3 ⟨q,rfl,hq,aA⟩
 have lE:=aA.blk (hf.blk aE (show ¬w.heap.size=L.S by omega))
 refine⟨q.page,q.f,q.r,rfl,zQh lE zWx.symm rfl rfl λw4 cA iv _=>?_⟩
 refine zWk h ((hi.pu aA).box iv hS (Nat.le_refl _)) λw5 aV cr=>?_
 have bi:=cr.blk cA (show ¬w.heap.size=L.S by omega)
 refine⟨_,cl bi 0,q.f,cl bi 1,q.r,cl bi 2,q,rfl,?_,aV⟩
 have me:w.heap.size<w1.heap.size:=zQz aE
 exact(hq.fr iv λb hb _ e=>by have e:b=w.heap.size:=e;omega).out cr hS (by omega)
theorem yZh(h:zQS X w L d 0)(hv:∀t ∈ d.σ.done,zQi t=0)(n:Int):Calls prog 27 #[L.ptr,.int .i64 n] w λe w'=>∃q:HT,e=.returned (.tuple #[.agg #[.int .i64 q.page,slV q.f,slV q.r],.int .i64 (yXV d.σ n)])/\zKF w w' (yXB d.σ n) q/\Pu w w':=by
 have hS:=h.S_lt
 have hl:=h.dn.len zQV (by decide)
 have hll:=h.dl
 refine yVN _ _ w _ (alB λw1 ax aE=>(zZ2 h ax).mono ?_)
 rintro e w2 ⟨rfl,hi,hf,hs⟩
 have h2:=hi.at_ h
 have wB:=ax.size
 have me:w.heap.size<w1.heap.size:=zQz aE
 have cO:=hf.blk aE (show ¬w.heap.size=L.S by omega)
 refine⟨_,_,rfl,zVs (Br.of (λc=>by cases c) λ_=>?_)⟩
 have bad:¬(0<=n/\n<d.σ.done.length)->stA prog 35 (⟨w.heap.size,0,none⟩:Addr) #[.int .i64 0,.slice none 0 0,.slice none 0 0] w2 λw5=>zQc prog [zZ9 L] w5 λw6=>
   ∃ag:Int,w6.cell? ((⟨w.heap.size,0,none⟩:Addr).add 0)=some (.int .i64 ag)/\∃ab:SV,w6.cell? ((⟨w.heap.size,0,none⟩:Addr).add 1)=some (.slice ab.a ab.len ab.cap)/\∃ae:SV,w6.cell? ((⟨w.heap.size,0,none⟩:Addr).add 2)=some (.slice ae.a ae.len ae.cap)/\
   ∃q:HT,Ending.returned (.tuple #[.agg #[.int .i64 ag,.slice ab.a ab.len ab.cap,.slice ae.a ae.len ae.cap],.int .i64 1])=.returned (.tuple #[.agg #[.int .i64 q.page,slV q.f,slV q.r],.int .i64 (yXV d.σ n)])/\zKF w w6 (yXB d.σ n) q/\Pu w w6:=λhn=>by
  refine zQh cO zWx.symm rfl rfl λw4 cA iv _=>zWk h (hi.box iv hS (Nat.le_refl _)) λw5 aV cr=>?_
  have bi:=cr.blk cA (show ¬w.heap.size=L.S by omega)
  refine⟨_,cl bi 0,⟨none,0,0⟩,cl bi 1,⟨none,0,0⟩,cl bi 2,⟨0,⟨none,0,0⟩,⟨none,0,0⟩,[]⟩,?_,?_,aV⟩
  ·unfold yXV;rw[if_neg hn]
  ·have e:yXB d.σ n=yKa:=by unfold yXB;rw[if_neg hn]
   rw[e]
   exact⟨⟨rfl,zQj.nil _ _ _,rfl,λi x r hx=>by simp at hx,by simp[vBl]⟩,zQj.nil _ _ _,by simp[zQb],by simp[zQb],by simp[vBl]⟩
 refine Br.of (λc=>bad (by have:=zQk c;omega)) (λc=>⟨L.dn,h2.cellA 6,Br.of (λc1=>bad (by have:=zQk c1;omega)) (λc1=>?_)⟩)
 have c:=zQd c
 have c1:=zQd c1
 have hn:0<=n/\n<d.σ.done.length:=by omega
 obtain⟨k,rfl⟩:∃k:Nat,n=(k:Int):=⟨n.toNat,by omega⟩
 obtain⟨t,ht⟩:=zQZ (l:=d.σ.done) (k:=k) (by omega)
 obtain⟨x,hx⟩:=zQZ (l:=L.dh) (k:=k) (by omega)
 obtain⟨ep,hR⟩:=(h2.kp0).dt k x t hx ht
 obtain⟨a,ha,hk,c0⟩:=h2.dn.elem zQV hx (o:=0) rfl
 obtain⟨a',ha',_,nl⟩:=h2.dn.elem zQV hx (o:=1) rfl
 obtain⟨a'',ha'',_,c2⟩:=h2.dn.elem zQV hx (o:=2) rfl
 rw[ha]at ha' ha'';cases ha';cases ha''
 refine⟨L.dn,h2.cellA 6,a,ha,by omega,by omega,x.page,by rw[zZc];exact c0,x.f,by rw[zZc];exact nl,x.r,by rw[zZc];exact c2,?_⟩
 have hvt:=hv t (List.mem_of_getElem? ht)
 have e:yXB d.σ (k:Int)=t:=by unfold yXB;rw[if_pos hn,zZc,List.getD_eq_getElem?_getD,ht];rfl
 have e2:yXV d.σ (k:Int)=0:=by unfold yXV;rw[if_pos hn]
 rw[ep]
 refine(zJf hR hvt).mono ?_
 rintro e3 w3 ⟨q,rfl,hq,aA⟩
 refine⟨q.page,q.f,q.r,rfl,zQh (aA.blk cO) zWx.symm rfl rfl λw4 cA iv _=>?_⟩
 refine zWk h ((hi.pu aA).box iv hS (Nat.le_refl _)) λw5 aV cr=>?_
 have bi:=cr.blk cA (show ¬w.heap.size=L.S by omega)
 refine⟨_,cl bi 0,q.f,cl bi 1,q.r,cl bi 2,q,by rw[e2],?_,aV⟩
 rw[e]
 exact(hq.fr iv λb hb _ e=>by have e:b=w.heap.size:=e;omega).out cr hS (by omega)
end Go.Proofs.YtaeecpjhfmcliaaGreatDoor
/- The log: what differs from the last committed table; the files behind some writes. No condition but those stated. -/
namespace Go.Proofs.YtaeecpjhfmcliaaGreatDoor
open Go.Sh Go.RowKit Tryz
variable {w0 w w' : World} {X : Nat -> Prop} {L L' : SL} {d d' : Dat} {mu : Int} {p : Int} {f : List Fld}
theorem zQS.lastD (h:zQS X w L d mu) (hne:d.σ.done ≠ []) (hn:d.σ.done.length<=1000000):∃(x:HT) (a:Addr),L.dn.a=some a/\(IntKind.i64.wrap (((L.dn.len:Nat):Int) - 1))=((d.σ.done.length - 1:Nat):Int)/\d.σ.done.length - 1<L.dn.len/\w.cell? ((a.add ((d.σ.done.length - 1) * 3)).add 0)=some (.int .i64 d.σ.last.page)/\
  w.cell? ((a.add ((d.σ.done.length - 1) * 3)).add 1)=some (slV x.f)/\w.cell? ((a.add ((d.σ.done.length - 1) * 3)).add 2)=some (slV x.r)/\zXD w d.σ.last x.f x.r:=by
 have hl:=h.dn.len zQV (by decide)
 have hdl:=h.dl
 have hpos:=List.length_pos_iff.2 hne
 have hlast:=zZK hne
 rw[List.getLast?_eq_getElem?]at hlast
 obtain⟨x,hx⟩:=zQZ (l:=L.dh) (k:=d.σ.done.length - 1) (by omega)
 obtain⟨ep,hR⟩:=h.kp0.dt _ x _ hx hlast
 obtain⟨a,ha,hk,c0⟩:=h.dn.elem zQV hx (o:=0) rfl
 obtain⟨a',ha',_,c1⟩:=h.dn.elem zQV hx (o:=1) rfl
 obtain⟨a'',ha'',_,c2⟩:=h.dn.elem zQV hx (o:=2) rfl
 rw[ha]at ha' ha'';cases ha';cases ha''
 exact⟨x,a,ha,by rw[zQa (by omega) (by omega)];omega,hk,by rw[c0,ep],c1,c2,hR⟩
theorem yX8(h:InvW p f d):xJG d.σ.last d.σ.t=(zZF d.σ,0):=by
 have hL:=h.lastL
 unfold xJG
 rw[if_neg (by rw[hL.ok];simp),if_neg (by rw[h.t.ok];simp),if_neg (by rw[hL.page,hL.fields,h.t.page,h.t.fields];simp)]
 rfl
structure Small(d:Dat):Prop where
 f1:d.first.1.length<=400000000
 f2:d.first.2.length<=400000000
 wn:d.wr.length<=500
 wb:∀x ∈ d.wr,okW x
theorem Small.files(h:Small d)(n:Nat):(zXU d.first d.wr n).1.length<=750000000/\(zXU d.first d.wr n).2.length<=750000000:=by
 have h1:=zV6 (F:=d.first) (W:=d.wr.take n) (c:=400000000) ⟨h.f1,h.f2⟩ λy hy=>(h.wb y (List.mem_of_mem_take hy)).2.2
 have h2:(d.wr.take n).length<=500:=by rw[List.length_take];have:=h.wn;omega
 unfold zXU
 omega
end Go.Proofs.YtaeecpjhfmcliaaGreatDoor
/- The log: writes to the files of a store; a commit. No condition but those stated. -/
namespace Go.Proofs.YtaeecpjhfmcliaaGreatDoor
open Go.Sh Go.RowKit Tryz
variable {w0 w w' : World} {X : Nat -> Prop} {L L' : SL} {d d' : Dat} {mu : Int} {p : Int} {f : List Fld}
theorem xZB{B:Nat->Prop}{Q:World->Prop}(h:∀w2,Fr B w w2->Q w2)(hp:Pu w w'):∀w2,Fr B w' w2->Q w2:=λw2 h2=>h w2 ((Fr.pu hp:Fr B w w').trans h2 λb hb _=>hb)
theorem zQS.xw(h:zQS X w L d mu):∀b,(L.own b∨X b)->b<w.heap.size:=λb hb=>hb.elim (λhb=>h.own_lt hb) (h.xl b)
theorem zQe.keepBy{w0:World}{q:SV}{l:List UInt8}(h:zQe w0 w q l)(hl:l.length<=1000000000){B:Nat->Prop}(hB:∀b,B b->b<w0.heap.size):∀w2,Fr B w w2->ByV w2 q l:=λw2 h2=>
 (h.fr h2 λb hb e=>by have:=h.2 b hb;have:=hB b e;omega).by (by omega)
theorem xQx (h:zQS X w L d 1) {y:Wr} (hy:okW y) {q:SV} (hq:∀w2,Fr (λb=>L.own b∨X b) w w2->ByV w2 q y.b) (hl:d.last.1.length<=900000000/\d.last.2.length<=900000000) (hn:d.wr.length<=1000000) :
  Calls prog 84 #[L.ptr,.agg #[.int .i64 y.file,.int .i64 y.at_,slV q]] w λe w'=>e=.returned (.tuple #[])/\∃L',zQS X w' L' (d.write y) 1/\zZy w w' L L':=by
 refine yYc _ _ _ _ w _ (alB λw1 ax aE=>zQf λw2 ar _=>?_)
 have aM:=ax.trans ar
 have cO:=ar.blk aE
 have h2:=h.pu aM
 have me:w.heap.size<w1.heap.size:=zQz aE
 refine⟨λu=>Pu w2 u,Pu.refl _,L.wr,λu hu=>(h2.pu hu).cellA 9,y.file,λu hu=>cl (hu.blk cO) 0,y.at_,λu hu=>cl (hu.blk cO) 1,q,λu hu=>cl (hu.blk cO) 2,alB λw4 aJ cA=>⟨aJ,?_⟩⟩
 have cW:=aM.trans aJ
 have h4:=h.pu cW
 have sT:=xZB hq cW
 obtain⟨s,w5,hr,hst⟩:=h4.pushWr (y:=y) sT cA hn (K:=λw7=>dwE w7 λw8=>∃cJ:SV,w8.cell? ((⟨L.S,0,none⟩:Addr).add 8)=some (.slice cJ.a cJ.len cJ.cap)/\
   ∃cY:Int,w8.cell? ((⟨w.heap.size,0,none⟩:Addr).add 0)=some (.int .i64 cY)/\∃aY:Int,w8.cell? ((⟨w.heap.size,0,none⟩:Addr).add 1)=some (.int .i64 aY)/\∃cf:SV,w8.cell? ((⟨w.heap.size,0,none⟩:Addr).add 2)=some (.slice cf.a cf.len cf.cap)/\
   Calls prog 49 #[.slice cJ.a cJ.len cJ.cap,.agg #[.int .i64 cY,.int .i64 aY,.slice cf.a cf.len cf.cap]] w8 λe aU=>∃dZ:SV,e=.returned (.slice dZ.a dZ.len dZ.cap)/\
   st1 ((⟨L.S,0,none⟩:Addr).add 8) (.slice dZ.a dZ.len dZ.cap) aU λaX=>(Ending.returned (.tuple #[])=.returned (.tuple #[]))/\∃L',zQS X aX L' (d.write y) 1/\zZy w aX L L') λw7 L1 h7 nu hlast=>by
  have rk:=nu.fr.blk (aJ.blk cO) (λho=>by have:=h.own_lt ho;omega)
  refine zQf λw8 bM _=>?_
  have h8:=h7.pu bM
  have nI:=bM.blk rk
  have hk8:=xZB (nu.keep (X:=X) sT h4.xl) bM
  refine⟨L1.last,by rw[←nu.ptr];exact h8.cellA 8,y.file,cl nI 0,y.at_,cl nI 1,q,cl nI 2,?_⟩
  refine(yV2 (B:=λb=>L1.own b∨X b) (x:=y) h8.xw (λw9 h9=>(h8.kp w9 h9).la) (hk8 _ (Fr.refl _ _)) hy.1 hy.2.1 hl (by have:=hy.2.2;omega)).mono ?_
  rintro e aU ⟨o,r0,r1,rfl,hK,iq⟩
  refine⟨o,rfl,?_⟩
  rw[←nu.ptr]
  refine(h8.pu iq).setLast hK λaX L2 mH sY=>⟨rfl,L2,mH,?_⟩
  exact((zZy.pu cW L).trans nu).trans ((zZy.pu (bM.trans iq) L1).trans sY)
 exact⟨s,w5,hr,hst⟩
theorem zVH (h:d.σ.lev ≠ []∨d.σ.t=d.σ.last):d.commit=d:=by
 unfold Dat.commit
 rw[if_neg]
 rintro⟨h1,h2⟩
 rcases h with h|h
 ·exact h h1
 ·exact h2 h
structure Fit(d:Dat):Prop where
 l1:d.last.1.length<=800000000
 l2:d.last.2.length<=800000000
 wn:d.wr.length<=100000
 dn:d.σ.done.length<=100000
theorem yZT(h:zQS X w L d 1)(hi:InvW p f d)(hs:Fit d):Calls prog 79 #[L.ptr] w λe w'=>e=.returned (.tuple #[])/\∃L',zQS X w' L' d.commit 1/\zZy w w' L L':=by
 have hS:=h.S_lt
 have hlv:=h.lv.len zQV (by decide)
 have hll:=h.ll
 have hdn:=hs.dn
 refine yVl _ w _ (zQf λw1 ax _=>?_)
 have h1:=h.pu ax
 obtain⟨x,a,ha,e1,hk,c0,c1,c2,hR⟩:=h1.lastD hi.ne (by omega)
 refine⟨λu=>Pu w1 u,Pu.refl _,L.dn,λu hu=>(h1.pu hu).cellA 6,L.dn,λu hu=>(h1.pu hu).cellA 6,a,ha,by rw[e1];omega,by rw[e1];omega,d.σ.last.page,λu hu=>hu.cell (by rw[e1,zZc];exact c0),x.f,λu hu=>hu.cell (by rw[e1,zZc];exact c1),x.r,λu hu=>hu.cell (by rw[e1,zZc];exact c2),?_⟩
 refine alB λw5 aV bi=>⟨aV,zQh bi zWx.symm rfl rfl λw6 gi gN _=>zQf λw7 cK _=>?_⟩
 have lw:Pu w1 w7:=(aV.andNew gN λi hi=>by rw[show i=_ from hi];exact Nat.le_refl _).trans cK
 have iO:=ax.trans lw
 have h7:=h.pu iO
 have b7:=cK.blk gi
 refine⟨_,cl b7 0,x.f,cl b7 1,x.r,cl b7 2,_,h7.cellB 2 0,L.now.f,h7.cellB 2 1,L.now.r,h7.cellB 2 2,?_⟩
 rw[h7.now.page]
 refine(xQ5 (hR.pu lw) (h7.rdNow hi.t.ok) (zZL hi.lastL.ok) (zZL hi.t.ok)).mono ?_
 rintro e w9 ⟨q,rfl,hq,eH⟩
 rw[yX8 hi]at hq
 replace hq:zVb w7 w9 q (zZF d.σ):=hq
 have he2:=congrArg Prod.snd (yX8 hi)
 have jU:=iO.trans eH
 have h9:=h.pu jU
 have hql:q.len=(zZF d.σ).length:=hq.len
 refine⟨q,_,rfl,L.lv,h9.cellA 5,Br.of (λc=>?_) (λc=>Br.of (λnl=>?_) (λnl=>?_))⟩
 ·have c:=zQk c
  have hlne:d.σ.lev ≠ []:=λe=>by
   have:d.σ.lev.length=0:=by rw[e];rfl
   omega
  rw[zVH (.inl hlne)]
  exact⟨rfl,L,h9,zZy.pu jU L⟩
 ·have nl:q.len=0:=by simpa using nl
  have hnil:zZF d.σ=[]:=List.eq_nil_of_length_eq_zero (by show(zZF d.σ).length=0;rw[hql]at nl;exact nl)
  have hrec:=xKX (a:=d.σ.last.recs) (b:=d.σ.t.recs) hnil
  have hL:=hi.lastL
  have:d.σ.t=d.σ.last:=by
   have p1:=hi.t.page
   have p2:=hi.t.fields
   have p3:=hL.page
   have p4:=hL.fields
   cases ht:d.σ.t with
   | mk a b c=>cases hlt:d.σ.last with
    | mk a' b' c'=>
     rw[ht]at p1 p2 hrec
     rw[hlt]at p3 p4 hrec
     dsimp only at p1 p2 p3 p4 hrec
     rw[p1,p2,p3,p4,hrec]
  rw[zVH (.inr this)]
  exact⟨rfl,L,h9,zZy.pu jU L⟩
 ·have c:=zQd c
  have hlev:d.σ.lev=[]:=List.eq_nil_of_length_eq_zero (by omega)
  have nl:¬q.len=0:=by simpa using nl
  have hne:d.σ.t ≠ d.σ.last:=λe=>nl (by
   have:zZF d.σ=[]:=by unfold zZF;rw[e];exact xQ9 _
   rw[hql];show(zZF d.σ).length=0;rw[this];rfl)
  have hcm:d.commit={ d.write d.rec_ with σ:={ d.σ with done:=d.σ.done ++ [d.σ.t] },pts:=d.pts ++ [(d.wr.length:Int)+1] }:=by unfold Dat.commit;rw[if_pos ⟨hlev,hne⟩]
  refine zQf λaK bg _=>?_
  have nv:=jU.trans bg
  have oE:=h.pu nv
  obtain⟨al,hal,cl0',zK⟩:=oE.kp0.la.ex
  have hll2:=oE.kp0.la.len
  have hb1l:=oE.kp0.la.b1.len
  refine⟨λu=>Pu aK u,Pu.refl _,L.last,λu hu=>(oE.pu hu).cellA 8,al,hal,by omega,by omega,L.l1,λu hu=>hu.cell zK,_,λu hu=>(oE.pu hu).cellB 2 0,L.now.f,λu hu=>(oE.pu hu).cellB 2 1,L.now.r,λu hu=>(oE.pu hu).cellB 2 2,?_⟩
  rw[oE.now.page]
  have fK:=(zXw.of hi.t.ok).n300
  have hl300:=(zXw.of hi.lastL.ok).n300
  refine(xXv (oE.rdNow hi.t.ok) hi.t.ok (hq.pu bg) (λk hk=>?_) ?_).mono ?_
  ·obtain⟨i,zw,rfl⟩:=List.mem_map.1 hk
   have:=List.mem_range.1 (List.mem_filter.1 zw).1
   omega
  ·show(zZF d.σ).length<=1000
   unfold zZF zWI
   rw[List.length_map]
   refine Nat.le_trans (List.length_filter_le _ _) ?_
   rw[List.length_range];omega
  rintro e bD ⟨q17,rfl,kN,nw⟩
  have hcl:(zXg d.σ.t (zZF d.σ)).length<=650000:=zYS (t:=d.σ.last) hi.t.ok hi.ge
  have hcne:zXg d.σ.t (zZF d.σ) ≠ []:=λe=>by
   have:=congrArg List.length e
   rw[zYK,List.length_append,zQx]at this
   simp at this
  refine⟨q17,rfl,nw,(xQH 99 (kN.by (by omega)) hcne (by omega)).mono ?_⟩
  rintro e cH ⟨q18,rfl,gO,jS⟩
  have nx:=nw.trans jS
  have ri:=nv.trans nx
  have h18:=h.pu ri
  refine⟨q18,rfl,nx,?_⟩
  have hy:okW d.rec_:=⟨.inr rfl,by show 0<=(d.last.2.length:Int);omega,by show(zJ1 99 (zXg d.σ.t (zZF d.σ))).length<=_;rw[zKd];omega⟩
  have zL:∀b,(L.own b∨X b)->b<bD.heap.size:=(h.pu (nv.trans nw)).xw
  have hrl:(zJ1 99 (zXg d.σ.t (zZF d.σ))).length<=1000000000:=by rw[zKd];omega
  have hw:=xQx (y:=d.rec_) (q:=q18) h18 hy (gO.keepBy hrl zL) ⟨by have:=hs.l1;omega,by have:=hs.l2;omega⟩ (by have:=hs.wn;omega)
  rw[show((L.l1.len:Nat):Int)=((d.last.2.length:Nat):Int)by omega]
  refine Calls.mono hw ?_
  rintro e cR ⟨rfl,L1,h19,nu⟩
  refine⟨rfl,zQf λcP ir _=>?_⟩
  have nJ:=h19.pu ir
  rw[←nu.ptr]
  refine⟨λu=>Pu cP u,Pu.refl _,L1.dn,λu hu=>(nJ.pu hu).cellA 6,_,λu hu=>(nJ.pu hu).cellB 2 0,L1.now.f,λu hu=>(nJ.pu hu).cellB 2 1,L1.now.r,λu hu=>(nJ.pu hu).cellB 2 2,?_⟩
  rw[nJ.now.page]
  refine(zJf (nJ.rdNow hi.t.ok) hi.t.ok).mono ?_
  rintro e dM ⟨wC,rfl,jV,kI⟩
  refine⟨wC.page,wC.f,wC.r,rfl,kI,alB λdP eI zM=>⟨kI.trans eI,?_⟩⟩
  have h24:=(nJ.pu kI).pu eI
  have hkd:=(jV.pu eI).keep (L:=L1) (X:=X) hi.t.ok (λb hb=>nJ.own_lt hb) nJ.xl
  obtain⟨s,gK,hr,hst⟩:=h24.pushDone (q:=wC) (t:=d.σ.t) jV.tab.page hkd zM (λb hb e=>by have:=(nJ.pu kI).own_lt hb;omega) (by show d.σ.done.length<=_;omega)
   (K:=λgR=>dwE gR λdf=>∃S5:World->Prop,S5 df/\∃jO:SV,(∀w',S5 w'->w'.cell? ((⟨L1.S,0,none⟩:Addr).add 10)=some (.slice jO.a jO.len jO.cap))/\∃kV:SV,(∀w',S5 w'->w'.cell? ((⟨L1.S,0,none⟩:Addr).add 9)=some (.slice kV.a kV.len kV.cap))/\
    alE (.cells #[.int .i64 ((kV.len:Nat):Int)] 3) df λyT fX=>S5 fX/\∃f7:SV,∃fY:World,(Builtin.append_ #[52,52] 52 #[.slice jO.a jO.len jO.cap,.slice (some ⟨yT,0,none⟩) 1 1]).run prog fX=.ok (.slice f7.a f7.len f7.cap) fY/\
    st1 ((⟨L1.S,0,none⟩:Addr).add 10) (.slice f7.a f7.len f7.cap) fY λfA=>(Ending.returned (.tuple #[])=.returned (.tuple #[]))/\∃L',zQS X fA L' d.commit 1/\zZy w fA L L') λgR L2 h27 sY _ _=>by
   refine zQf λdf ms _=>?_
   have zN:=h27.pu ms
   rw[←sY.ptr]
   refine⟨λu=>Pu df u,Pu.refl _,L2.pt,λu hu=>(zN.pu hu).cellA 10,L2.wr,λu hu=>(zN.pu hu).cellA 9,alB λfX kJ zO=>⟨kJ,?_⟩⟩
   have zP:=zN.pu kJ
   have hwrl:=zP.wr.len zJj (by decide)
   have zQ:=zP.wl
   have hpl:d.pts.length+1=d.σ.done.length:=hi.hist.len
   have zR:L2.wr.len=d.wr.length+1:=by
    rw[hwrl,zQ];show(d.wr ++ [d.rec_]).length=_;simp
   obtain⟨s2,fY,iN,zS⟩:=zP.pushPt zO (by show d.pts.length<=_;omega) (K:=λfA=>(Ending.returned (.tuple #[])=.returned (.tuple #[]))/\∃L',zQS X fA L' d.commit 1/\zZy w fA L L') λfA L3 h34 zT=>⟨rfl,L3,by rw[hcm];rw[zR]at h34;exact h34,((zZy.pu ri L).trans nu).trans (((zZy.pu ((ir.trans kI).trans eI) L1).trans sY).trans ((zZy.pu (ms.trans kJ) L2).trans zT))⟩
   exact⟨s2,fY,iN,zS⟩
  exact⟨s,gK,hr,hst⟩
end Go.Proofs.YtaeecpjhfmcliaaGreatDoor
/- The log: a table's own rows are written. No condition but those stated. -/
namespace Go.Proofs.YtaeecpjhfmcliaaGreatDoor
open Go.Sh Go.RowKit Tryz
variable {w w' : World} {t : Tbl} {h : HT}
theorem zJv.rlen(ht:zJv w t h):h.r.len=t.recs.length:=by rw[ht.rw_.len zQN (by decide),ht.len]
theorem zJv.push (ht:zJv w t h) {q:SV} {x:Rec} (hq:zQj w 73 3 q (x.v.flatMap zVO)) (hn:∀b ∈ zQb q,b ∉ vBl h.hs) {r:Nat} (hr:w.heap[r]?=some (.cells #[.bool x.gone,slV q] 67)) (hb:t.recs.length<=100000) :
  ∃(s:SV) (w1:World),(Builtin.append_ #[33,33] 33 #[slV h.r,.slice (some ⟨r,0,none⟩) 1 1]).run prog w=.ok (slV s) w1/\zJv w1 { t with recs:=t.recs ++ [x] } { h with r:=s,hs:=h.hs ++ [(x.gone,q)] }/\Fr (· ∈ zQb h.r) w w1/\∀k ∈ zQb s,k ∈ zQb h.r∨w.heap.size<=k:=by
 have hl:=ht.rlen
 obtain⟨s,w1,hra,hrow,dH,hblk,hsl⟩:=zQ9 (P:=prog) (ty:=33) vu33 vi67 rfl (by decide) ht.rw_ (A:=some ⟨r,0,none⟩) (m:=1) (c:=1) (news:=yJh (x.gone,q)) rfl (λj u hu=>⟨_,rfl,by rw[cl hr];simpa[yJh] using hu⟩) (λu hu=>by simp[yJh]at hu;rcases hu with rfl|rfl <;> rfl) (by show(h.r.len+1) * (32+1)<=_;omega)
 refine⟨s,w1,hra,⟨ht.page,?_,by simp[ht.len],?_,?_⟩,dH,hblk⟩
 ·show zQj w1 67 2 s ((h.hs ++ [(x.gone,q)]).flatMap yJh)
  rw[List.flatMap_append,List.flatMap_singleton];exact hrow
 ·intro i y z hy hz
  have hy:(h.hs ++ [(x.gone,q)])[i]?=some y:=hy
  have hz:(t.recs ++ [x])[i]?=some z:=hz
  rw[List.getElem?_append]at hy hz
  split at hy
  ·rename_i hi
   rw[if_pos (by rw[←ht.len];exact hi)]at hz
   obtain⟨e1,e2⟩:=ht.rec_ i y z hy hz
   exact⟨e1,e2.fr dH (zQq e2 ht.rw_ (by decide))⟩
  ·rename_i hi
   rw[if_neg (by rw[←ht.len];exact hi)]at hz
   have e1:y=(x.gone,q):=List.mem_singleton.1 (List.mem_of_getElem? hy)
   have e2:z=x:=List.mem_singleton.1 (List.mem_of_getElem? hz)
   rw[e1,e2]
   exact⟨rfl,hq.fr dH (zQq hq ht.rw_ (by decide))⟩
 ·show(vBl (h.hs ++ [(x.gone,q)])).Nodup
  rw[zXZ]
  refine List.nodup_append.2 ⟨ht.nd,by simp[vBl,zYi],λa ha b hb e=>?_⟩
  subst e
  exact hn a (by simpa[vBl] using hb) ha
theorem yQp {hs:List (Bool × SV)} {k:Nat} {x:Bool × SV} (hk:k<hs.length) (hn:(vBl hs).Nodup) (hx:∀b ∈ zQb x.2,b ∉ vBl hs):(vBl (hs.set k x)).Nodup:=by
 obtain⟨y,hy⟩:=zQZ hk
 have e:hs=hs.take k ++ y :: hs.drop (k+1):=by rw[←zXO hy,List.take_append_drop]
 have e2:vBl hs=vBl (hs.take k) ++ (zQb y.2 ++ vBl (hs.drop (k+1))):=by conv=>lhs;rw[e,zXZ,yZK]
 rw[e2]at hn hx
 rw[xWu hk,zXZ,yZK]
 obtain⟨n1,n2,n3⟩:=List.nodup_append.1 hn
 obtain⟨m1,m2,m3⟩:=List.nodup_append.1 n2
 refine List.nodup_append.2 ⟨n1,List.nodup_append.2 ⟨zYi _,m2,λa ha b hb e=>?_⟩,λa ha b hb e=>?_⟩
 ·subst e
  exact hx a ha (List.mem_append_right _ (List.mem_append_right _ hb))
 ·subst e
  rcases List.mem_append.1 hb with hb|hb
  ·exact hx a hb (List.mem_append_left _ ha)
  ·exact n3 a ha a (List.mem_append_right _ hb) rfl
theorem zJv.set (ht:zJv w t h) {k:Nat} (hk:k<t.recs.length) {q:SV} {x:Rec} (hq:zQj w 73 3 q (x.v.flatMap zVO)) (hn:∀b ∈ zQb q,b ∉ vBl h.hs) {K:World->Prop}
  (hK:∀w1,zJv w1 { t with recs:=t.recs.set k x } { h with hs:=h.hs.set k (x.gone,q) }->Fr (· ∈ zQb h.r) w w1->K w1):∃a,h.r.a=some a/\stA prog 67 (a.add (k * 2)) #[.bool x.gone,slV q] w K:=by
 have hl:=ht.len
 refine ht.rw_.stElem zQN (by decide) (i:=k) (by omega) (x.gone,q) xZs.symm rfl λw1 h1 dH nK=>hK w1 ⟨ht.page,h1,by simp[hl],λi y z hy hz=>?_,yQp (by omega) ht.nd hn⟩ dH
 have hy:(h.hs.set k (x.gone,q))[i]?=some y:=hy
 have hz:(t.recs.set k x)[i]?=some z:=hz
 rw[List.getElem?_set]at hy hz
 by_cases e:k=i
 ·subst e
  rw[if_pos rfl,if_pos (by omega)]at hy hz
  cases hy;cases hz
  exact⟨rfl,hq.fr dH (zQq hq ht.rw_ (by decide))⟩
 ·rw[if_neg e]at hy hz
  obtain⟨e1,e2⟩:=ht.rec_ i y z hy hz
  exact⟨e1,e2.fr dH (zQq e2 ht.rw_ (by decide))⟩
theorem vBl_at {hs:List (Bool × SV)} (hn:(vBl hs).Nodup) {i j:Nat} {x y:Bool × SV} (hx:hs[i]?=some x) (hy:hs[j]?=some y) (hij:i ≠ j):∀b ∈ zQb x.2,b ∉ zQb y.2:=by
 have key:∀{i j:Nat} {x y:Bool × SV},i<j->hs[i]?=some x->hs[j]?=some y->∀b ∈ zQb x.2,b ∉ zQb y.2:=λ{i j x y} h hx hy b hb hc=>by
  have e:vBl hs=vBl (hs.take (i+1)) ++ vBl (hs.drop (i+1)):=by rw[←zXZ,List.take_append_drop]
  rw[e]at hn
  refine(List.nodup_append.1 hn).2.2 b ?_ b ?_ rfl
  ·rw[zQ8 hx,zXZ]
   exact List.mem_append_right _ (by simpa[vBl] using hb)
  ·refine zVQ (x:=y) (List.mem_of_getElem? (i:=j - (i+1)) ?_) hc
   rw[List.getElem?_drop,show i+1+(j - (i+1))=j by omega];exact hy
 rcases Nat.lt_or_gt_of_ne hij with h|h
 ·exact key h hx hy
 ·exact λb hb hc=>key h hy hx b hc hb
theorem zJv.setV (ht:zJv w t h) {k i:Nat} {r:Rec} (hr:t.recs[k]?=some r) (hi:i<r.v.length) (v:Val) {K:World->Prop} {y:Bool × SV} (hy:h.hs[k]?=some y)
  (hK:∀w1,zJv w1 { t with recs:=t.recs.modify k λr=>{ r with v:=r.v.set i v } } h->Fr (· ∈ zQb y.2) w w1->K w1):∃a,y.2.a=some a/\stA prog 73 (a.add (i * 3)) #[.int .i64 v.kind,.int .i64 v.n,.string v.s] w K:=by
 obtain⟨e1,e2⟩:=ht.rec_ k y r hy hr
 refine e2.stElem zXP (by decide) (i:=i) hi v vk73.symm rfl λw1 h1 dH nK=>hK w1 ⟨ht.page,ht.rw_.fr dH λb hb hc=>zQq e2 ht.rw_ (by decide) b hc hb,by simp[ht.len],λj z u hz hu=>?_,ht.nd⟩ dH
 have hu:(t.recs.modify k λr=>{ r with v:=r.v.set i v })[j]?=some u:=hu
 rw[List.getElem?_modify]at hu
 by_cases e:k=j
 ·subst e
  simp only[if_pos,hr]at hu
  have hu:u={ r with v:=r.v.set i v }:=by simpa using hu.symm
  subst hu
  rw[hy]at hz;cases hz
  exact⟨e1,h1⟩
 ·simp only[if_neg e]at hu
  obtain⟨d1,d2⟩:=ht.rec_ j z u hz (by simpa using hu)
  exact⟨d1,d2.fr dH λb hb hc=>vBl_at ht.nd hy hz e b hc hb⟩
end Go.Proofs.YtaeecpjhfmcliaaGreatDoor
