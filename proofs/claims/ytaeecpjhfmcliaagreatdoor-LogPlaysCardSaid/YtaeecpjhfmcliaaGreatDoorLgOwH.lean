import Derived.Test.YtaeecpjhfmcliaaGreatDoorLgOwF
import Derived.Test.YtaeecpjhfmcliaaGreatDoorLgPrB
import Derived.Laws.LoneSync
import Derived.Test.YtaeecpjhfmcliaaGreatDoorLgOwG
/- The log: a store is entered and left; its parts are written, one by one. No condition but those stated. -/
set_option maxRecDepth 100000
set_option linter.unusedVariables false
set_option linter.unusedSimpArgs false
namespace Go.Proofs.YtaeecpjhfmcliaaGreatDoor
open Go.Sh Go.RowKit Tryz
variable {w w' : World} {X : Nat -> Prop} {L L' : SL} {d d' : Dat} {mu : Int}
theorem disable(w:World):(callFunc 169 #[]).run prog w=.ok (.value (.tuple #[])) w:=run_call_mark0 Tryz.func169 (by kernel_rfl) (by kernel_rfl) (by kernel_rfl) .disable (by kernel_rfl) w
theorem enable(w:World):(callFunc 171 #[]).run prog w=.ok (.value (.tuple #[])) w:=run_call_mark0 Tryz.func171 (by kernel_rfl) (by kernel_rfl) (by kernel_rfl) .enable (by kernel_rfl) w
theorem acquire(a:Addr)(w:World):(callFunc 172 #[.pointer (some a)]).run prog w=.ok (.value (.tuple #[])) w:=run_call_marked Tryz.func172 (by kernel_rfl) (by kernel_rfl) (by kernel_rfl) .acquire (by kernel_rfl) a w
theorem xZ6(a:Addr)(w:World):(callFunc 174 #[.pointer (some a)]).run prog w=.ok (.value (.tuple #[])) w:=run_call_marked Tryz.func174 (by kernel_rfl) (by kernel_rfl) (by kernel_rfl) .releaseMerge (by kernel_rfl) a w
theorem mu1:prog.underlying 197=some (.pointer 103):=by kernel_rfl
theorem mu2:prog.underlying 201=some .unsafePointer:=by kernel_rfl
theorem mu3:(prog.info? 103).map (λi=>decide (i.size=0))=some false:=by kernel_rfl
theorem muLock {a:Addr} {w:World} (hc:w.cell? a=some (.int .i32 0)) (hz:w.frozen? a=false) :
  Calls prog 95 #[.pointer (some a)] w λe w'=>e=.returned (.tuple #[])/\w'=w.setCell a (.int .i32 1):=by
 refine yYh _ w _ ?_
 refine Calls.mono (R:=λe w'=>e=.returned (.tuple #[])/\w'=w.setCell a (.int .i32 1)) ?_ λe w' h=>⟨h.1,rfl,h.2⟩
 refine yKN _ w _ ?_
 refine⟨w,disable w,true,w.setCell a (.int .i32 1),run_call_cas_hit Tryz.func170 (by kernel_rfl) (by kernel_rfl) (by kernel_rfl) .i32 (by kernel_rfl) hc hz,?_⟩
 have hc':(w.setCell a (.int .i32 1)).cell? a=some (.int .i32 1):=World.cell?_setCell_same _ _ _ hc
 exact⟨_,enable _,_,_,run_convert_to_unsafe mu1 mu2 mu3 hc',_,acquire a _,rfl,rfl⟩
theorem xJk {a:Addr} {w:World} (hc:w.cell? a=some (.int .i32 1)) (hz:w.frozen? a=false) (u:FrameMode) :
  CallsD prog 96 #[.pointer (some a)] u w λe u' w'=>u'=u/\e=.returned (.tuple #[])/\w'=w.setCell a (.int .i32 0):=by
 refine yVo _ w (λe w'=>e=.returned (.tuple #[])/\w'=w.setCell a (.int .i32 0)) u ?_
 refine Calls.mono (R:=λe w'=>e=.returned (.tuple #[])/\w'=w.setCell a (.int .i32 0)) ?_ λe w' h=>⟨h.1,rfl,h.2⟩
 refine yVm _ w _ ?_
 refine⟨1,hc,_,_,run_convert_to_unsafe mu1 mu2 mu3 hc,_,xZ6 a _,_,disable _,0,w.setCell a (.int .i32 0),
  run_call_add Tryz.func175 (by kernel_rfl) (by kernel_rfl) (by kernel_rfl) .i32 (by kernel_rfl) hc hz (by simp[go_sem];rfl),w.setCell a (.int .i32 0),enable _,rfl,rfl⟩
theorem zQF.reS (h:zQF X w L d mu) (hf:Fr (·=L.S) w w') {mu':Int} (hst:w'.heap[L.S]?=some (.cells (zJX mu' L) 108)):zQF X w' L d mu' where
 st:=hst
 lv:=h.lv.fr hf λb hb e=>h.lv.other h.st (by decide) (by rw[←show b=L.S from e];exact hb)
 dn:=h.dn.fr hf λb hb e=>h.dn.other h.st (by decide) (by rw[←show b=L.S from e];exact hb)
 wr:=h.wr.fr hf λb hb e=>h.wr.other h.st (by decide) (by rw[←show b=L.S from e];exact hb)
 pt:=h.pt.fr hf λb hb e=>h.pt.other h.st (by decide) (by rw[←show b=L.S from e];exact hb)
 now:=h.now.fr hf λb hb e=>h.now.other h.st (by decide) (by decide) (by rw[←show b=L.S from e];exact hb)
 ll:=h.ll
 dl:=h.dl
 wl:=h.wl
 lvs:=λi x t hx ht=>(h.lvs i x t hx ht).fr hf λb hb e=>(h.lvs i x t hx ht).other h.st (by decide) (by decide) (by rw[←show b=L.S from e];exact hb)
 ld:=h.ld
 dj:=h.dj
 djl:=h.djl
 xl:=λb hb=>Nat.lt_of_lt_of_le (h.xl b hb) hf.size
 kp:=λw2 h2=>h.kp w2 ((hf.mono λb hb _=>.inl (.inl hb)).trans h2 λb hb _=>hb)
theorem zQF.setMu(h:zQF X w L d mu)(m:Int):zQF X (w.setCell ⟨L.S,0,none⟩ (.int .i32 m)) L d m:=h.reS (Fr.cell w _ _ _) (by rw[zJK h.st 0 (.int .i32 m)];rfl)
def xQJ(L:SL):Value:=.func (.func 96) #[L.ptr] #[]
def zZn(L:SL):Deferred:={ target:=.fn (.func 96) #[],args:=#[L.ptr] }
theorem xYi(h:zQF X w L d 0):Calls prog 55 #[L.ptr] w λe w'=>e=.returned (.tuple #[xQJ L,.int .i64 0])/\zQF X w' L d 1/\Fr (·=L.S) w w'/\w'.heap.size=w.heap.size:=by
 refine xXC _ w _ ⟨false,w,zJc vu24 _ _ _ w,?_⟩
 show Calls prog 95 #[.pointer (some ⟨L.S,0,none⟩)] w _
 refine Calls.mono (muLock (by rw[h.cell];rfl) (zVs h.st 0)) ?_
 rintro e w1 ⟨rfl,jT⟩
 refine⟨rfl,rfl,?_,?_,?_⟩
 ·rw[jT];exact h.setMu 1
 ·rw[jT];exact Fr.cell w _ _ _
 ·rw[jT];simp
theorem yQ1 (h:zQF X w L d 1) {K:World->Prop} (hK:K (w.setCell ⟨L.S,0,none⟩ (.int .i32 0))):zQb prog [zZn L] w K:=by
 show xZ8 prog (zZn L) w _
 show CallsD prog 96 #[.pointer (some ⟨L.S,0,none⟩)] .returning w _
 refine CallsD.mono (xJk (by rw[h.cell];rfl) (zVs h.st 0) .returning) ?_
 rintro e u' w' ⟨rfl,rfl,rfl⟩
 exact⟨⟨_,rfl⟩,rfl,hK⟩
theorem yWe {w0:World} {L0:SL} (h:zQF X w L d 1) (hl:zXY w0 w L0 L) {K:World->Prop} (hK:∀w',zQF X w' L d 0->zXY w0 w' L0 L->Fr (·=L.S) w w'->K w'):zQb prog [zZn L] w K:=
 yQ1 h (hK _ (h.setMu 0) (hl.trans ⟨(Fr.cell w _ _ _).mono λb hb _=>.inl hb,λ_ h=>.inl h,rfl⟩) (Fr.cell w _ _ _))
theorem xZX {w0:World} (h0:zQF X w0 L d 0) (h:zQF X w L d 1) (hf:Fr (·=L.S) w0 w) {K:World->Prop} (hK:∀w',Pu w0 w'->Fr (·=L.S) w w'->K w'):zQb prog [zZn L] w K:=by
 refine yQ1 h (hK _ ?_ (Fr.cell w _ _ _))
 have fW:=hf.trans (Fr.cell w L.S 0 (.int .i32 0)) λi hi _=>hi
 refine⟨fW.os,fW.tape,fW.output,fW.size,λk hk=>?_⟩
 by_cases e:k=L.S
 ·subst e
  rw[h0.st,(h.setMu 0).st]
 ·exact fW.block k hk e
theorem zWw.keep{w0:World}{t:Tbl}{q:HT}(hq:zWw w0 w t q)(hv:zQh t=0)(ho:∀b,L.own b->b<w0.heap.size)(hx:∀b,X b->b<w0.heap.size):∀w2,Fr (λb=>L.own b∨X b) w w2->zXi w2 t q.f q.r:=λw2 h2=>
 (hq.fr h2 λb hb _ e=>e.elim (λe=>by have:=ho b e;omega) (λe=>by have:=hx b e;omega)).rd hv
theorem zQF.pushDone (h:zQF X w L d mu) {q:HT} {t:Tbl} (hp:q.page=t.page) (hq:∀w2,Fr (λb=>L.own b∨X b) w w2->zXi w2 t q.f q.r) {r:Nat} (hr:w.heap[r]?=some (.cells (zVE q).toArray 35)) (hro:∀b,L.own b->b ≠ r) (hn:d.σ.done.length<=1000000)
  {K:World->Prop} (hK:∀w' L',zQF X w' L' { d with σ:={ d.σ with done:=d.σ.done ++ [t] } } mu->zXY w w' L L'->L'.now=L.now->L'.lh=L.lh->K w') :
  ∃s:SV,∃w1:World,(Builtin.append_ #[106,106] 106 #[slV L.dn,.slice (some ⟨r,0,none⟩) 1 1]).run prog w=.ok (slV s) w1/\st1 ((⟨L.S,0,none⟩:Addr).add 6) (slV s) w1 K:=by
 have hl:=h.dn.len zQt (by decide)
 have hdl:=h.dl
 obtain⟨s,w1,hra,hrow,dZ,hblk,hsl⟩:=zQz (P:=prog) (ty:=106) xJc vi35 rfl (by decide) h.dn (A:=some ⟨r,0,none⟩) (m:=1) (c:=1) (news:=zVE q) rfl (λj u hu=>⟨_,rfl,by rw[cl hr];simpa using hu⟩) (λu hu=>by simp[zVE]at hu;rcases hu with rfl|rfl|rfl <;> rfl) (by show(L.dn.len+1) * (56+1)<=_;omega)
 refine⟨s,w1,hra,?_⟩
 have hnS:L.S ∉ zQe L.dn:=h.dn.other h.st (by decide)
 have rE:=dZ.blk h.st hnS
 rw[zQs,Nat.zero_add]
 refine zQu rE (by show 6<11;omega) λw2 mP aN=>?_
 have fW:Fr (·=L.S) w1 w2:=by rw[mP];exact Fr.cell w1 _ _ _
 have hf:Fr (λb=>b=L.S∨b ∈ zQe L.dn) w w2:=(dZ.mono λb hb _=>.inr hb).trans fW λb hb _=>.inl hb
 have hsn:∀b ∈ zQe s,b ≠ L.S:=λb hb e=>by
  rcases hblk b hb with h1|h1
  ·exact hnS (by rw[←e];exact h1)
  ·have:=zQy h.st;omega
 have oc:zQl w2 35 3 s ((L.dh ++ [q]).flatMap zVE):=by
  rw[List.flatMap_append,List.flatMap_singleton]
  exact hrow.fr fW λb hb e=>hsn b hb e
 have oth:∀{e:TypeId} {sz:Nat} {s':SV} {vs:List Value},zQl w e sz s' vs->e ≠ 35->e ≠ 108->zQl w2 e sz s' vs:=λhr' h1 h2=>hr'.fr hf λb hb hx=>by
  rcases hx with rfl|hx
  ·exact hr'.other h.st h2 hb
  ·exact zQr hr' h.dn h1 b hb hx
 have tabo:∀{t:Tbl} {x:HT},zJF w t x->zJF w2 t x:=λht=>ht.fr hf λb hb hx=>by
  rcases hx with rfl|hx
  ·exact ht.other h.st (by decide) (by decide) hb
  ·obtain⟨_,hd|⟨g,cur,h3,h4,_⟩⟩:=h.dn
   ·rw[hd]at hx;simp[zQe]at hx
   ·simp[zQe,h3]at hx;subst hx
    exact ht.other h4 (by decide) (by decide) hb
 have hown:∀b,SL.own { L with dn:=s,dh:=L.dh ++ [q] } b->L.own b∨w.heap.size<=b:=λb hb=>by
  rcases hb with hb|hb|hb|hb|hb|hb
  ·exact .inl (.inl hb)
  ·exact .inl (.inr (.inl hb))
  ·rcases hblk b hb with h1|h1
   ·exact .inl (.inr (.inr (.inl h1)))
   ·exact .inr h1
  ·exact .inl (.inr (.inr (.inr (.inl hb))))
  ·exact .inl (.inr (.inr (.inr (.inr (.inl hb)))))
  ·exact .inl (.inr (.inr (.inr (.inr (.inr hb)))))
 have hleft:zXY w w2 L { L with dn:=s,dh:=L.dh ++ [q] }:=⟨hf.mono λb hb _=>hb.elim .inl λhb=>.inr (.inr (.inl hb)),hown,rfl⟩
 refine hK w2 { L with dn:=s,dh:=L.dh ++ [q] } ⟨aN,h.lv.fr hf λb hb hx=>?_,oc,oth h.wr (by decide) (by decide),oth h.pt (by decide) (by decide),tabo h.now,h.ll,by simp[hdl],h.wl,λi x u hx hu=>tabo (h.lvs i x u hx hu),λb hb hx=>?_,h.dj,h.djl,λb hb=>Nat.lt_of_lt_of_le (h.xl b hb) hf.size,?_⟩ hleft rfl rfl
 ·rcases hx with rfl|hx
  ·exact h.lv.other h.st (by decide) hb
  ·exact h.ld b hb hx
 ·rcases hblk b hx with h1|h1
  ·exact h.ld b hb h1
  ·have:=h.lv.lt b hb;omega
 ·have k1:=hleft.keep (X:=X) h.kp h.xl
  have k2:=hleft.keep (X:=X) hq h.xl
  intro w3 h3
  obtain⟨a1,a2,a3,a4,a5,a6⟩:=k1 w3 h3
  refine⟨a1,a2,λi x u hx hu=>?_,a4,a5,a6⟩
  rcases Nat.lt_trichotomy i d.σ.done.length with hi|hi|hi
  ·have hx:(L.dh ++ [q])[i]?=some x:=hx
   have hu:(d.σ.done ++ [t])[i]?=some u:=hu
   rw[List.getElem?_append_left (by omega)]at hx hu
   exact a3 i x u hx hu
  ·have hx:(L.dh ++ [q])[i]?=some x:=hx
   have hu:(d.σ.done ++ [t])[i]?=some u:=hu
   rw[List.getElem?_append_right (by omega),hdl,hi,Nat.sub_self]at hx
   rw[List.getElem?_append_right (by omega),hi,Nat.sub_self]at hu
   simp at hx hu;subst hx hu
   exact⟨hp,k2 w3 h3⟩
  ·have hu:(d.σ.done ++ [t])[i]?=some u:=hu
   rw[List.getElem?_eq_none (by rw[List.length_append,List.length_singleton];omega)]at hu;cases hu
end Go.Proofs.YtaeecpjhfmcliaaGreatDoor
/- The log: the parts of a store are written, one by one, continued. No condition but those stated. -/
namespace Go.Proofs.YtaeecpjhfmcliaaGreatDoor
open Go.Sh Go.RowKit Tryz
variable {w0 w w' : World} {X : Nat -> Prop} {L L' : SL} {d d' : Dat} {mu : Int}
theorem zQF.oth (h:zQF X w L d mu) {er:TypeId} {szr:Nat} {row:SV} {vsr:List Value} (hr:zQl w er szr row vsr) (hf:Fr (λb=>b=L.S∨b ∈ zQe row) w w') {e:TypeId} {sz:Nat} {s:SV} {vs:List Value} (hx:zQl w e sz s vs) (h1:e ≠ er) (h2:e ≠ 108):zQl w' e sz s vs:=
 hx.fr hf λb hb hB=>by
  rcases hB with rfl|hB
  ·exact hx.other h.st h2 hb
  ·exact zQr hx hr h1 b hb hB
theorem zQF.tabo (h:zQF X w L d mu) {er:TypeId} {szr:Nat} {row:SV} {vsr:List Value} (hr:zQl w er szr row vsr) (hf:Fr (λb=>b=L.S∨b ∈ zQe row) w w') (h1:er ≠ 67) (h2:er ≠ 73) {t:Tbl} {x:HT} (ht:zJF w t x):zJF w' t x:=
 ht.fr hf λb hb hB=>by
  rcases hB with rfl|hB
  ·exact ht.other h.st (by decide) (by decide) hb
  ·obtain⟨_,hd|⟨g,cur,h3,h4,_⟩⟩:=hr
   ·rw[hd]at hB;simp[zQe]at hB
   ·simp[zQe,h3]at hB;subst hB
    exact ht.other h4 h1 h2 hb
theorem zQF.grow (h:zQF X w L d mu) {er:TypeId} {szr:Nat} {row s:SV} {vsr:List Value} {w1:World} (hr:zQl w er szr row vsr) (he:er ≠ 108) (dZ:Fr (· ∈ zQe row) w w1) (hblk:∀k ∈ zQe s,k ∈ zQe row∨w.heap.size<=k) {o:Nat} (ho:o<11) {v:Value} {K:World->Prop}
  (hK:∀w2,w2.heap[L.S]?=some (.cells ((zJX mu L).setIfInBounds o v) 108)->Fr (λb=>b=L.S∨b ∈ zQe row) w w2->Fr (·=L.S) w1 w2->(∀b ∈ zQe s,b ≠ L.S)->K w2):st1 ((⟨L.S,0,none⟩:Addr).add o) v w1 K:=by
 have hnS:L.S ∉ zQe row:=hr.other h.st he
 rw[zQs,Nat.zero_add]
 refine zQu (dZ.blk h.st hnS) ho λw2 mP aN=>?_
 have fW:Fr (·=L.S) w1 w2:=by rw[mP];exact Fr.cell w1 _ _ _
 refine hK w2 aN ((dZ.mono λb hb _=>.inr hb).trans fW λb hb _=>.inl hb) fW λb hb e=>?_
 rcases hblk b hb with h1|h1
 ·exact hnS (by rw[←e];exact h1)
 ·have:=zQy h.st;omega
theorem yQT {α β:Type} {l:List α} {m:List β} {a:α} {b:β} (hl:l.length=m.length) {P:α->β->Prop} (h:∀(i:Nat) x y,l[i]?=some x->m[i]?=some y->P x y) (h0:P a b):∀(i:Nat) x y,(l ++ [a])[i]?=some x->(m ++ [b])[i]?=some y->P x y:=λi x y hx hy=>by
 rcases Nat.lt_trichotomy i m.length with hi|hi|hi
 ·rw[List.getElem?_append_left (by omega)]at hx hy
  exact h i x y hx hy
 ·rw[List.getElem?_append_right (by omega),hl,hi,Nat.sub_self]at hx
  rw[List.getElem?_append_right (by omega),hi,Nat.sub_self]at hy
  simp at hx hy;subst hx hy
  exact h0
 ·rw[List.getElem?_eq_none (by rw[List.length_append,List.length_singleton];omega)]at hy;cases hy
theorem zQF.pushWr (h:zQF X w L d mu) {q:SV} {y:Wr} (hq:∀w2,Fr (λb=>L.own b∨X b) w w2->ByV w2 q y.b) {r:Nat} (hr:w.heap[r]?=some (.cells #[.int .i64 y.file,.int .i64 y.at_,slV q] 90)) (hn:d.wr.length<=1000000)
  {K:World->Prop} (hK:∀w' L',zQF X w' L' { d with wr:=d.wr ++ [y] } mu->zXY w w' L L'->L'.last=L.last->K w') :
  ∃s:SV,∃w1:World,(Builtin.append_ #[87,87] 87 #[slV L.wr,.slice (some ⟨r,0,none⟩) 1 1]).run prog w=.ok (slV s) w1/\st1 ((⟨L.S,0,none⟩:Addr).add 9) (slV s) w1 K:=by
 have hl:=h.wr.len zJa (by decide)
 have hwl:=h.wl
 obtain⟨s,w1,hra,hrow,dZ,hblk,hsl⟩:=zQz (P:=prog) (ty:=87) vu87 vi90 rfl (by decide) h.wr (A:=some ⟨r,0,none⟩) (m:=1) (c:=1) (news:=wrC (y.file,y.at_,q)) rfl (λj u hu=>⟨_,rfl,by rw[cl hr];simpa using hu⟩) (λu hu=>by simp[wrC]at hu;rcases hu with rfl|rfl|rfl <;> rfl) (by show(L.wr.len+1) * (40+1)<=_;omega)
 refine⟨s,w1,hra,h.grow h.wr (by decide) dZ hblk (by decide) λw2 aN hf fW hsn=>?_⟩
 have hown:∀b,SL.own { L with wr:=s,wh:=L.wh ++ [(y.file,y.at_,q)] } b->L.own b∨w.heap.size<=b:=λb hb=>by
  rcases hb with hb|hb|hb|hb|hb|hb
  ·exact .inl (.inl hb)
  ·exact .inl (.inr (.inl hb))
  ·exact .inl (.inr (.inr (.inl hb)))
  ·rcases hblk b hb with h1|h1
   ·exact .inl (.inr (.inr (.inr (.inl h1))))
   ·exact .inr h1
  ·exact .inl (.inr (.inr (.inr (.inr (.inl hb)))))
  ·exact .inl (.inr (.inr (.inr (.inr (.inr hb)))))
 have hleft:zXY w w2 L { L with wr:=s,wh:=L.wh ++ [(y.file,y.at_,q)] }:=⟨hf.mono λb hb _=>hb.elim .inl λhb=>.inr (.inr (.inr (.inl hb))),hown,rfl⟩
 refine hK w2 { L with wr:=s,wh:=L.wh ++ [(y.file,y.at_,q)] } ⟨aN,h.oth h.wr hf h.lv (by decide) (by decide),h.oth h.wr hf h.dn (by decide) (by decide),?_,h.oth h.wr hf h.pt (by decide) (by decide),h.tabo h.wr hf (by decide) (by decide) h.now,h.ll,h.dl,by simp[hwl],λi x u hx hu=>h.tabo h.wr hf (by decide) (by decide) (h.lvs i x u hx hu),h.ld,h.dj,h.djl,λb hb=>Nat.lt_of_lt_of_le (h.xl b hb) hf.size,?_⟩ hleft rfl
 ·show zQl w2 90 3 s ((L.wh ++ [(y.file,y.at_,q)]).flatMap wrC)
  rw[List.flatMap_append,List.flatMap_singleton]
  exact hrow.fr fW λb hb e=>hsn b hb e
 ·have k1:=hleft.keep (X:=X) h.kp h.xl
  have k2:=hleft.keep (X:=X) hq h.xl
  intro w3 h3
  obtain⟨a1,a2,a3,a4,a5,a6⟩:=k1 w3 h3
  exact⟨a1,a2,a3,a4,a5,yQT (P:=λx y=>x.1=y.file/\x.2.1=y.at_/\ByV w3 x.2.2 y.b) h.wl a6 ⟨rfl,rfl,k2 w3 h3⟩⟩
theorem zQF.pushPt (h:zQF X w L d mu) {n:Int} {r:Nat} (hr:w.heap[r]?=some (.cells #[.int .i64 n] 3)) (hn:d.pts.length<=1000000)
  {K:World->Prop} (hK:∀w' L',zQF X w' L' { d with pts:=d.pts ++ [n] } mu->zXY w w' L L'->K w') :
  ∃s:SV,∃w1:World,(Builtin.append_ #[52,52] 52 #[slV L.pt,.slice (some ⟨r,0,none⟩) 1 1]).run prog w=.ok (slV s) w1/\st1 ((⟨L.S,0,none⟩:Addr).add 10) (slV s) w1 K:=by
 have hl:=h.pt.1
 rw[List.length_map,Nat.mul_one]at hl
 obtain⟨s,w1,hra,hrow,dZ,hblk,hsl⟩:=zQz (P:=prog) (ty:=52) vu52 vi3 rfl (by decide) h.pt (A:=some ⟨r,0,none⟩) (m:=1) (c:=1) (news:=[.int .i64 n]) rfl (λj u hu=>⟨_,rfl,by rw[cl hr];simpa using hu⟩) (λu hu=>by simp at hu;subst hu;rfl) (by show(L.pt.len+1) * (8+1)<=_;omega)
 refine⟨s,w1,hra,h.grow h.pt (by decide) dZ hblk (by decide) λw2 aN hf fW hsn=>?_⟩
 have hown:∀b,SL.own { L with pt:=s } b->L.own b∨w.heap.size<=b:=λb hb=>by
  rcases hb with hb|hb|hb|hb|hb|hb
  ·exact .inl (.inl hb)
  ·exact .inl (.inr (.inl hb))
  ·exact .inl (.inr (.inr (.inl hb)))
  ·exact .inl (.inr (.inr (.inr (.inl hb))))
  ·rcases hblk b hb with h1|h1
   ·exact .inl (.inr (.inr (.inr (.inr (.inl h1)))))
   ·exact .inr h1
  ·exact .inl (.inr (.inr (.inr (.inr (.inr hb)))))
 have hleft:zXY w w2 L { L with pt:=s }:=⟨hf.mono λb hb _=>hb.elim .inl λhb=>.inr (.inr (.inr (.inr (.inl hb)))),hown,rfl⟩
 refine hK w2 { L with pt:=s } ⟨aN,h.oth h.pt hf h.lv (by decide) (by decide),h.oth h.pt hf h.dn (by decide) (by decide),h.oth h.pt hf h.wr (by decide) (by decide),?_,h.tabo h.pt hf (by decide) (by decide) h.now,h.ll,h.dl,h.wl,λi x u hx hu=>h.tabo h.pt hf (by decide) (by decide) (h.lvs i x u hx hu),h.ld,h.dj,h.djl,λb hb=>Nat.lt_of_lt_of_le (h.xl b hb) hf.size,?_⟩ hleft
 ·show zQl w2 3 1 s ((d.pts ++ [n]).map (Value.int .i64))
  rw[List.map_append]
  exact hrow.fr fW λb hb e=>hsn b hb e
 ·have k1:=hleft.keep (X:=X) h.kp h.xl
  intro w3 h3
  obtain⟨a1,a2,a3,a4,a5,a6⟩:=k1 w3 h3
  exact⟨a1,a2,a3,a4,a5,a6⟩
theorem zQF.setLast (h:zQF X w L d mu) {s q0 q1:SV} {F:Fls} (hq:∀w2,Fr (λb=>L.own b∨X b) w w2->zXP w2 s q0 q1 F) {K:World->Prop} (hK:∀w' L',zQF X w' L' { d with last:=F } mu->zXY w w' L L'->K w'):st1 ((⟨L.S,0,none⟩:Addr).add 8) (slV s) w K:=by
 rw[zQs,Nat.zero_add]
 refine zQu h.st (by show 8<11;omega) λw2 mP aN=>?_
 have fW:Fr (·=L.S) w w2:=by rw[mP];exact Fr.cell w _ _ _
 have hleft:zXY w w2 L { L with last:=s,l0:=q0,l1:=q1 }:=⟨fW.mono λb hb _=>.inl hb,λb hb=>.inl hb,rfl⟩
 have oth:∀{e:TypeId} {sz:Nat} {s':SV} {vs:List Value},zQl w e sz s' vs->e ≠ 108->zQl w2 e sz s' vs:=λhx h2=>hx.fr fW λb hb e=>hx.other h.st h2 (by rw[←show b=L.S from e];exact hb)
 have tabo:∀{t:Tbl} {x:HT},zJF w t x->zJF w2 t x:=λht=>ht.fr fW λb hb e=>ht.other h.st (by decide) (by decide) (by rw[←show b=L.S from e];exact hb)
 refine hK w2 { L with last:=s,l0:=q0,l1:=q1 } ⟨aN,oth h.lv (by decide),oth h.dn (by decide),oth h.wr (by decide),oth h.pt (by decide),tabo h.now,h.ll,h.dl,h.wl,λi x u hx hu=>tabo (h.lvs i x u hx hu),h.ld,h.dj,h.djl,λb hb=>Nat.lt_of_lt_of_le (h.xl b hb) fW.size,?_⟩ hleft
 have k1:=hleft.keep (X:=X) h.kp h.xl
 have k2:=hleft.keep (X:=X) hq h.xl
 intro w3 h3
 obtain⟨a1,a2,a3,a4,a5,a6⟩:=k1 w3 h3
 exact⟨a1,a2,a3,a4,k2 w3 h3,a6⟩
theorem zQF.pushLev (h:zQF X w0 L d mu) (hp:Pu w0 w) {q:HT} {t:Tbl} (hq:zWw w0 w t q) (hv:zQh t=0) {r:Nat} (hr:w.heap[r]?=some (.cells (zVE q).toArray 35)) (hn:d.σ.lev.length<=1000000)
  {K:World->Prop} (hK:∀w' L',zQF X w' L' { d with σ:={ d.σ with lev:=d.σ.lev ++ [t] } } mu->zXY w0 w' L L'->K w') :
  ∃s:SV,∃w1:World,(Builtin.append_ #[106,106] 106 #[slV L.lv,.slice (some ⟨r,0,none⟩) 1 1]).run prog w=.ok (slV s) w1/\st1 ((⟨L.S,0,none⟩:Addr).add 5) (slV s) w1 K:=by
 have h1:=h.pu hp
 have hl:=h1.lv.len zQt (by decide)
 have hll:=h.ll
 obtain⟨s,w1,hra,hrow,dZ,hblk,hsl⟩:=zQz (P:=prog) (ty:=106) xJc vi35 rfl (by decide) h1.lv (A:=some ⟨r,0,none⟩) (m:=1) (c:=1) (news:=zVE q) rfl (λj u hu=>⟨_,rfl,by rw[cl hr];simpa using hu⟩) (λu hu=>by simp[zVE]at hu;rcases hu with rfl|rfl|rfl <;> rfl) (by show(L.lv.len+1) * (56+1)<=_;omega)
 refine⟨s,w1,hra,h1.grow h1.lv (by decide) dZ hblk (by decide) λw2 aN hf fW hsn=>?_⟩
 have hz:=hp.size
 have hqo:∀b,q.own b->w0.heap.size<=b:=λb hb=>hb.elim (hq.rn b) (hq.vn b)
 have hown:∀b,SL.own { L with lv:=s,lh:=L.lh ++ [q] } b->L.own b∨w0.heap.size<=b:=λb hb=>by
  rcases hb with hb|hb|hb|hb|hb|⟨x,hx,hb⟩
  ·exact .inl (.inl hb)
  ·rcases hblk b hb with h1|h1
   ·exact .inl (.inr (.inl h1))
   ·exact .inr (by omega)
  ·exact .inl (.inr (.inr (.inl hb)))
  ·exact .inl (.inr (.inr (.inr (.inl hb))))
  ·exact .inl (.inr (.inr (.inr (.inr (.inl hb)))))
  ·have hx:x ∈ L.now :: (L.lh ++ [q]):=hx
   rw[←List.cons_append,List.mem_append,List.mem_singleton]at hx
   rcases hx with hx|rfl
   ·exact .inl (.inr (.inr (.inr (.inr (.inr ⟨x,hx,hb⟩)))))
   ·exact .inr (hqo b hb)
 have hfL:Fr L.own w0 w2:=(Fr.pu hp:Fr L.own w0 w).trans (hf.mono λb hb _=>hb.elim .inl λhb=>.inr (.inl hb)) λb hb _=>hb
 have hleft:zXY w0 w2 L { L with lv:=s,lh:=L.lh ++ [q] }:=⟨hfL,hown,rfl⟩
 have pR:zWw w0 w2 t q:=hq.fr hf λb hb hlt e=>by
  rcases e with rfl|e
  ·have:=h.own_lt (.inl rfl);omega
  ·have:=h.lv.lt b e;omega
 have lt:∀x ∈ L.lh,∀b,x.own b->b<w0.heap.size:=λx hx b hb=>h.own_lt (.inr (.inr (.inr (.inr (.inr ⟨x,List.mem_cons_of_mem _ hx,hb⟩)))))
 refine hK w2 { L with lv:=s,lh:=L.lh ++ [q] } ⟨aN,?_,h1.dn.fr hf λb hb hx=>?_,h1.oth h1.lv hf h1.wr (by decide) (by decide),h1.oth h1.lv hf h1.pt (by decide) (by decide),h1.tabo h1.lv hf (by decide) (by decide) h1.now,by simp[hll],h.dl,h.wl,yQT (P:=λx u=>zJF w2 u x) h.ll (λi x u hx hu=>h1.tabo h1.lv hf (by decide) (by decide) (h1.lvs i x u hx hu)) pR.tab,λb hb hx=>?_,λx hx b hb hxb=>?_,λi j x y hij hx hy b hb hyb=>?_,λb hb=>Nat.lt_of_lt_of_le (h.xl b hb) hfL.size,?_⟩ hleft
 ·show zQl w2 35 3 s ((L.lh ++ [q]).flatMap zVE)
  rw[List.flatMap_append,List.flatMap_singleton]
  exact hrow.fr fW λb hb e=>hsn b hb e
 ·rcases hx with rfl|hx
  ·exact h1.dn.other h1.st (by decide) hb
  ·exact h.ld b hx hb
 ·rcases hblk b hb with h2|h2
  ·exact h.ld b h2 hx
  ·have:=h1.dn.lt b hx;omega
 ·rcases List.mem_append.1 hx with hx|hx
  ·exact h.dj x hx b hb hxb
  ·rw[List.mem_singleton.1 hx]at hxb
   have:=hqo b hxb
   have:=h.own_lt (b:=b) (.inr (.inr (.inr (.inr (.inr ⟨L.now,List.mem_cons_self,hb⟩)))))
   omega
 ·have xI:(L.lh ++ [q])[i]?=some x:=hx
  have qq:(L.lh ++ [q])[j]?=some y:=hy
  rw[List.getElem?_append]at xI qq
  split at xI
  ·split at qq
   ·exact h.djl i j x y hij xI qq b hb hyb
   ·have e:y=q:=List.mem_singleton.1 (List.mem_of_getElem? qq)
    have:=hqo b (by rw[←e];exact hyb)
    have:=lt x (List.mem_of_getElem? xI) b hb
    omega
  ·have e:x=q:=List.mem_singleton.1 (List.mem_of_getElem? xI)
   split at qq
   ·have:=hqo b (by rw[←e];exact hb)
    have:=lt y (List.mem_of_getElem? qq) b hyb
    omega
   ·have hi:=(List.getElem?_eq_some_iff.1 xI).1
    have hj:=(List.getElem?_eq_some_iff.1 qq).1
    simp at hi hj
    omega
 ·have k1:=hleft.keep (X:=X) h.kp h.xl
  intro w3 h3
  obtain⟨a1,a2,a3,a4,a5,a6⟩:=k1 w3 h3
  refine⟨a1,yQT (P:=λx u=>zX3 w3 x.f u.fields) h.ll a2 ?_,a3,a4,a5,a6⟩
  have hr3:zQl w3 129 4 q.f (t.fields.flatMap zVV):=by
   refine pR.f.fr h3 λb hb e=>?_
   have hbn:=pR.fn b hb
   rcases e with e|e
   ·
    rcases e with e|e|e|e|e|⟨x,hx,e⟩
    ·have e:b=L.S:=e
     have:=h.own_lt (b:=b) (.inl e)
     omega
    ·exact zQr pR.f (show zQl w2 35 3 s ((L.lh ++ [q]).flatMap zVE)by
      rw[List.flatMap_append,List.flatMap_singleton];exact hrow.fr fW λb hb e=>hsn b hb e) (by decide) b hb e
    ·have:=h.dn.lt b e;omega
    ·have:=h.wr.lt b e;omega
    ·have:=h.pt.lt b e;omega
    ·have hx:x ∈ L.now :: (L.lh ++ [q]):=hx
     rw[←List.cons_append,List.mem_append,List.mem_singleton]at hx
     rcases hx with hx|rfl
     ·have:=h.own_lt (b:=b) (.inr (.inr (.inr (.inr (.inr ⟨x,hx,e⟩)))));omega
     ·obtain⟨_,hd|⟨g,cur,g3,g4,_⟩⟩:=pR.f
      ·rw[hd]at hb;simp[zQe]at hb
      ·simp[zQe,g3]at hb;subst hb
       exact pR.tab.other g4 (by decide) (by decide) e
   ·have:=h.xl b e;omega
  exact zWC hv hr3
theorem zQF.reNow (h:zQF X w0 L d mu) (hp:Pu w0 w) {B:Nat->Prop} (hf:Fr B w w') (hB:∀b,B b->b=L.S∨L.now.own b) {q:HT} {t:Tbl} (hst:w'.heap[L.S]?=some (.cells (zJX mu { L with now:=q }) 108)) (hq:zJF w' t q) (ho:∀b,q.own b->L.now.own b∨w0.heap.size<=b)
  (hqf:q.f=L.now.f) (hft:t.fields=d.σ.t.fields):zQF X w' { L with now:=q } { d with σ:={ d.σ with t:=t } } mu/\zXY w0 w' L { L with now:=q }:=by
 have h1:=h.pu hp
 have hown:∀b,SL.own { L with now:=q } b->L.own b∨w0.heap.size<=b:=λb hb=>by
  rcases hb with hb|hb|hb|hb|hb|⟨x,hx,hb⟩
  ·exact .inl (.inl hb)
  ·exact .inl (.inr (.inl hb))
  ·exact .inl (.inr (.inr (.inl hb)))
  ·exact .inl (.inr (.inr (.inr (.inl hb))))
  ·exact .inl (.inr (.inr (.inr (.inr (.inl hb)))))
  ·rcases List.mem_cons.1 hx with rfl|hx
   ·rcases ho b hb with h2|h2
    ·exact .inl (.inr (.inr (.inr (.inr (.inr ⟨L.now,List.mem_cons_self,h2⟩)))))
    ·exact .inr h2
   ·exact .inl (.inr (.inr (.inr (.inr (.inr ⟨x,List.mem_cons_of_mem _ hx,hb⟩)))))
 have hfL:Fr L.own w0 w':=(Fr.pu hp:Fr L.own w0 w).trans (hf.mono λb hb _=>(hB b hb).elim .inl λhb=>.inr (.inr (.inr (.inr (.inr ⟨L.now,List.mem_cons_self,hb⟩))))) λb hb _=>hb
 have hleft:zXY w0 w' L { L with now:=q }:=⟨hfL,hown,rfl⟩
 have oth:∀{e:TypeId} {sz:Nat} {s':SV} {vs:List Value},zQl w e sz s' vs->e ≠ 108->e ≠ 67->e ≠ 73->zQl w' e sz s' vs:=λ{e sz s' vs} hx h2 h3 h4=>hx.fr hf λb hb hbB=>by
  rcases hB b hbB with rfl|hn
  ·exact hx.other h1.st h2 hb
  ·obtain⟨_,hd|⟨g,cur,g3,g4,_⟩⟩:=hx
   ·rw[hd]at hb;simp[zQe]at hb
   ·simp[zQe,g3]at hb;subst hb
    exact h1.now.other g4 h3 h4 hn
 have lt:∀x ∈ L.lh,∀b,x.own b->b<w0.heap.size:=λx hx b hb=>h.own_lt (.inr (.inr (.inr (.inr (.inr ⟨x,List.mem_cons_of_mem _ hx,hb⟩)))))
 refine⟨⟨hst,oth h1.lv (by decide) (by decide) (by decide),oth h1.dn (by decide) (by decide) (by decide),oth h1.wr (by decide) (by decide) (by decide),oth h1.pt (by decide) (by decide) (by decide),hq,h.ll,h.dl,h.wl,λi x u hx hu=>?_,h.ld,λx hx b hb hxb=>?_,h.djl,λb hb=>Nat.lt_of_lt_of_le (h.xl b hb) hfL.size,?_⟩,hleft⟩
 ·refine(h1.lvs i x u hx hu).fr hf λb hb hbB=>?_
  rcases hB b hbB with rfl|hn
  ·exact(h1.lvs i x u hx hu).other h1.st (by decide) (by decide) hb
  ·exact h.dj x (List.mem_of_getElem? hx) b hn hb
 ·rcases ho b hb with h2|h2
  ·exact h.dj x hx b h2 hxb
  ·have:=lt x hx b hxb;omega
 ·have k1:=hleft.keep (X:=X) h.kp h.xl
  intro w3 h3
  obtain⟨a1,a2,a3,a4,a5,a6⟩:=k1 w3 h3
  exact⟨by show zX3 w3 q.f t.fields;rw[hqf,hft];exact a1,a2,a3,a4,a5,a6⟩
end Go.Proofs.YtaeecpjhfmcliaaGreatDoor
/- The log: what a recovery writes; stores are made. No condition but those stated. -/
namespace Go.Proofs.YtaeecpjhfmcliaaGreatDoor
open Go.Sh Go.RowKit Tryz
variable {w w' : World}
def xZj(w0 w:World)(q:SV)(b:List UInt8):Prop:=(q=⟨none,0,0⟩/\b=[])∨zQi w0 w q b
theorem xZj.fr{w0:World}{q:SV}{b:List UInt8}{B:Nat->Prop}(h:xZj w0 w q b)(hf:Fr B w w')(hB:∀k,w0.heap.size<=k->k<w.heap.size->¬B k):xZj w0 w' q b:=h.imp id λh=>h.fr hf λk hk=>hB k (h.2 k hk) (h.1.lt k hk)
theorem xZj.by{w0:World}{q:SV}{b:List UInt8}(h:xZj w0 w q b)(hl:b.length<=1000000000):ByV w q b:=by
 rcases h with⟨rfl,rfl⟩|h
 ·exact⟨rfl,Nat.le_refl _,Nat.zero_le _,λj b hj=>by simp at hj⟩
 ·exact h.by (by omega)
structure zKd (w0 w:World) (q:SV) (wh:List (Int × Int × SV)) (l:List Wr):Prop where
 row:zQl w 90 3 q (wh.flatMap wrC)
 rn:∀b ∈ zQe q,w0.heap.size<=b
 len:wh.length=l.length
 each:∀(i:Nat) x y,wh[i]?=some x->l[i]?=some y->x.1=y.file/\x.2.1=y.at_/\xZj w0 w x.2.2 y.b
theorem zKd.nil(w0 w:World):zKd w0 w ⟨none,0,0⟩ [] []:=⟨zQl.nil w 90 3,by simp[zQe],rfl,λi x y hx=>by simp at hx⟩
theorem zKd.pu {w0:World} {q:SV} {wh:List (Int × Int × SV)} {l:List Wr} (h:zKd w0 w q wh l) (hp:Pu w w'):zKd w0 w' q wh l:=
 ⟨h.row.pu hp,h.rn,h.len,λi x y hx hy=>⟨(h.each i x y hx hy).1,(h.each i x y hx hy).2.1,(h.each i x y hx hy).2.2.fr (Fr.pu hp:Fr (λ_=>False) w w') λ_ _ _ h=>h⟩⟩
theorem zKd.push {w0:World} {q:SV} {wh news:List (Int × Int × SV)} {l lnew:List Wr} (h:zKd w0 w q wh l) (hz:w0.heap.size<=w.heap.size) {r:Nat} (hr:w.heap[r]?=some (.cells (news.flatMap wrC).toArray 90)) (hn:news.length=lnew.length) (hb:l.length+lnew.length<=100000)
  (he:∀(i:Nat) x y,news[i]?=some x->lnew[i]?=some y->x.1=y.file/\x.2.1=y.at_/\xZj w0 w x.2.2 y.b) :
  ∃(s:SV) (w1:World),(Builtin.append_ #[87,87] 87 #[slV q,.slice (some ⟨r,0,none⟩) news.length news.length]).run prog w=.ok (slV s) w1/\zKd w0 w1 s (wh ++ news) (l ++ lnew)/\Fr (· ∈ zQe q) w w1:=by
 have hl:=h.row.len zJa (by decide)
 have hll:=h.len
 obtain⟨s,w1,hra,hrow,dZ,hblk,hsl⟩:=zQz (P:=prog) (ty:=87) vu87 vi90 rfl (by decide) h.row (A:=some ⟨r,0,none⟩) (m:=news.length) (c:=news.length) (news:=news.flatMap wrC) (by rw[zQ3 zJa]) (λj u hu=>⟨_,rfl,by rw[cl hr];simpa using hu⟩) (λu hu=>by
  obtain⟨y,_,hy⟩:=List.mem_flatMap.1 hu
  simp[wrC]at hy
  rcases hy with rfl|rfl|rfl <;> rfl) (by show(q.len+news.length) * (40+1)<=_;omega)
 have keep:∀{x:SV} {b:List UInt8},xZj w0 w x b->xZj w0 w1 x b:=λhx=>hx.imp id λhx=>hx.fr dZ λk hk e=>zQr hx.1 h.row (by decide) k hk e
 refine⟨s,w1,hra,⟨by rw[List.flatMap_append];exact hrow,λb hb=>?_,by simp[hll,hn],λi x y hx hy=>?_⟩,dZ⟩
 ·rcases hblk b hb with h1|h1
  ·exact h.rn b h1
  ·omega
 ·rw[List.getElem?_append]at hx hy
  split at hx
  ·rename_i hi
   rw[if_pos (by omega)]at hy
   obtain⟨a,b,c⟩:=h.each i x y hx hy
   exact⟨a,b,keep c⟩
  ·rename_i hi
   rw[if_neg (by omega)]at hy
   rw[hll]at hx
   obtain⟨a,b,c⟩:=he _ x y hx hy
   exact⟨a,b,keep c⟩
def mendT(R:Rt)(r3:Nat)(cp:SV)(nF:Bool)(w6:World):Prop:=
 Br nF (
 ∃eW:Int,w6.cell? ((⟨r3,0,none⟩:Addr).add 0)=some (.int .i64 eW)/\
 ∃bu:SV,w6.cell? ((⟨r3,0,none⟩:Addr).add 1)=some (.slice bu.a bu.len bu.cap)/\
 ∃bv:SV,w6.cell? ((⟨r3,0,none⟩:Addr).add 2)=some (.slice bv.a bv.len bv.cap)/\
 Calls prog 86 #[.agg #[.int .i64 eW,.slice bu.a bu.len bu.cap,.slice bv.a bv.len bv.cap]] w6 λe w7=>
 ∃cU:SV,∃gy:Int,e=.returned (.tuple #[.slice cU.a cU.len cU.cap,.int .i64 gy])/\
 alE (.cells #[.int .i64 0,.int .i64 0,.slice none 0 0,.int .i64 0,.int .i64 0,.slice cU.a cU.len cU.cap,.int .i64 1,.int .i64 0,.slice none 0 0] 90) w7 λzj w8=>
 ∃bG:SV,∃w9:World,(Builtin.append_ #[87,87] 87 #[.slice cp.a cp.len cp.cap,.slice (some ⟨zj,0,none⟩) 3 3]).run prog w8=.ok (.slice bG.a bG.len bG.cap) w9/\
 R (.returned (.slice bG.a bG.len bG.cap)) w9) (
 R (.returned (.slice cp.a cp.len cp.cap)) w6)
def MendR(w:World)(F:Fls):Rt:=λe w'=>Pu w w'/\∃(q:SV) (wh:List (Int × Int × SV)),e=.returned (slV q)/\zKd w w' q wh (zZK F)
theorem xXh {s q0 q1:SV} {F:Fls} (h:zXP w s q0 q1 F) (hF:F.1.length<=900000000/\F.2.length<=900000000) {t:Tbl} (ht:(zQR F).1=some t):Calls prog 48 #[slV s] w (MendR w F):=by
 have hv:=yZM ht
 have hl:=h.len
 refine xXo _ w _ ((xYd h hF).mono ?_)
 rintro e w1 ⟨ar,p,f,r,n,a,b,rfl,rfl,rfl,hO⟩
 rcases hO with⟨_,h0⟩|⟨rfl,u,hu,rfl,hO⟩
 ·rw[ht]at h0;cases h0
 rw[ht]at hu;cases hu
 have hrl:(zQR F).2.1.length<=F.2.length:=by
  obtain⟨_,fr,h2,_⟩:=yQQ (zXA F.1) false F.2
  have:=congrArg List.length h2
  rw[List.length_append]at this
  show(zKh (zXA F.1) false F.2).2.1.length<=_
  omega
 refine⟨_,f,r,_,_,_,rfl,alB λw2 aq aN=>zQg aN zK8.symm rfl rfl λw3 bo fS _=>?_⟩
 have bj:Pu w1 w3:=aq.andNew fS λi hi=>by rw[show i=_ from hi];exact Nat.le_refl _
 have aV:=ar.trans bj
 obtain⟨aa,ha,c0,c1⟩:=(h.pu aV).ex
 have vT:=h.b1.len
 refine⟨aa,ha,by omega,by omega,q1,c1,?_⟩
 have hRd:=hO.rd (zXz hv)
 have tail:∀{wz:World} {q:SV} {wh:List (Int × Int × SV)} {l:List Wr},Pu w3 wz->zKd w wz q wh l->l.length<=10->zZK F=l ++ (if (zQR F).2.2 then [⟨0,0,[]⟩,⟨0,0,zQI t⟩,⟨1,0,[]⟩]else [])->mendT (MendR w F) w1.heap.size q (zQR F).2.2 wz:=λ{wz q wh l} hpz hW hll hm=>by
  have hp0z:=aV.trans hpz
  refine Br.of (λc=>⟨_,cl (hpz.blk bo) 0,f,cl (hpz.blk bo) 1,r,cl (hpz.blk bo) 2,?_⟩) (λc=>⟨hp0z,q,wh,rfl,?_⟩)
  ·rw[if_pos c]at hm
   refine(yQX (hRd.pu (bj.trans hpz)) (zXH hv)).mono ?_
   rintro e w7 ⟨q7,rfl,h7,cy⟩
   refine⟨q7,_,rfl,alB λw8 bW kw=>?_⟩
   have wX:=cy.trans bW
   obtain⟨s9,w9,hr9,hW9,pz⟩:=(hW.pu wX).push (hp0z.trans wX).size (news:=[(0,0,⟨none,0,0⟩),(0,0,q7),(1,0,⟨none,0,0⟩)]) (lnew:=[⟨0,0,[]⟩,⟨0,0,zQI t⟩,⟨1,0,[]⟩]) kw rfl (by simp;omega) (λi x y hx hy=>by
    rcases i with _|_|_|i <;> simp at hx hy <;> subst hx <;> subst hy
    ·exact⟨rfl,rfl,.inl ⟨rfl,rfl⟩⟩
    ·exact⟨rfl,rfl,.inr ((h7.pu bW).low hp0z.size)⟩
    ·exact⟨rfl,rfl,.inl ⟨rfl,rfl⟩⟩)
   exact⟨s9,w9,hr9,(hp0z.trans wX).andNew pz hW.rn,s9,_,rfl,by rw[hm];exact hW9⟩
  ·rw[if_neg (by rw[c];simp),List.append_nil]at hm
   rw[hm];exact hW
 refine Br.of (λc=>?_) (λc=>?_)
 ·have c:=zQj c
  have hne:(zQR F).2.1 ≠ []:=λe=>by rw[e]at c;simp at c;omega
  refine alB λw5 aT bq=>?_
  have eE:=aV.trans aT
  obtain⟨s6,w6,hr6,hW6,jf⟩:=(zKd.nil w w5).push eE.size (news:=[(1,(F.2.length:Int) - ((zQR F).2.1.length:Int),⟨none,0,0⟩)]) (lnew:=[⟨1,(F.2.length:Int) - ((zQR F).2.1.length:Int),[]⟩]) bq rfl (by simp) (λi x y hx hy=>by
   rcases i with _|i <;> simp at hx hy
   subst hx;subst hy
   exact⟨rfl,rfl,.inl ⟨rfl,rfl⟩⟩)
  refine⟨s6,w6,hr6,tail (l:=[⟨1,(F.2.length:Int) - ((zQR F).2.1.length:Int),[]⟩]) (aT.andNew jf λk hk=>by simp[zQe]at hk) hW6 (by simp) ?_⟩
  unfold zZK
  rw[if_neg hne,ht];rfl
 ·have c:=zQd c
  have h0:(zQR F).2.1=[]:=List.eq_nil_of_length_eq_zero (by omega)
  refine tail (q:=⟨none,0,0⟩) (l:=[]) (Pu.refl _) (zKd.nil w w3) (by simp) ?_
  unfold zZK
  rw[if_pos h0,ht];rfl
end Go.Proofs.YtaeecpjhfmcliaaGreatDoor
/- The log: stores are made of tables and of files. No condition but those stated. -/
namespace Go.Proofs.YtaeecpjhfmcliaaGreatDoor
open Go.Sh Go.RowKit Tryz
variable {w w' : World} {X : Nat -> Prop}
def NewS(X:Nat->Prop)(w w':World)(p:Option Addr)(d:Dat):Prop:=∃L:SL,p=some ⟨L.S,0,none⟩/\zQF X w' L d 0/\∀b,L.own b->w.heap.size<=b
theorem made_c{t:Tbl}{f r s q0 q1:SV}{F:Fls}(h:zXi w t f r)(hv:zQh t=0)(hX:∀b,X b->b<w.heap.size)(hF:zZG X w s q0 q1 F) :
  Calls prog 50 #[zKQ t f r,slV s] w λe w'=>∃p,e=.returned (.pointer p)/\NewS X w w' p (Dat.new t F)/\Pu w w':=by
 refine xXF _ _ _ _ w _ (alB λw1 ar aA=>zQc λw2 aq _=>?_)
 have aE:=ar.trans aq
 have cL:=aq.blk aA
 refine⟨λu=>Pu w2 u,Pu.refl _,t.page,λu hu=>cl (hu.blk cL) 0,f,λu hu=>cl (hu.blk cL) 1,r,λu hu=>cl (hu.blk cL) 2,t.page,λu hu=>cl (hu.blk cL) 0,f,λu hu=>cl (hu.blk cL) 1,r,λu hu=>cl (hu.blk cL) 2,(zJR (h.pu aE) hv).mono ?_⟩
 rintro e w3 ⟨x,rfl,hx,au⟩
 refine⟨x.page,x.f,x.r,rfl,au,(zJR ((h.pu aE).pu au) hv).mono ?_⟩
 rintro e w4 ⟨y,rfl,hy,aK⟩
 refine⟨y.page,y.f,y.r,rfl,alB λw5 aT bq=>alB λw6 bE gh=>?_⟩
 have eE:=((aE.trans au).trans aK).trans aT
 have eJ:=eE.trans bE
 have z2:=aE.size
 have z3:=au.size
 have z4:=aK.size
 have lt4:w4.heap.size<w5.heap.size:=zQy bq
 have lt5:w5.heap.size<w6.heap.size:=zQy gh
 have b9:=bE.blk bq
 have wY:zWw w2 w6 t x:=(((hx.pu aK).pu aT).pu bE)
 have xJ:zWw w3 w6 t y:=((hy.pu aT).pu bE)
 have xlt:∀b,x.own b->b<w3.heap.size:=hx.tab.lt
 have xlo:∀b,x.own b->w2.heap.size<=b:=λb hb=>hb.elim (hx.rn b) (hx.vn b)
 obtain⟨L,hL⟩:∃L:SL,L=⟨w5.heap.size,x,⟨none,0,0⟩,[],⟨some ⟨w4.heap.size,0,none⟩,1,1⟩,[y],s,q0,q1,s,q0,q1,⟨none,0,0⟩,[],⟨none,0,0⟩⟩:=⟨_,rfl⟩
 have own:∀b,L.own b->b=w5.heap.size∨b=w4.heap.size∨x.own b:=λb hb=>by
  rw[hL]at hb
  rcases hb with hb|hb|hb|hb|hb|⟨z,hz,hb⟩
  ·exact .inl hb
  ·simp[zQe]at hb
  ·simp[zQe]at hb;exact .inr (.inl hb)
  ·simp[zQe]at hb
  ·simp[zQe]at hb
  ·have hz:z=x:=by simpa using hz
   rw[hz]at hb;exact .inr (.inr hb)
 have su:∀b,L.own b->w.heap.size<=b:=λb hb=>by
  rcases own b hb with rfl|rfl|hb
  ·omega
  ·omega
  ·have:=xlo b hb;omega
 refine⟨_,rfl,⟨L,by rw[hL],⟨?_,?_,?_,?_,?_,?_,?_,?_,?_,?_,?_,?_,?_,λb hb=>Nat.lt_of_lt_of_le (hX b hb) eJ.size,?_⟩,su⟩,eJ⟩
 ·rw[hL];exact gh
 ·rw[hL];exact zQl.nil _ _ _
 ·rw[hL]
  refine⟨rfl,.inr ⟨_,_,rfl,b9,Nat.le_refl _,by show 1<=maxLen;unfold maxLen;omega,rfl,rfl⟩⟩
 ·rw[hL];exact zQl.nil _ _ _
 ·rw[hL];exact zQl.nil _ _ _
 ·rw[hL];exact wY.tab
 ·rw[hL];rfl
 ·rw[hL];rfl
 ·rw[hL];rfl
 ·intro i a u ha;rw[hL]at ha;simp at ha
 ·intro b hb;rw[hL]at hb;simp[zQe]at hb
 ·intro a ha;rw[hL]at ha;simp at ha
 ·intro i j a c _ ha;rw[hL]at ha;simp at ha
 ·intro w7 h7
  have hFX:zXP w7 s q0 q1 F:=hF w7 ((Fr.pu eJ:Fr X w w6).trans h7 λb hb hlt=>by
   rcases hb with hb|hb
   ·have:=su b hb;omega
   ·exact hb)
  have hnb:∀b,w3.heap.size<=b->b<w4.heap.size->¬(L.own b∨X b):=λb h1 h2 e=>by
   rcases e with e|e
   ·rcases own b e with rfl|rfl|e
    ·omega
    ·omega
    ·have:=xlt b e;omega
   ·have:=hX b e;omega
  have hyl:∀b,y.own b->b<w4.heap.size:=hy.tab.lt
  have hy7:zXi w7 t y.f y.r:=by
   have hyt:zJF w7 t y:=xJ.tab.fr h7 λb hb=>hnb b (hb.elim (xJ.rn b) (xJ.vn b)) (hyl b hb)
   have hyf:zQl w7 129 4 y.f (t.fields.flatMap zVV):=xJ.f.fr h7 λb hb=>hnb b (xJ.fn b hb) (hy.f.lt b hb)
   exact hyt.rd (zWC hv hyf) hv
  have hxf:zX3 w7 x.f t.fields:=by
   refine zWC hv (wY.f.fr h7 λb hb e=>?_)
   rcases e with e|e
   ·rcases own b e with e|e|e
    ·exact wY.f.other gh (by decide) (by rw[←e];exact hb)
    ·exact wY.f.other b9 (by decide) (by rw[←e];exact hb)
    ·obtain⟨_,hd|⟨g,cur,g3,g4,_⟩⟩:=wY.f
     ·rw[hd]at hb;simp[zQe]at hb
     ·simp[zQe,g3]at hb;subst hb
      exact wY.tab.other g4 (by decide) (by decide) e
   ·have:=wY.fn b hb;have:=hX b e;omega
  rw[hL]
  refine⟨hxf,λi a u ha=>by simp at ha,λi a u ha hu=>?_,hFX,hFX,λi a u ha=>by simp at ha⟩
  rcases i with _|i
  ·simp at ha;subst ha
   have hu:[t][0]?=some u:=hu
   simp at hu;subst hu
   exact⟨xJ.tab.page,hy7⟩
  ·simp at ha
theorem new_c{t:Tbl}{f r:SV}(h:zXi w t f r)(hl:Lim.ok t.fields)(hX:∀b,X b->b<w.heap.size) :
  Calls prog 43 #[zKQ t f r] w λe w'=>Pu w w'/\((zQh t ≠ 0/\e=.returned (.tuple #[.pointer none,.int .i64 (zQh t)]))∨zQh t=0/\∃p,e=.returned (.tuple #[.pointer p,.int .i64 0])/\NewS X w w' p (Dat.new t (zQk t,[]))):=by
 refine xZb _ _ _ w _ (alB λw1 ar aA=>⟨_,cl aA 0,f,cl aA 1,r,cl aA 2,(yQX (h.pu ar) hl).mono ?_⟩)
 rintro e w2 ⟨q,rfl,hq,aq⟩
 have aE:=ar.trans aq
 have cL:=aq.blk aA
 refine⟨q,_,rfl,Br.of (λc=>⟨aE,.inl ⟨zQw c,rfl⟩⟩) (λc=>⟨_,cl cL 0,f,cl cL 1,r,cl cL 2,alB λw3 au bo=>?_⟩)⟩
 have hv:zQh t=0:=zQq c
 have hbo:zQI t=zQk t:=by unfold zQI;rw[if_pos hv]
 rw[hbo]at hq
 have aV:=aE.trans au
 have hle:=zZX (zJf.of hv)
 have hrow:zQl w3 22 1 ⟨some ⟨w2.heap.size,0,none⟩,2,2⟩ [slV q,slV ⟨none,0,0⟩]:=⟨rfl,.inr ⟨_,_,rfl,bo,Nat.le_refl _,by show 2<=maxLen;unfold maxLen;omega,rfl,rfl⟩⟩
 have hq3:=(hq.pu au).low ar.size
 have hz:=aE.size
 have hF:zZG X w3 ⟨some ⟨w2.heap.size,0,none⟩,2,2⟩ q ⟨none,0,0⟩ (zQk t,[]):=λw4 h4=>files_row (hrow.fr h4 λb hb e=>by
   simp[zQe]at hb;have:=hX b e;omega) ((hq3.fr h4 λb hb e=>by have:=hq3.2 b hb;have:=hX b e;omega).by (by omega)) ⟨rfl,Nat.le_refl _,Nat.zero_le _,λj b hj=>by simp at hj⟩
 refine(made_c (h.pu aV) hv (λb hb=>Nat.lt_of_lt_of_le (hX b hb) aV.size) hF).mono ?_
 rintro e w4 ⟨p,rfl,⟨L,rfl,hS,ho⟩,aK⟩
 refine⟨_,rfl,aV.trans aK,.inr ⟨hv,_,rfl,L,rfl,hS,λb hb=>Nat.le_trans aV.size (ho b hb)⟩⟩
end Go.Proofs.YtaeecpjhfmcliaaGreatDoor
/- The log: files are opened; the steps of a recovery. No condition but those stated. -/
namespace Go.Proofs.YtaeecpjhfmcliaaGreatDoor
open Go.Sh Go.RowKit Tryz
variable {w w' : World} {X : Nat -> Prop}
theorem vu28:prog.underlying 28=some (.slice 63):=by kernel_rfl
theorem vi63:(prog.info? 63).map (λi=>(i.zero,i.size,i.bytes))=some (some (.agg #[.slice none 0 0,.slice none 0 0]),2,48):=by kernel_rfl
theorem yKm{F:Fls}{y:Wr}(h:y ∈ zZK F):okW y:=by
 have hrl:(zQR F).2.1.length<=F.2.length:=by
  obtain⟨_,fr,h2,_⟩:=yQQ (zXA F.1) false F.2
  have:=congrArg List.length h2
  rw[List.length_append]at this
  show(zKh (zXA F.1) false F.2).2.1.length<=_
  omega
 unfold zZK at h
 have hb:=zWd ((zQR F).1.getD zYt)
 rcases List.mem_append.1 h with h|h
 ·split at h
  ·cases h
  ·rw[List.mem_singleton.1 h];exact⟨.inr rfl,by show 0<=(F.2.length:Int) - ((zQR F).2.1.length:Int);omega,by simp⟩
 ·split at h
  ·simp at h
   rcases h with rfl|rfl|rfl
   ·exact⟨.inl rfl,Int.le_refl _,by simp⟩
   ·exact⟨.inl rfl,Int.le_refl _,by show(zQI ((zQR F).1.getD zYt)).length<=_;omega⟩
   ·exact⟨.inr rfl,Int.le_refl _,by simp⟩
  ·cases h
theorem yYW(F:Fls):(zZK F).length<=4:=by
 unfold zZK
 rw[List.length_append]
 split <;> split <;> simp
theorem zKd.at_ {w0:World} {q:SV} {wh:List (Int × Int × SV)} {l:List Wr} (h:zKd w0 w q wh l) {k:Nat} {y:Wr} (hy:l[k]?=some y):∃a x,q.a=some a/\k<q.len/\w.cell? ((a.add (k * 3)).add 0)=some (.int .i64 y.file)/\w.cell? ((a.add (k * 3)).add 1)=some (.int .i64 y.at_)/\w.cell? ((a.add (k * 3)).add 2)=some (slV x)/\xZj w0 w x y.b:=by
 obtain⟨x,hx⟩:=zQK (l:=wh) (k:=k) (by rw[h.len];exact(List.getElem?_eq_some_iff.1 hy).1)
 obtain⟨e1,e2,e3⟩:=h.each k x y hx hy
 obtain⟨a,ha,hk,c0⟩:=h.row.elem zJa hx (o:=0) rfl
 obtain⟨a',ha',_,c1⟩:=h.row.elem zJa hx (o:=1) rfl
 obtain⟨a'',ha'',_,c2⟩:=h.row.elem zJa hx (o:=2) rfl
 rw[ha]at ha' ha'';cases ha';cases ha''
 exact⟨a,x.2.2,ha,hk,by rw[c0,e1],by rw[c1,e2],c2,e3⟩
abbrev yYP(x:SV × SV):List Value:=[slV x.1,slV x.2]
theorem yYk(x:SV × SV):(yYP x).length=2:=rfl
structure zWW (w0 w:World) (q:SV) (ps:List (SV × SV)) (l:List Fls):Prop where
 row:zQl w 63 2 q (ps.flatMap yYP)
 rn:∀b ∈ zQe q,w0.heap.size<=b
 len:ps.length=l.length
 each:∀(i:Nat) x F,ps[i]?=some x->l[i]?=some F->zQi w0 w x.1 F.1/\zQi w0 w x.2 F.2
theorem zWW.pu {w0:World} {q:SV} {ps:List (SV × SV)} {l:List Fls} (h:zWW w0 w q ps l) (hp:Pu w w'):zWW w0 w' q ps l:=
 ⟨h.row.pu hp,h.rn,h.len,λi x F hx hF=>⟨(h.each i x F hx hF).1.pu hp,(h.each i x F hx hF).2.pu hp⟩⟩
theorem zWW.push {w0:World} {q:SV} {ps:List (SV × SV)} {l:List Fls} (h:zWW w0 w q ps l) (hz:w0.heap.size<=w.heap.size) {r:Nat} {x:SV × SV} {F:Fls} (hr:w.heap[r]?=some (.cells (yYP x).toArray 63)) (hb:l.length<=100000) (h0:zQi w0 w x.1 F.1) (h1:zQi w0 w x.2 F.2) :
  ∃(s:SV) (w1:World),(Builtin.append_ #[28,28] 28 #[slV q,.slice (some ⟨r,0,none⟩) 1 1]).run prog w=.ok (slV s) w1/\zWW w0 w1 s (ps ++ [x]) (l ++ [F])/\Fr (· ∈ zQe q) w w1/\∀k ∈ zQe s,k ∈ zQe q∨w.heap.size<=k:=by
 have hl:=h.row.len yYk (by decide)
 have hll:=h.len
 obtain⟨s,w1,hra,hrow,dZ,hblk,hsl⟩:=zQz (P:=prog) (ty:=28) vu28 vi63 rfl (by decide) h.row (A:=some ⟨r,0,none⟩) (m:=1) (c:=1) (news:=yYP x) rfl (λj u hu=>⟨_,rfl,by rw[cl hr];simpa using hu⟩) (λu hu=>by simp[yYP]at hu;rcases hu with rfl|rfl <;> rfl) (by show(q.len+1) * (48+1)<=_;omega)
 refine⟨s,w1,hra,⟨by rw[List.flatMap_append,List.flatMap_singleton];exact hrow,λb hb=>?_,by simp[hll],?_⟩,dZ,hblk⟩
 ·rcases hblk b hb with h1|h1
  ·exact h.rn b h1
  ·omega
 ·exact yQT (P:=λx F=>zQi w0 w1 x.1 F.1/\zQi w0 w1 x.2 F.2) h.len (λi y G hy hG=>⟨(h.each i y G hy hG).1.fr dZ λk hk e=>zQr (h.each i y G hy hG).1.1 h.row (by decide) k hk e,(h.each i y G hy hG).2.fr dZ λk hk e=>zQr (h.each i y G hy hG).2.1 h.row (by decide) k hk e⟩) ⟨h0.fr dZ λk hk e=>zQr h0.1 h.row (by decide) k hk e,h1.fr dZ λk hk e=>zQr h1.1 h.row (by decide) k hk e⟩
end Go.Proofs.YtaeecpjhfmcliaaGreatDoor
/- The log: what the reading methods of a store tell. No condition but those stated. -/
namespace Go.Proofs.YtaeecpjhfmcliaaGreatDoor
open Go.Sh Go.RowKit Tryz
variable {w0 w w' : World} {X : Nat -> Prop} {L L' : SL} {d d' : Dat} {mu : Int}
structure Ins(w0 w:World)(L:SL):Prop where
 fr:Fr (·=L.S) w0 w
 st:w.heap[L.S]?=some (.cells (zJX 1 L) 108)
theorem Ins.at_(hi:Ins w0 w L)(h0:zQF X w0 L d mu):zQF X w L d 1:=h0.reS hi.fr hi.st
theorem Ins.pu(hi:Ins w0 w L)(hp:Pu w w'):Ins w0 w' L:=⟨hi.fr.trans (Fr.pu hp:Fr (·=L.S) w w') λ_ h _=>h,hp.blk hi.st⟩
theorem Ins.box (hi:Ins w0 w L) {r:Nat} (hf:Fr (·=r) w w') (hS:L.S<w0.heap.size) (hr:w0.heap.size<=r):Ins w0 w' L:=
 ⟨hi.fr.trans hf λb hb hlt=>by have hb:b=r:=hb;omega,hf.blk hi.st (show ¬L.S=r by omega)⟩
theorem Ins.left(hi:Ins w0 w L):zXY w0 w L L:=⟨hi.fr.mono λb hb _=>.inl hb,λ_ h=>.inl h,rfl⟩
theorem zQF.S_lt(h:zQF X w L d mu):L.S<w.heap.size:=h.own_lt (.inl rfl)
theorem zXd(h:zQF X w0 L d 0)(hp:Pu w0 w):Calls prog 55 #[L.ptr] w λe w'=>e=.returned (.tuple #[xQJ L,.int .i64 0])/\Ins w0 w' L/\Fr (·=L.S) w w'/\w'.heap.size=w.heap.size:=by
 refine(xYi (h.pu hp)).mono ?_
 rintro e w1 ⟨he,h1,hf,hs⟩
 exact⟨he,⟨(Fr.pu hp:Fr (·=L.S) w0 w).trans hf λ_ h _=>h,h1.st⟩,hf,hs⟩
theorem zZz (h0:zQF X w0 L d 0) (hi:Ins w0 w L) {K:World->Prop} (hK:∀w',Pu w0 w'->Fr (·=L.S) w w'->K w'):zQb prog [zZn L] w K:=xZX h0 (hi.at_ h0) hi.fr hK
theorem zWw.out {wa:World} {t:Tbl} {q:HT} (h:zWw wa w t q) (hf:Fr (·=L.S) w w') (hS:L.S<w0.heap.size) (hz:w0.heap.size<=wa.heap.size):zWw w0 w' t q:=
 (h.fr hf λb hb _ e=>by have e:b=L.S:=e;omega).low hz
theorem zQi.out {wa:World} {q:SV} {l:List UInt8} (h:zQi wa w q l) (hf:Fr (·=L.S) w w') (hS:L.S<w0.heap.size) (hz:w0.heap.size<=wa.heap.size):zQi w0 w' q l:=
 (h.fr hf λb hb e=>by have:=h.2 b hb;have e:b=L.S:=e;omega).low hz
theorem zZT {K:FuncId->Array Value->Array Value->Prop} (h:K 96 #[L.ptr] #[]):fnE (xQJ L) K:=h
theorem xVX(h:zQF X w L d 0):Calls prog 20 #[L.ptr] w λe w'=>e=.returned (.int .i64 (d.σ.lev.length:Nat))/\Pu w w':=by
 have hl:=h.lv.len zQt (by decide)
 have hll:=h.ll
 refine xXD _ w _ ((zXd h (Pu.refl w)).mono ?_)
 rintro e w1 ⟨rfl,hi,hf,hs⟩
 refine⟨_,_,rfl,zZT (Br.of (λc=>by cases c) λ_=>⟨L.lv,(hi.at_ h).cellA 5,zZz h hi λw2 aq _=>⟨?_,aq⟩⟩)⟩
 rw[hl,hll]
theorem yXE(h:zQF X w L d 0)(hn:d.σ.done.length<=1000000):Calls prog 22 #[L.ptr] w λe w'=>e=.returned (.int .i64 ((d.σ.done.length:Nat) - 1))/\Pu w w':=by
 have hl:=h.dn.len zQt (by decide)
 have hll:=h.dl
 refine xQT _ w _ ((zXd h (Pu.refl w)).mono ?_)
 rintro e w1 ⟨rfl,hi,hf,hs⟩
 refine⟨_,_,rfl,zZT (Br.of (λc=>by cases c) λ_=>⟨L.dn,(hi.at_ h).cellA 6,zZz h hi λw2 aq _=>⟨?_,aq⟩⟩)⟩
 rw[zQa (by omega) (by omega),hl,hll]
theorem xJw(h:zQF X w L d 0):Calls prog 30 #[L.ptr] w λe w'=>e=.returned (.int .i64 (d.wr.length:Nat))/\Pu w w':=by
 have hl:=h.wr.len zJa (by decide)
 have hll:=h.wl
 refine xQ3 _ w _ ((zXd h (Pu.refl w)).mono ?_)
 rintro e w1 ⟨rfl,hi,hf,hs⟩
 refine⟨_,_,rfl,zZT (Br.of (λc=>by cases c) λ_=>⟨L.wr,(hi.at_ h).cellA 9,zZz h hi λw2 aq _=>⟨?_,aq⟩⟩)⟩
 rw[hl,hll]
theorem xZ4(h:zQF X w L d 0)(hn:d.pts.length<=1000000):Calls prog 29 #[L.ptr] w λe w'=>∃q:SV,e=.returned (slV q)/\zJD w w' q d.pts/\Pu w w':=by
 have hS:=h.S_lt
 refine xX4 _ w _ ((zXd h (Pu.refl w)).mono ?_)
 rintro e w1 ⟨rfl,hi,hf,hs⟩
 refine⟨_,_,rfl,zZT (Br.of (λc=>by cases c) λ_=>⟨L.pt,(hi.at_ h).cellA 10,(xJp (hi.at_ h).pt hn).mono ?_⟩)⟩
 rintro e w2 ⟨q,rfl,h1,h2,aq⟩
 refine⟨q,rfl,zZz h (hi.pu aq) λw3 au fS=>⟨q,rfl,⟨h1.fr fS λb hb e=>?_,λb hb=>by have:=h2 b hb;omega⟩,au⟩⟩
 have:=h2 b hb
 have e:b=L.S:=e
 omega
theorem zV8(h:zQF X w L d 0)(hv:zQh d.σ.t=0):Calls prog 14 #[L.ptr] w λe w'=>∃q:HT,e=.returned (.agg #[.int .i64 q.page,slV q.f,slV q.r])/\zWw w w' d.σ.t q/\Pu w w':=by
 have hS:=h.S_lt
 refine xZe _ w _ (alB λw1 ar aA=>(zXd h ar).mono ?_)
 rintro e w2 ⟨rfl,hi,hf,hs⟩
 have h2:=hi.at_ h
 have hz1:=ar.size
 refine⟨_,_,rfl,zZT (Br.of (λc=>by cases c) λ_=>⟨_,h2.cellB 2 0,L.now.f,h2.cellB 2 1,L.now.r,h2.cellB 2 2,?_⟩)⟩
 rw[h2.now.page]
 refine(zJR (h2.rdNow hv) hv).mono ?_
 rintro e w3 ⟨q,rfl,hq,au⟩
 have kv:=au.blk (hf.blk aA (show ¬w.heap.size=L.S by omega))
 refine⟨q.page,q.f,q.r,rfl,zQg kv zK8.symm rfl rfl λw4 cI fe _=>?_⟩
 refine zZz h ((hi.pu au).box fe hS (Nat.le_refl _)) λw5 aT dq=>?_
 have bq:=dq.blk cI (show ¬w.heap.size=L.S by omega)
 refine⟨_,cl bq 0,q.f,cl bq 1,q.r,cl bq 2,q,rfl,?_,aT⟩
 have nX:w.heap.size<w1.heap.size:=zQy aA
 exact(hq.fr fe λb hb _ e=>by have e:b=w.heap.size:=e;omega).out dq hS (by omega)
theorem zYw(h:zQF X w L d 0)(hv:∀t ∈ d.σ.done,zQh t=0)(n:Int):Calls prog 27 #[L.ptr,.int .i64 n] w λe w'=>∃q:HT,e=.returned (.tuple #[.agg #[.int .i64 q.page,slV q.f,slV q.r],.int .i64 (zVJ d.σ n)])/\zWw w w' (zZ8 d.σ n) q/\Pu w w':=by
 have hS:=h.S_lt
 have hl:=h.dn.len zQt (by decide)
 have hll:=h.dl
 refine xQl _ _ w _ (alB λw1 ar aA=>(zXd h ar).mono ?_)
 rintro e w2 ⟨rfl,hi,hf,hs⟩
 have h2:=hi.at_ h
 have hz1:=ar.size
 have nX:w.heap.size<w1.heap.size:=zQy aA
 have cL:=hf.blk aA (show ¬w.heap.size=L.S by omega)
 refine⟨_,_,rfl,zZT (Br.of (λc=>by cases c) λ_=>?_)⟩
 have bad:¬(0<=n/\n<d.σ.done.length)->stA prog 35 (⟨w.heap.size,0,none⟩:Addr) #[.int .i64 0,.slice none 0 0,.slice none 0 0] w2 λw5=>zQb prog [zZn L] w5 λw6=>
   ∃ag:Int,w6.cell? ((⟨w.heap.size,0,none⟩:Addr).add 0)=some (.int .i64 ag)/\∃ab:SV,w6.cell? ((⟨w.heap.size,0,none⟩:Addr).add 1)=some (.slice ab.a ab.len ab.cap)/\∃ae:SV,w6.cell? ((⟨w.heap.size,0,none⟩:Addr).add 2)=some (.slice ae.a ae.len ae.cap)/\
   ∃q:HT,Ending.returned (.tuple #[.agg #[.int .i64 ag,.slice ab.a ab.len ab.cap,.slice ae.a ae.len ae.cap],.int .i64 1])=.returned (.tuple #[.agg #[.int .i64 q.page,slV q.f,slV q.r],.int .i64 (zVJ d.σ n)])/\zWw w w6 (zZ8 d.σ n) q/\Pu w w6:=λhn=>by
  refine zQg cL zK8.symm rfl rfl λw4 cI fe _=>zZz h (hi.box fe hS (Nat.le_refl _)) λw5 aT dq=>?_
  have bq:=dq.blk cI (show ¬w.heap.size=L.S by omega)
  refine⟨_,cl bq 0,⟨none,0,0⟩,cl bq 1,⟨none,0,0⟩,cl bq 2,⟨0,⟨none,0,0⟩,⟨none,0,0⟩,[]⟩,?_,?_,aT⟩
  ·unfold zVJ;rw[if_neg hn]
  ·have e:zZ8 d.σ n=zYt:=by unfold zZ8;rw[if_neg hn]
   rw[e]
   exact⟨⟨rfl,zQl.nil _ _ _,rfl,λi x r hx=>by simp at hx,by simp[vBl]⟩,zQl.nil _ _ _,by simp[zQe],by simp[zQe],by simp[vBl]⟩
 refine Br.of (λc=>bad (by have:=zQj c;omega)) (λc=>⟨L.dn,h2.cellA 6,Br.of (λc1=>bad (by have:=zQj c1;omega)) (λc1=>?_)⟩)
 have c:=zQd c
 have c1:=zQd c1
 have hn:0<=n/\n<d.σ.done.length:=by omega
 obtain⟨k,rfl⟩:∃k:Nat,n=(k:Int):=⟨n.toNat,by omega⟩
 obtain⟨t,ht⟩:=zQK (l:=d.σ.done) (k:=k) (by omega)
 obtain⟨x,hx⟩:=zQK (l:=L.dh) (k:=k) (by omega)
 obtain⟨ep,hR⟩:=(h2.kp0).dt k x t hx ht
 obtain⟨a,ha,hk,c0⟩:=h2.dn.elem zQt hx (o:=0) rfl
 obtain⟨a',ha',_,nS⟩:=h2.dn.elem zQt hx (o:=1) rfl
 obtain⟨a'',ha'',_,c2⟩:=h2.dn.elem zQt hx (o:=2) rfl
 rw[ha]at ha' ha'';cases ha';cases ha''
 refine⟨L.dn,h2.cellA 6,a,ha,by omega,by omega,x.page,by rw[zXn];exact c0,x.f,by rw[zXn];exact nS,x.r,by rw[zXn];exact c2,?_⟩
 have hvt:=hv t (List.mem_of_getElem? ht)
 have e:zZ8 d.σ (k:Int)=t:=by unfold zZ8;rw[if_pos hn,zXn,List.getD_eq_getElem?_getD,ht];rfl
 have e2:zVJ d.σ (k:Int)=0:=by unfold zVJ;rw[if_pos hn]
 rw[ep]
 refine(zJR hR hvt).mono ?_
 rintro e3 w3 ⟨q,rfl,hq,au⟩
 refine⟨q.page,q.f,q.r,rfl,zQg (au.blk cL) zK8.symm rfl rfl λw4 cI fe _=>?_⟩
 refine zZz h ((hi.pu au).box fe hS (Nat.le_refl _)) λw5 aT dq=>?_
 have bq:=dq.blk cI (show ¬w.heap.size=L.S by omega)
 refine⟨_,cl bq 0,q.f,cl bq 1,q.r,cl bq 2,q,by rw[e2],?_,aT⟩
 rw[e]
 exact(hq.fr fe λb hb _ e=>by have e:b=w.heap.size:=e;omega).out dq hS (by omega)
end Go.Proofs.YtaeecpjhfmcliaaGreatDoor
/- The log: what differs from the last committed table; the files behind some writes. No condition but those stated. -/
namespace Go.Proofs.YtaeecpjhfmcliaaGreatDoor
open Go.Sh Go.RowKit Tryz
variable {w0 w w' : World} {X : Nat -> Prop} {L L' : SL} {d d' : Dat} {mu : Int} {p : Int} {f : List Fld}
theorem zQF.lastD (h:zQF X w L d mu) (hne:d.σ.done ≠ []) (hn:d.σ.done.length<=1000000):∃(x:HT) (a:Addr),L.dn.a=some a/\(IntKind.i64.wrap (((L.dn.len:Nat):Int) - 1))=((d.σ.done.length - 1:Nat):Int)/\d.σ.done.length - 1<L.dn.len/\w.cell? ((a.add ((d.σ.done.length - 1) * 3)).add 0)=some (.int .i64 d.σ.last.page)/\
  w.cell? ((a.add ((d.σ.done.length - 1) * 3)).add 1)=some (slV x.f)/\w.cell? ((a.add ((d.σ.done.length - 1) * 3)).add 2)=some (slV x.r)/\zXi w d.σ.last x.f x.r:=by
 have hl:=h.dn.len zQt (by decide)
 have hdl:=h.dl
 have hpos:=List.length_pos_iff.2 hne
 have hlast:=zZ9 hne
 rw[List.getLast?_eq_getElem?]at hlast
 obtain⟨x,hx⟩:=zQK (l:=L.dh) (k:=d.σ.done.length - 1) (by omega)
 obtain⟨ep,hR⟩:=h.kp0.dt _ x _ hx hlast
 obtain⟨a,ha,hk,c0⟩:=h.dn.elem zQt hx (o:=0) rfl
 obtain⟨a',ha',_,c1⟩:=h.dn.elem zQt hx (o:=1) rfl
 obtain⟨a'',ha'',_,c2⟩:=h.dn.elem zQt hx (o:=2) rfl
 rw[ha]at ha' ha'';cases ha';cases ha''
 exact⟨x,a,ha,by rw[zQa (by omega) (by omega)];omega,hk,by rw[c0,ep],c1,c2,hR⟩
theorem zYi(h:InvW p f d):yX9 d.σ.last d.σ.t=(zZD d.σ,0):=by
 have hL:=h.lastL
 unfold yX9
 rw[if_neg (by rw[hL.ok];simp),if_neg (by rw[h.t.ok];simp),if_neg (by rw[hL.page,hL.fields,h.t.page,h.t.fields];simp)]
 rfl
theorem yXm(h:zQF X w L d 0)(hi:InvW p f d)(hn:d.σ.done.length<=1000000):Calls prog 25 #[L.ptr] w λe w'=>∃q:SV,e=.returned (slV q)/\zJD w w' q (zZD d.σ)/\Pu w w':=by
 have hS:=h.S_lt
 refine xXn _ w _ ((zXd h (Pu.refl w)).mono ?_)
 rintro e w1 ⟨rfl,hI,hf,hs⟩
 refine⟨_,_,rfl,zZT (Br.of (λc=>by cases c) λ_=>zQc λw3 au _=>?_)⟩
 have hI3:=hI.pu au
 have h3:=hI3.at_ h
 obtain⟨x,a,ha,e1,hk,c0,c1,c2,hR⟩:=h3.lastD hi.ne hn
 refine⟨L.dn,h3.cellA 6,L.dn,h3.cellA 6,a,ha,by rw[e1];omega,by rw[e1];omega,d.σ.last.page,by rw[e1,zXn];exact c0,x.f,by rw[e1,zXn];exact c1,x.r,by rw[e1,zXn];exact c2,_,h3.cellB 2 0,L.now.f,h3.cellB 2 1,L.now.r,h3.cellB 2 2,?_⟩
 rw[h3.now.page]
 refine(yJQ hR (h3.rdNow hi.t.ok) (zXH hi.lastL.ok) (zXH hi.t.ok)).mono ?_
 rintro e w8 ⟨q,rfl,hq,bW⟩
 rw[zYi hi]at hq
 refine⟨q,_,rfl,zZz h (hI3.pu bW) λw9 cE pz=>⟨q,rfl,⟨hq.1.fr pz λb hb e=>?_,λb hb=>?_⟩,cE⟩⟩
 ·have:=hq.2 b hb;have e:b=L.S:=e;have:=au.size;omega
 ·have:=hq.2 b hb;have:=au.size;omega
structure Small(d:Dat):Prop where
 f1:d.first.1.length<=400000000
 f2:d.first.2.length<=400000000
 wn:d.wr.length<=500
 wb:∀x ∈ d.wr,okW x
theorem Small.files(h:Small d)(n:Nat):(zXD d.first d.wr n).1.length<=750000000/\(zXD d.first d.wr n).2.length<=750000000:=by
 have h1:=yZ8 (F:=d.first) (W:=d.wr.take n) (c:=400000000) ⟨h.f1,h.f2⟩ λy hy=>(h.wb y (List.mem_of_mem_take hy)).2.2
 have h2:(d.wr.take n).length<=500:=by rw[List.length_take];have:=h.wn;omega
 unfold zXD
 omega
end Go.Proofs.YtaeecpjhfmcliaaGreatDoor
/- The log: writes to the files of a store; a commit. No condition but those stated. -/
namespace Go.Proofs.YtaeecpjhfmcliaaGreatDoor
open Go.Sh Go.RowKit Tryz
variable {w0 w w' : World} {X : Nat -> Prop} {L L' : SL} {d d' : Dat} {mu : Int} {p : Int} {f : List Fld}
theorem xX9{B:Nat->Prop}{Q:World->Prop}(h:∀w2,Fr B w w2->Q w2)(hp:Pu w w'):∀w2,Fr B w' w2->Q w2:=λw2 h2=>h w2 ((Fr.pu hp:Fr B w w').trans h2 λb hb _=>hb)
theorem zQF.xw(h:zQF X w L d mu):∀b,(L.own b∨X b)->b<w.heap.size:=λb hb=>hb.elim (λhb=>h.own_lt hb) (h.xl b)
theorem zQi.keepBy{w0:World}{q:SV}{l:List UInt8}(h:zQi w0 w q l)(hl:l.length<=1000000000){B:Nat->Prop}(hB:∀b,B b->b<w0.heap.size):∀w2,Fr B w w2->ByV w2 q l:=λw2 h2=>
 (h.fr h2 λb hb e=>by have:=h.2 b hb;have:=hB b e;omega).by (by omega)
theorem yX3 (h:zQF X w L d 1) {y:Wr} (hy:okW y) {q:SV} (hq:∀w2,Fr (λb=>L.own b∨X b) w w2->ByV w2 q y.b) (hl:d.last.1.length<=900000000/\d.last.2.length<=900000000) (hn:d.wr.length<=1000000) :
  Calls prog 84 #[L.ptr,.agg #[.int .i64 y.file,.int .i64 y.at_,slV q]] w λe w'=>e=.returned (.tuple #[])/\∃L',zQF X w' L' (d.write y) 1/\zXY w w' L L':=by
 refine xQv _ _ _ _ w _ (alB λw1 ar aA=>zQc λw2 aq _=>?_)
 have aE:=ar.trans aq
 have cL:=aq.blk aA
 have h2:=h.pu aE
 have nX:w.heap.size<w1.heap.size:=zQy aA
 refine⟨λu=>Pu w2 u,Pu.refl _,L.wr,λu hu=>(h2.pu hu).cellA 9,y.file,λu hu=>cl (hu.blk cL) 0,y.at_,λu hu=>cl (hu.blk cL) 1,q,λu hu=>cl (hu.blk cL) 2,alB λw4 aK cI=>⟨aK,?_⟩⟩
 have ct:=aE.trans aK
 have h4:=h.pu ct
 have xG:=xX9 hq ct
 obtain⟨s,w5,hr,hst⟩:=h4.pushWr (y:=y) xG cI hn (K:=λw7=>dwE w7 λw8=>∃dW:SV,w8.cell? ((⟨L.S,0,none⟩:Addr).add 8)=some (.slice dW.a dW.len dW.cap)/\
   ∃dK:Int,w8.cell? ((⟨w.heap.size,0,none⟩:Addr).add 0)=some (.int .i64 dK)/\∃co:Int,w8.cell? ((⟨w.heap.size,0,none⟩:Addr).add 1)=some (.int .i64 co)/\∃cR:SV,w8.cell? ((⟨w.heap.size,0,none⟩:Addr).add 2)=some (.slice cR.a cR.len cR.cap)/\
   Calls prog 49 #[.slice dW.a dW.len dW.cap,.agg #[.int .i64 dK,.int .i64 co,.slice cR.a cR.len cR.cap]] w8 λe aP=>∃dX:SV,e=.returned (.slice dX.a dX.len dX.cap)/\
   st1 ((⟨L.S,0,none⟩:Addr).add 8) (.slice dX.a dX.len dX.cap) aP λaQ=>(Ending.returned (.tuple #[])=.returned (.tuple #[]))/\∃L',zQF X aQ L' (d.write y) 1/\zXY w aQ L L') λw7 L1 h7 pD hlast=>by
  have rW:=pD.fr.blk (aK.blk cL) (λho=>by have:=h.own_lt ho;omega)
  refine zQc λw8 bW _=>?_
  have h8:=h7.pu bW
  have qp:=bW.blk rW
  have hk8:=xX9 (pD.keep (X:=X) xG h4.xl) bW
  refine⟨L1.last,by rw[←pD.ptr];exact h8.cellA 8,y.file,cl qp 0,y.at_,cl qp 1,q,cl qp 2,?_⟩
  refine(with_c (B:=λb=>L1.own b∨X b) (x:=y) h8.xw (λw9 h9=>(h8.kp w9 h9).la) (hk8 _ (Fr.refl _ _)) hy.1 hy.2.1 hl (by have:=hy.2.2;omega)).mono ?_
  rintro e aP ⟨o,r0,r1,rfl,hK,dr⟩
  refine⟨o,rfl,?_⟩
  rw[←pD.ptr]
  refine(h8.pu dr).setLast hK λaQ L2 mT xK=>⟨rfl,L2,mT,?_⟩
  exact((zXY.pu ct L).trans pD).trans ((zXY.pu (bW.trans dr) L1).trans xK)
 exact⟨s,w5,hr,hst⟩
theorem zY9 (h:d.σ.lev ≠ []∨d.σ.t=d.σ.last):d.commit=d:=by
 unfold Dat.commit
 rw[if_neg]
 rintro⟨h1,h2⟩
 rcases h with h|h
 ·exact h h1
 ·exact h2 h
structure Fit(d:Dat):Prop where
 l1:d.last.1.length<=800000000
 l2:d.last.2.length<=800000000
 wn:d.wr.length<=100000
 dn:d.σ.done.length<=100000
theorem yKg(h:zQF X w L d 1)(hi:InvW p f d)(hs:Fit d):Calls prog 79 #[L.ptr] w λe w'=>e=.returned (.tuple #[])/\∃L',zQF X w' L' d.commit 1/\zXY w w' L L':=by
 have hS:=h.S_lt
 have hlv:=h.lv.len zQt (by decide)
 have hll:=h.ll
 have hdn:=hs.dn
 refine xQN _ w _ (zQc λw1 ar _=>?_)
 have h1:=h.pu ar
 obtain⟨x,a,ha,e1,hk,c0,c1,c2,hR⟩:=h1.lastD hi.ne (by omega)
 refine⟨λu=>Pu w1 u,Pu.refl _,L.dn,λu hu=>(h1.pu hu).cellA 6,L.dn,λu hu=>(h1.pu hu).cellA 6,a,ha,by rw[e1];omega,by rw[e1];omega,d.σ.last.page,λu hu=>hu.cell (by rw[e1,zXn];exact c0),x.f,λu hu=>hu.cell (by rw[e1,zXn];exact c1),x.r,λu hu=>hu.cell (by rw[e1,zXn];exact c2),?_⟩
 refine alB λw5 aT bq=>⟨aT,zQg bq zK8.symm rfl rfl λw6 gh jf _=>zQc λw7 cy _=>?_⟩
 have kq:Pu w1 w7:=(aT.andNew jf λi hi=>by rw[show i=_ from hi];exact Nat.le_refl _).trans cy
 have gg:=ar.trans kq
 have h7:=h.pu gg
 have b7:=cy.blk gh
 refine⟨_,cl b7 0,x.f,cl b7 1,x.r,cl b7 2,_,h7.cellB 2 0,L.now.f,h7.cellB 2 1,L.now.r,h7.cellB 2 2,?_⟩
 rw[h7.now.page]
 refine(yJQ (hR.pu kq) (h7.rdNow hi.t.ok) (zXH hi.lastL.ok) (zXH hi.t.ok)).mono ?_
 rintro e w9 ⟨q,rfl,hq,cE⟩
 rw[zYi hi]at hq
 replace hq:zJD w7 w9 q (zZD d.σ):=hq
 have he2:=congrArg Prod.snd (zYi hi)
 have mU:=gg.trans cE
 have h9:=h.pu mU
 have hql:q.len=(zZD d.σ).length:=hq.len
 refine⟨q,_,rfl,L.lv,h9.cellA 5,Br.of (λc=>?_) (λc=>Br.of (λnS=>?_) (λnS=>?_))⟩
 ·have c:=zQj c
  have hlne:d.σ.lev ≠ []:=λe=>by
   have:d.σ.lev.length=0:=by rw[e];rfl
   omega
  rw[zY9 (.inl hlne)]
  exact⟨rfl,L,h9,zXY.pu mU L⟩
 ·have nS:q.len=0:=by simpa using nS
  have hnil:zZD d.σ=[]:=List.eq_nil_of_length_eq_zero (by show(zZD d.σ).length=0;rw[hql]at nS;exact nS)
  have hrec:=xYk (a:=d.σ.last.recs) (b:=d.σ.t.recs) hnil
  have hL:=hi.lastL
  have:d.σ.t=d.σ.last:=by
   have p1:=hi.t.page
   have p2:=hi.t.fields
   have p3:=hL.page
   have p4:=hL.fields
   cases ht:d.σ.t with
   | mk a b c=>cases hlt:d.σ.last with
    | mk a' b' c'=>
     rw[ht]at p1 p2 hrec
     rw[hlt]at p3 p4 hrec
     dsimp only at p1 p2 p3 p4 hrec
     rw[p1,p2,p3,p4,hrec]
  rw[zY9 (.inr this)]
  exact⟨rfl,L,h9,zXY.pu mU L⟩
 ·have c:=zQd c
  have hlev:d.σ.lev=[]:=List.eq_nil_of_length_eq_zero (by omega)
  have nS:¬q.len=0:=by simpa using nS
  have hne:d.σ.t ≠ d.σ.last:=λe=>nS (by
   have:zZD d.σ=[]:=by unfold zZD;rw[e];exact xZx _
   rw[hql];show(zZD d.σ).length=0;rw[this];rfl)
  have hcm:d.commit={ d.write d.rec_ with σ:={ d.σ with done:=d.σ.done ++ [d.σ.t] },pts:=d.pts ++ [(d.wr.length:Int)+1] }:=by unfold Dat.commit;rw[if_pos ⟨hlev,hne⟩]
  refine zQc λaJ bj _=>?_
  have rF:=mU.trans bj
  have mE:=h.pu rF
  obtain⟨al,hal,cl0',sJ⟩:=mE.kp0.la.ex
  have hll2:=mE.kp0.la.len
  have hb1l:=mE.kp0.la.b1.len
  refine⟨λu=>Pu aJ u,Pu.refl _,L.last,λu hu=>(mE.pu hu).cellA 8,al,hal,by omega,by omega,L.l1,λu hu=>hu.cell sJ,_,λu hu=>(mE.pu hu).cellB 2 0,L.now.f,λu hu=>(mE.pu hu).cellB 2 1,L.now.r,λu hu=>(mE.pu hu).cellB 2 2,?_⟩
  rw[mE.now.page]
  have cJ:=(zQM.of hi.t.ok).n300
  have hl300:=(zQM.of hi.lastL.ok).n300
  refine(xZS (mE.rdNow hi.t.ok) hi.t.ok (hq.pu bj) (λk hk=>?_) ?_).mono ?_
  ·obtain⟨i,hi2,rfl⟩:=List.mem_map.1 hk
   have:=List.mem_range.1 (List.mem_filter.1 hi2).1
   omega
  ·show(zZD d.σ).length<=1000
   unfold zZD zKX
   rw[List.length_map]
   refine Nat.le_trans (List.length_filter_le _ _) ?_
   rw[List.length_range];omega
  rintro e bH ⟨q17,rfl,mW,rG⟩
  have hcl:(zXr d.σ.t (zZD d.σ)).length<=650000:=yQ0 (t:=d.σ.last) hi.t.ok hi.ge
  have hcne:zXr d.σ.t (zZD d.σ) ≠ []:=λe=>by
   have:=congrArg List.length e
   rw[yQ5,List.length_append,zQ6]at this
   simp at this
  refine⟨q17,rfl,rG,(yKk 99 (mW.by (by omega)) hcne (by omega)).mono ?_⟩
  rintro e bU ⟨q18,rfl,iC,mQ⟩
  have rH:=rG.trans mQ
  have vU:=rF.trans rH
  have xL:=h.pu vU
  refine⟨q18,rfl,rH,?_⟩
  have hy:okW d.rec_:=⟨.inr rfl,by show 0<=(d.last.2.length:Int);omega,by show(zZV 99 (zXr d.σ.t (zZD d.σ))).length<=_;rw[zJk];omega⟩
  have hx17:∀b,(L.own b∨X b)->b<bH.heap.size:=(h.pu (rF.trans rG)).xw
  have hrl:(zZV 99 (zXr d.σ.t (zZD d.σ))).length<=1000000000:=by rw[zJk];omega
  have hw:=yX3 (y:=d.rec_) (q:=q18) xL hy (iC.keepBy hrl hx17) ⟨by have:=hs.l1;omega,by have:=hs.l2;omega⟩ (by have:=hs.wn;omega)
  rw[show((L.l1.len:Nat):Int)=((d.last.2.length:Nat):Int)by omega]
  refine Calls.mono hw ?_
  rintro e cM ⟨rfl,L1,h19,pD⟩
  refine⟨rfl,zQc λbT iM _=>?_⟩
  have pT:=h19.pu iM
  rw[←pD.ptr]
  refine⟨λu=>Pu bT u,Pu.refl _,L1.dn,λu hu=>(pT.pu hu).cellA 6,_,λu hu=>(pT.pu hu).cellB 2 0,L1.now.f,λu hu=>(pT.pu hu).cellB 2 1,L1.now.r,λu hu=>(pT.pu hu).cellB 2 2,?_⟩
  rw[pT.now.page]
  refine(zJR (pT.rdNow hi.t.ok) hi.t.ok).mono ?_
  rintro e dU ⟨x23,rfl,iw,nV⟩
  refine⟨x23.page,x23.f,x23.r,rfl,nV,alB λdw fT hb24=>⟨nV.trans fT,?_⟩⟩
  have h24:=(pT.pu nV).pu fT
  have hkd:=(iw.pu fT).keep (L:=L1) (X:=X) hi.t.ok (λb hb=>pT.own_lt hb) pT.xl
  obtain⟨s,dH,hr,hst⟩:=h24.pushDone (q:=x23) (t:=d.σ.t) iw.tab.page hkd hb24 (λb hb e=>by have:=(pT.pu nV).own_lt hb;omega) (by show d.σ.done.length<=_;omega)
   (K:=λiq=>dwE iq λeg=>∃S5:World->Prop,S5 eg/\∃mK:SV,(∀w',S5 w'->w'.cell? ((⟨L1.S,0,none⟩:Addr).add 10)=some (.slice mK.a mK.len mK.cap))/\∃kb:SV,(∀w',S5 w'->w'.cell? ((⟨L1.S,0,none⟩:Addr).add 9)=some (.slice kb.a kb.len kb.cap))/\
    alE (.cells #[.int .i64 ((kb.len:Nat):Int)] 3) eg λr78 gu=>S5 gu/\∃iO:SV,∃gd:World,(Builtin.append_ #[52,52] 52 #[.slice mK.a mK.len mK.cap,.slice (some ⟨r78,0,none⟩) 1 1]).run prog gu=.ok (.slice iO.a iO.len iO.cap) gd/\
    st1 ((⟨L1.S,0,none⟩:Addr).add 10) (.slice iO.a iO.len iO.cap) gd λfV=>(Ending.returned (.tuple #[])=.returned (.tuple #[]))/\∃L',zQF X fV L' d.commit 1/\zXY w fV L L') λiq L2 h27 xK _ _=>by
   refine zQc λeg im _=>?_
   have h28:=h27.pu im
   rw[←xK.ptr]
   refine⟨λu=>Pu eg u,Pu.refl _,L2.pt,λu hu=>(h28.pu hu).cellA 10,L2.wr,λu hu=>(h28.pu hu).cellA 9,alB λgu nW hb31=>⟨nW,?_⟩⟩
   have h31:=h28.pu nW
   have hwrl:=h31.wr.len zJa (by decide)
   have hwl2:=h31.wl
   have hpl:d.pts.length+1=d.σ.done.length:=hi.hist.len
   have hwl3:L2.wr.len=d.wr.length+1:=by
    rw[hwrl,hwl2];show(d.wr ++ [d.rec_]).length=_;simp
   obtain⟨s2,gd,jg,hst2⟩:=h31.pushPt hb31 (by show d.pts.length<=_;omega) (K:=λfV=>(Ending.returned (.tuple #[])=.returned (.tuple #[]))/\∃L',zQF X fV L' d.commit 1/\zXY w fV L L') λfV L3 h34 hL3=>⟨rfl,L3,by rw[hcm];rw[hwl3]at h34;exact h34,((zXY.pu vU L).trans pD).trans (((zXY.pu ((iM.trans nV).trans fT) L1).trans xK).trans ((zXY.pu (im.trans nW) L2).trans hL3))⟩
   exact⟨s2,gd,jg,hst2⟩
  exact⟨s,dH,hr,hst⟩
end Go.Proofs.YtaeecpjhfmcliaaGreatDoor
/- The log: a table's own rows are written. No condition but those stated. -/
namespace Go.Proofs.YtaeecpjhfmcliaaGreatDoor
open Go.Sh Go.RowKit Tryz
variable {w w' : World} {t : Tbl} {h : HT}
theorem zJF.rlen(ht:zJF w t h):h.r.len=t.recs.length:=by rw[ht.rw_.len zQL (by decide),ht.len]
theorem zJF.push (ht:zJF w t h) {q:SV} {x:Rec} (hq:zQl w 73 3 q (x.v.flatMap zVt)) (hn:∀b ∈ zQe q,b ∉ vBl h.hs) {r:Nat} (hr:w.heap[r]?=some (.cells #[.bool x.gone,slV q] 67)) (hb:t.recs.length<=100000) :
  ∃(s:SV) (w1:World),(Builtin.append_ #[33,33] 33 #[slV h.r,.slice (some ⟨r,0,none⟩) 1 1]).run prog w=.ok (slV s) w1/\zJF w1 { t with recs:=t.recs ++ [x] } { h with r:=s,hs:=h.hs ++ [(x.gone,q)] }/\Fr (· ∈ zQe h.r) w w1/\∀k ∈ zQe s,k ∈ zQe h.r∨w.heap.size<=k:=by
 have hl:=ht.rlen
 obtain⟨s,w1,hra,hrow,dZ,hblk,hsl⟩:=zQz (P:=prog) (ty:=33) vu33 vi67 rfl (by decide) ht.rw_ (A:=some ⟨r,0,none⟩) (m:=1) (c:=1) (news:=yKp (x.gone,q)) rfl (λj u hu=>⟨_,rfl,by rw[cl hr];simpa[yKp] using hu⟩) (λu hu=>by simp[yKp]at hu;rcases hu with rfl|rfl <;> rfl) (by show(h.r.len+1) * (32+1)<=_;omega)
 refine⟨s,w1,hra,⟨ht.page,?_,by simp[ht.len],?_,?_⟩,dZ,hblk⟩
 ·show zQl w1 67 2 s ((h.hs ++ [(x.gone,q)]).flatMap yKp)
  rw[List.flatMap_append,List.flatMap_singleton];exact hrow
 ·intro i y z hy hz
  have hy:(h.hs ++ [(x.gone,q)])[i]?=some y:=hy
  have hz:(t.recs ++ [x])[i]?=some z:=hz
  rw[List.getElem?_append]at hy hz
  split at hy
  ·rename_i hi
   rw[if_pos (by rw[←ht.len];exact hi)]at hz
   obtain⟨e1,e2⟩:=ht.rec_ i y z hy hz
   exact⟨e1,e2.fr dZ (zQr e2 ht.rw_ (by decide))⟩
  ·rename_i hi
   rw[if_neg (by rw[←ht.len];exact hi)]at hz
   have e1:y=(x.gone,q):=List.mem_singleton.1 (List.mem_of_getElem? hy)
   have e2:z=x:=List.mem_singleton.1 (List.mem_of_getElem? hz)
   rw[e1,e2]
   exact⟨rfl,hq.fr dZ (zQr hq ht.rw_ (by decide))⟩
 ·show(vBl (h.hs ++ [(x.gone,q)])).Nodup
  rw[zXx]
  refine List.nodup_append.2 ⟨ht.nd,by simp[vBl,zYx],λa ha b hb e=>?_⟩
  subst e
  exact hn a (by simpa[vBl] using hb) ha
theorem xY6 {hs:List (Bool × SV)} {k:Nat} {x:Bool × SV} (hk:k<hs.length):∀b ∈ vBl (hs.set k x),b ∈ vBl hs∨b ∈ zQe x.2:=λb hb=>by
 obtain⟨y,hy,hyb⟩:=List.mem_flatMap.1 hb
 rcases List.mem_or_eq_of_mem_set hy with hy|rfl
 ·exact .inl (zVi hy hyb)
 ·exact .inr hyb
theorem yQZ {hs:List (Bool × SV)} {k:Nat} {x:Bool × SV} (hk:k<hs.length) (hn:(vBl hs).Nodup) (hx:∀b ∈ zQe x.2,b ∉ vBl hs):(vBl (hs.set k x)).Nodup:=by
 obtain⟨y,hy⟩:=zQK hk
 have e:hs=hs.take k ++ y :: hs.drop (k+1):=by rw[←zXR hy,List.take_append_drop]
 have e2:vBl hs=vBl (hs.take k) ++ (zQe y.2 ++ vBl (hs.drop (k+1))):=by conv=>lhs;rw[e,zXx,zYa]
 rw[e2]at hn hx
 rw[xQe hk,zXx,zYa]
 obtain⟨n1,n2,n3⟩:=List.nodup_append.1 hn
 obtain⟨m1,m2,m3⟩:=List.nodup_append.1 n2
 refine List.nodup_append.2 ⟨n1,List.nodup_append.2 ⟨zYx _,m2,λa ha b hb e=>?_⟩,λa ha b hb e=>?_⟩
 ·subst e
  exact hx a ha (List.mem_append_right _ (List.mem_append_right _ hb))
 ·subst e
  rcases List.mem_append.1 hb with hb|hb
  ·exact hx a hb (List.mem_append_left _ ha)
  ·exact n3 a ha a (List.mem_append_right _ hb) rfl
theorem zJF.set (ht:zJF w t h) {k:Nat} (hk:k<t.recs.length) {q:SV} {x:Rec} (hq:zQl w 73 3 q (x.v.flatMap zVt)) (hn:∀b ∈ zQe q,b ∉ vBl h.hs) {K:World->Prop}
  (hK:∀w1,zJF w1 { t with recs:=t.recs.set k x } { h with hs:=h.hs.set k (x.gone,q) }->Fr (· ∈ zQe h.r) w w1->K w1):∃a,h.r.a=some a/\stA prog 67 (a.add (k * 2)) #[.bool x.gone,slV q] w K:=by
 have hl:=ht.len
 refine ht.rw_.stElem zQL (by decide) (i:=k) (by omega) (x.gone,q) yWv.symm rfl λw1 h1 dZ rU=>hK w1 ⟨ht.page,h1,by simp[hl],λi y z hy hz=>?_,yQZ (by omega) ht.nd hn⟩ dZ
 have hy:(h.hs.set k (x.gone,q))[i]?=some y:=hy
 have hz:(t.recs.set k x)[i]?=some z:=hz
 rw[List.getElem?_set]at hy hz
 by_cases e:k=i
 ·subst e
  rw[if_pos rfl,if_pos (by omega)]at hy hz
  cases hy;cases hz
  exact⟨rfl,hq.fr dZ (zQr hq ht.rw_ (by decide))⟩
 ·rw[if_neg e]at hy hz
  obtain⟨e1,e2⟩:=ht.rec_ i y z hy hz
  exact⟨e1,e2.fr dZ (zQr e2 ht.rw_ (by decide))⟩
theorem zJF.mark(ht:zJF w t h){k:Nat}(hk:k<t.recs.length)(g:Bool){K:World->Prop}
  (hK:∀w1 hs,zJF w1 { t with recs:=t.recs.modify k λr=>{ r with gone:=g } } { h with hs:=hs }->vBl hs=vBl h.hs->Fr (· ∈ zQe h.r) w w1->K w1):∃a,h.r.a=some a/\Sh.st1 (a.add (k * 2)) (.bool g) w K:=by
 have hl:=ht.len
 obtain⟨y,hy⟩:=zQK (l:=h.hs) (k:=k) (by omega)
 have e2:vBl (h.hs.set k (g,y.2))=vBl h.hs:=by
  have e:h.hs=h.hs.take k ++ y :: h.hs.drop (k+1):=by rw[←zXR hy,List.take_append_drop]
  rw[xQe (by omega)]
  conv=>rhs;rw[e]
  rw[zXx,zXx,zYa,zYa]
 have hnd:(vBl (h.hs.set k (g,y.2))).Nodup:=by rw[e2];exact ht.nd
 obtain⟨a,ha,hst⟩:=zQl.stField (K:=K) ht.rw_ zQL (i:=k) (o:=0) (by omega) (by decide) (g,y.2) (.bool g) (λz hz=>by rw[hy]at hz;cases hz;rfl) λw1 h1 dZ rU=>hK w1 (h.hs.set k (g,y.2)) ⟨ht.page,h1,by simp[hl],λi z u hz hu=>by
   have hz:(h.hs.set k (g,y.2))[i]?=some z:=hz
   have hu:(t.recs.modify k λr=>{ r with gone:=g })[i]?=some u:=hu
   rw[List.getElem?_set]at hz
   rw[List.getElem?_modify]at hu
   by_cases e:k=i
   ·subst e
    rw[if_pos rfl,if_pos (by omega)]at hz
    cases hz
    obtain⟨r,hr⟩:=zQK hk
    simp only[if_pos,hr]at hu
    have hu:u={ r with gone:=g }:=by simpa using hu.symm
    subst hu
    obtain⟨e1,e2⟩:=ht.rec_ k y r hy hr
    exact⟨rfl,e2.fr dZ (zQr e2 ht.rw_ (by decide))⟩
   ·rw[if_neg e]at hz
    simp only[if_neg e]at hu
    obtain⟨e1,e2⟩:=ht.rec_ i z u hz (by simpa using hu)
    exact⟨e1,e2.fr dZ (zQr e2 ht.rw_ (by decide))⟩,hnd⟩ e2 dZ
 rw[yVM]at hst
 exact⟨a,ha,hst⟩
theorem vBl_at {hs:List (Bool × SV)} (hn:(vBl hs).Nodup) {i j:Nat} {x y:Bool × SV} (hx:hs[i]?=some x) (hy:hs[j]?=some y) (hij:i ≠ j):∀b ∈ zQe x.2,b ∉ zQe y.2:=by
 have key:∀{i j:Nat} {x y:Bool × SV},i<j->hs[i]?=some x->hs[j]?=some y->∀b ∈ zQe x.2,b ∉ zQe y.2:=λ{i j x y} h hx hy b hb hc=>by
  have e:vBl hs=vBl (hs.take (i+1)) ++ vBl (hs.drop (i+1)):=by rw[←zXx,List.take_append_drop]
  rw[e]at hn
  refine(List.nodup_append.1 hn).2.2 b ?_ b ?_ rfl
  ·rw[zQC hx,zXx]
   exact List.mem_append_right _ (by simpa[vBl] using hb)
  ·refine zVi (x:=y) (List.mem_of_getElem? (i:=j - (i+1)) ?_) hc
   rw[List.getElem?_drop,show i+1+(j - (i+1))=j by omega];exact hy
 rcases Nat.lt_or_gt_of_ne hij with h|h
 ·exact key h hx hy
 ·exact λb hb hc=>key h hy hx b hc hb
theorem zJF.setV (ht:zJF w t h) {k i:Nat} {r:Rec} (hr:t.recs[k]?=some r) (hi:i<r.v.length) (v:Val) {K:World->Prop} {y:Bool × SV} (hy:h.hs[k]?=some y)
  (hK:∀w1,zJF w1 { t with recs:=t.recs.modify k λr=>{ r with v:=r.v.set i v } } h->Fr (· ∈ zQe y.2) w w1->K w1):∃a,y.2.a=some a/\stA prog 73 (a.add (i * 3)) #[.int .i64 v.kind,.int .i64 v.n,.string v.s] w K:=by
 obtain⟨e1,e2⟩:=ht.rec_ k y r hy hr
 refine e2.stElem zX6 (by decide) (i:=i) hi v xYy.symm rfl λw1 h1 dZ rU=>hK w1 ⟨ht.page,ht.rw_.fr dZ λb hb hc=>zQr e2 ht.rw_ (by decide) b hc hb,by simp[ht.len],λj z u hz hu=>?_,ht.nd⟩ dZ
 have hu:(t.recs.modify k λr=>{ r with v:=r.v.set i v })[j]?=some u:=hu
 rw[List.getElem?_modify]at hu
 by_cases e:k=j
 ·subst e
  simp only[if_pos,hr]at hu
  have hu:u={ r with v:=r.v.set i v }:=by simpa using hu.symm
  subst hu
  rw[hy]at hz;cases hz
  exact⟨e1,h1⟩
 ·simp only[if_neg e]at hu
  obtain⟨d1,d2⟩:=ht.rec_ j z u hz (by simpa using hu)
  exact⟨d1,d2.fr dZ λb hb hc=>vBl_at ht.nd hy hz e b hc hb⟩
end Go.Proofs.YtaeecpjhfmcliaaGreatDoor
