import Derived.Test.YtcihcbfcgjepfaaGreatDoorBfOwF
/- Desks: what the reference tells of values. No condition but those stated. -/
set_option maxRecDepth 100000
set_option linter.unusedVariables false
set_option linter.unusedSimpArgs false
namespace Go.Proofs.YtcihcbfcgjepfaaGreatDoor
open Go.Sh Go.RowKit Tryz
variable {w w' : World} {d d' : zQs} {val : Nat -> List Val}
theorem zQr.fld(h:zQr w d val)(hv:zQW d.flds=0):zXP w d.fs d.flds:=xZl h.bd.fl (zQG hv).2.1 (zQG hv).2.2
theorem zQr.vals (h:zQr w d val) {x:zQx} (hx:x ∈ zQX d) (hl:(hv val x).length<=1000000):RdV w x.s (hv val x):=zZ8.rd (w0:={ w with heap:=#[] }) ⟨h.bd.vr x hx,λ_ _=>Nat.zero_le _⟩ (by omega)
theorem zQr.read (h:zQr w d val) (hI:Inv (zQa d val)) {x:zQx} (hx:x ∈ zQX d):RdV w x.s (hv val x)/\(hv val x).length=d.flds.length:=by
 have h1:(hv val x).length=d.flds.length:=zQ2 (hI.good hx h.bd.low)
 have h2:d.flds.length<=16:=hI.f16
 exact⟨h.vals hx (by omega),h1⟩
theorem zJv{l:List Chg}{k:Int}(h:zXw l k=none):AL.get l k=none:=by rw[zW3,h];rfl
theorem zZL{l:List Chg}{k:Int}{i:Nat}(h:zXw l k=some i):∃c,l[i]?=some (k,c)/\AL.get l k=some c:=by
 have h2:=h
 unfold zXw at h2
 rw[List.findIdx?_eq_some_iff_getElem]at h2
 obtain⟨hi,he,_⟩:=h2
 have e:l[i]?=some (k,l[i].2):=by
  rw[List.getElem?_eq_getElem hi]
  have:l[i].1=k:=by simpa using he
  rw[←this]
 exact⟨l[i].2,e,by rw[zW3,h];simp[e]⟩
theorem zVU{l:List Chg}{k:Int}{i:Nat}(h:zXw l k=some i):i<l.length:=by
 obtain⟨c,hc,_⟩:=zZL h
 exact(List.getElem?_eq_some_iff.1 hc).1
def zKF(σ:Dsk)(u:Nat)(k:Int)(old:Bool):Option Rec:=if old then oldRec σ u k else seenR σ u k
theorem xJl (h:zQr w d val) (hI:Inv (zQa d val)) {u:Nat} (hu:u<4) (k:Int) (old:Bool) (hs:seenR (zQa d val) u k ≠ none) :
  Calls prog 164 #[d.ptr,.int .i64 (u:Int),.int .i64 k,.bool old] w λe w'=>∃(g:Bool) (s:SV) (l:List Val),e=.returned (.agg #[.bool g,.slice s.a s.len s.cap])/\RdV w' s l/\l.length=d.flds.length/\Pu w w'/\zKF (zQa d val) u k old=some ⟨g,l⟩:=by
 have hal:=h.as_len hu
 have hrl:=h.rs_len
 have hcl:=h.cs_len hu
 have fG:=hI.ah hu
 have jM:=hI.rh
 have rg:=hI.chl hu
 have dA:d.flds.length<=16:=hI.f16
 refine yZX _ _ k old w _ (alB λw1 al ay=>?_)
 have h1:=h.pu al
 have z1:w.heap.size<w1.heap.size:=zQy ay
 -- a record is returned
 have fin:∀{w2:World} (g:Bool) (s:SV) (l:List Val),Pu w1 w2->RdV w2 s l->l.length=d.flds.length->zKF (zQa d val) u k old=some ⟨g,l⟩->(∀{w3:World},Fr (·=w.heap.size) w2 w3->RdV w3 s l)->
   stA prog 77 ⟨w.heap.size,0,none⟩ #[.bool g,.slice s.a s.len s.cap] w2 λw3=>∃b0:Bool,w3.cell? ((⟨w.heap.size,0,none⟩:Addr).add 0)=some (.bool b0)/\∃l1:SV,w3.cell? ((⟨w.heap.size,0,none⟩:Addr).add 1)=some (.slice l1.a l1.len l1.cap)/\
    (∃(g:Bool) (s:SV) (l:List Val),Ending.returned (.agg #[.bool b0,.slice l1.a l1.len l1.cap])=.returned (.agg #[.bool g,.slice s.a s.len s.cap])/\RdV w3 s l/\l.length=d.flds.length/\Pu w w3/\zKF (zQa d val) u k old=some ⟨g,l⟩):=λ{w2} g s l hp hV hl he hk=>
  zQj (hp.blk ay) yQk.symm rfl rfl λw3 aH bP _=>⟨g,cl aH 0,s,cl aH 1,g,s,l,rfl,hk bP,hl,(al.trans hp).andNew bP λi hi=>by rw[show i=w.heap.size from hi];exact Nat.le_refl _,he⟩
 have keep:∀{w2 w3:World} {x:zQx},zQr w2 d val->x ∈ zQX d->Fr (·=w.heap.size) w2 w3->RdV w3 x.s (hv val x):=λ{w2 w3 x} h2 hx hf=>by
  have o1:d.o w.heap.size=none:=h.bd.out (Nat.le_refl _)
  have h3:=h2.fr hf λb hb e=>hb (by rw[show b=w.heap.size from e];exact o1)
  exact(h3.read hI hx).1
 by_cases hk:k<0
 ·have fC:=hs
  unfold seenR at fC
  rw[if_pos hk]at fC
  have hlt:(-k - 1).toNat<(d.ah u).length:=by
   have e1:((zQa d val).us u).ap.length=(d.ah u).length:=zXr
   by_cases c:(-k - 1).toNat<((zQa d val).us u).ap.length
   ·omega
   ·rw[List.getElem?_eq_none (by omega)]at fC;exact absurd rfl fC
  obtain⟨x,hx⟩:=zXe hlt
  have hxm:=zXj hu (List.mem_of_getElem? hx)
  have es:seenR (zQa d val) u k=some (toR val x):=by
   unfold seenR
   rw[if_pos hk]
   show((d.ah u).map (toR val))[(-k - 1).toNat]?=_
   rw[List.getElem?_map,hx];rfl
  have apc:old=false->∃fA:SV,w1.cell? ((((⟨d.S,0,none⟩:Addr).add 3).add ((u:Int).toNat * 4)).add 3)=some (.slice fA.a fA.len fA.cap)/\∃j5:Addr,fA.a=some j5/\0<=(IntKind.i64.wrap ((IntKind.i64.wrap (0 - k)) - 1))/\(IntKind.i64.wrap ((IntKind.i64.wrap (0 - k)) - 1))<((fA.len:Nat):Int)/\
    ∃gb:Bool,w1.cell? ((j5.add ((IntKind.i64.wrap ((IntKind.i64.wrap (0 - k)) - 1)).toNat * 2)).add 0)=some (.bool gb)/\∃bl:SV,w1.cell? ((j5.add ((IntKind.i64.wrap ((IntKind.i64.wrap (0 - k)) - 1)).toNat * 2)).add 1)=some (.slice bl.a bl.len bl.cap)/\
    stA prog 77 ⟨w.heap.size,0,none⟩ #[.bool gb,.slice bl.a bl.len bl.cap] w1 λw3=>∃b0:Bool,w3.cell? ((⟨w.heap.size,0,none⟩:Addr).add 0)=some (.bool b0)/\∃l1:SV,w3.cell? ((⟨w.heap.size,0,none⟩:Addr).add 1)=some (.slice l1.a l1.len l1.cap)/\
    (∃(g:Bool) (s:SV) (l:List Val),Ending.returned (.agg #[.bool b0,.slice l1.a l1.len l1.cap])=.returned (.agg #[.bool g,.slice s.a s.len s.cap])/\RdV w3 s l/\l.length=d.flds.length/\Pu w w3/\zKF (zQa d val) u k old=some ⟨g,l⟩):=λho=>by
   obtain⟨a,ea,_,g0⟩:=(h1.bd.aw u hu).elem zQk hx (o:=0) (v:=.bool x.g) rfl
   obtain⟨a',ea',_,g1⟩:=(h1.bd.aw u hu).elem zQk hx (o:=1) (v:=.slice x.s.a x.s.len x.s.cap) rfl
   rw[ea]at ea';cases ea'
   have ew:IntKind.i64.wrap ((IntKind.i64.wrap (0 - k)) - 1)=-k - 1:=by rw[zQd (n:=0 - k) (by omega) (by omega),zQd (by omega) (by omega)];omega
   refine⟨d.asv u,h1.uAp hu,a,ea,?_⟩
   rw[ew]
   refine⟨by omega,by omega,x.g,g0,x.s,g1,?_⟩
   have hr:=h1.read hI hxm
   exact fin x.g x.s (hv val x) (Pu.refl _) hr.1 hr.2 (by rw[zKF,ho];exact es) λhf=>keep h1 hxm hf
  refine Br.of (λ_=>Br.of (λco=>?_) (λco=>Br.of (λ_=>⟨(u4 hu).1,(u4 hu).2,apc co⟩) (λc=>absurd hk (zQh c)))) (λc=>absurd hk (zQh c))
  refine⟨d.fs,h1.flds,(zY4 (h1.fld hI.vf) dA).mono ?_⟩
  rintro e w2 ⟨q,rfl,hq,aj⟩
  refine⟨false,q,rfl,?_⟩
  have hlq:(d.flds.map zQ9).length=d.flds.length:=by simp
  refine fin false q (d.flds.map zQ9) aj (hq.rd (by simp;omega)) hlq ?_ λ{w3} hf=>?_
  ·rw[zKF,co,if_pos rfl,oldRec,es]
   simp only[Option.map_some,if_pos hk];rfl
  ·exact(hq.fr hf λb hb e=>by have:=hq.2 b hb;have e:b=w.heap.size:=e;omega).rd (by simp;omega)
 ·have fC:=hs
  unfold seenR at fC
  rw[if_neg hk]at fC
  have hkr:1<=k/\k<=d.rh.length:=by
   have e2:(zQa d val).recs.length=d.rh.length:=by simp[zQa]
   by_cases c:k<1∨k > (zQa d val).recs.length
   ·rw[if_pos c]at fC;exact absurd rfl fC
   ·omega
  refine Br.of (λc=>absurd (zQm c) hk) (λ_=>Br.of (λc=>absurd (zQm c) hk) (λ_=>?_))
  have hlt:(k - 1).toNat<d.rh.length:=by omega
  obtain⟨x,hx⟩:=zXe hlt
  have hxm:=zQJ (List.mem_of_getElem? hx)
  have eR:seenR (zQa d val) u k=match AL.get (d.ch u) k with|some c=>some (toR val c.2)|none=>some (toR val x):=by
   rw[←zKr]
   unfold zXy
   rw[if_neg hk,if_neg (by omega),hx]
   cases AL.get (d.ch u) k <;> rfl
  have eO:oldRec (zQa d val) u k=match AL.get (d.ch u) k with|some c=>some (toR val c.1)|none=>some (toR val x):=by
   unfold oldRec
   rw[eR]
   have:AL.get ((zQa d val).us u).ch k=(AL.get (d.ch u) k).map λc=>(toR val c.1,toR val c.2):=zXM val (d.ch u) k
   rw[this]
   cases AL.get (d.ch u) k with
   | none=>simp[hk]
   | some c=>simp[hk]
  refine Calls.mono (zK6 h1 hu k (by omega)) ?_
  rintro e w2 ⟨rfl,rfl⟩
  refine⟨_,rfl,?_⟩
  cases hfi:zXw (d.ch u) k with
  | none=>
   have hg:=zJv hfi
   refine Br.of (λc=>by have:=zQm c;dsimp only at this;omega) (λ_=>?_)
   refine Br.of (λc=>by cases c) (λ_=>Br.of (λc=>by have:=zQm c;dsimp only at this;omega) (λ_=>?_))
   obtain⟨a,ea,_,g0⟩:=h1.bd.rw_.elem zQk hx (o:=0) (v:=.bool x.g) rfl
   obtain⟨a',ea',_,g1⟩:=h1.bd.rw_.elem zQk hx (o:=1) (v:=.slice x.s.a x.s.len x.s.cap) rfl
   rw[ea]at ea';cases ea'
   refine⟨d.rs,h1.recs,a,ea,?_⟩
   rw[zQd (by omega) (by omega)]
   refine⟨by omega,by omega,x.g,g0,x.s,g1,?_⟩
   have hr:=h1.read hI hxm
   exact fin x.g x.s (hv val x) (Pu.refl _) hr.1 hr.2 (by rw[zKF,eO,eR,hg];cases old <;> rfl) λhf=>keep h1 hxm hf
  | some i=>
   obtain⟨c,hci,hg⟩:=zZL hfi
   have hil:=zVU hfi
   have mc:=zXA hu (List.mem_of_getElem? hci)
   have e0:(zQa d val).flds=d.flds:=rfl
   have ent:∀o v,(chC (k,c))[o]?=some v->∃a,(d.cs u).a=some a/\w2.cell? ((a.add (i * 5)).add o)=some v:=λo v hv=>by
    obtain⟨a,ea,_,g0⟩:=(h1.cs_row hu).elem zXC hci (o:=o) (v:=v) hv
    exact⟨a,ea,g0⟩
   obtain⟨a,ea,g1⟩:=ent 1 _ rfl
   obtain⟨a2,qZ,g2⟩:=ent 2 _ rfl
   obtain⟨a3,ea3,g3⟩:=ent 3 _ rfl
   obtain⟨a4,ea4,g4⟩:=ent 4 _ rfl
   rw[ea]at qZ ea3 ea4;cases qZ;cases ea3;cases ea4
   have ad:∀m n:Nat,(a.add (i * 5)).add (m+n)=((a.add (i * 5)).add m).add n:=λm n=>by simp only[Addr.add_add,Nat.add_assoc]
   refine Br.of (λ_=>?_) (λc=>by have:=zQh c;dsimp only at this;omega)
   refine Br.of (λco=>?_) (λco=>Br.of (λ_=>?_) (λc=>by have:=zQh c;dsimp only at this;omega))
   ·refine⟨(u4 hu).1,(u4 hu).2,d.cs u,h1.uCs hu,a,ea,by dsimp only;omega,by dsimp only;omega,c.1.g,by rw[zQI,←ad];exact g1,c.1.s,by rw[zQI,←ad];exact g2,?_⟩
    have hr:=h1.read hI mc.1
    exact fin c.1.g c.1.s (hv val c.1) (Pu.refl _) hr.1 hr.2 (by rw[zKF,co,if_pos rfl,eO,hg];rfl) λhf=>keep h1 mc.1 hf
   ·refine⟨(u4 hu).1,(u4 hu).2,d.cs u,h1.uCs hu,a,ea,by dsimp only;omega,by dsimp only;omega,c.2.g,by rw[zQI,←ad];exact g3,c.2.s,by rw[zQI,←ad];exact g4,?_⟩
    have hr:=h1.read hI mc.2
    exact fin c.2.g c.2.s (hv val c.2) (Pu.refl _) hr.1 hr.2 (by rw[zKF,co,if_neg (by simp),eR,hg];rfl) λhf=>keep h1 mc.2 hf
theorem yXW (h:zQr w d val) (hI:Inv (zQa d val)) (u k:Int) (field:ByteArray) (old:Bool) :
  Calls prog 126 #[d.ptr,.int .i64 u,.int .i64 k,.string field,.bool old] w λe w'=>e=.returned (.tuple #[zZh (if old then oldR u k field (zQa d val)else getR u k field (zQa d val)).1,.int .i64 (if old then oldR u k field (zQa d val)else getR u k field (zQa d val)).2])/\Pu w w':=by
 refine yJA _ u k field old w _ (alB λw1 al ay=>Calls.mono (zYb u w1) ?_)
 rintro e w2 ⟨rfl,rfl⟩
 have z1:w.heap.size<w2.heap.size:=zQy ay
 have fin:∀{w3:World} (v:Val) (n:Int),Pu w2 w3->(if old then oldR u k field (zQa d val)else getR u k field (zQa d val))=(v,n)->stA prog 28 ⟨w.heap.size,0,none⟩ #[.int .i64 v.kind,.int .i64 v.n,.string v.s] w3 λw4=>
   ∃n0:Int,w4.cell? ((⟨w.heap.size,0,none⟩:Addr).add 0)=some (.int .i64 n0)/\∃n1:Int,w4.cell? ((⟨w.heap.size,0,none⟩:Addr).add 1)=some (.int .i64 n1)/\∃s2:ByteArray,w4.cell? ((⟨w.heap.size,0,none⟩:Addr).add 2)=some (.string s2)/\
   (Ending.returned (.tuple #[.agg #[.int .i64 n0,.int .i64 n1,.string s2],.int .i64 n])=.returned (.tuple #[zZh (if old then oldR u k field (zQa d val)else getR u k field (zQa d val)).1,.int .i64 (if old then oldR u k field (zQa d val)else getR u k field (zQa d val)).2])/\Pu w w4):=λ{w3} v n hp he=>
  zQj (hp.blk ay) zWp.symm rfl rfl λw4 aZ bp _=>⟨_,cl aZ 0,_,cl aZ 1,_,cl aZ 2,by rw[he],(al.trans hp).andNew bp λi hi=>by rw[show i=w.heap.size from hi];exact Nat.le_refl _⟩
 refine⟨_,rfl,Br.of (λc=>?_) (λc=>?_)⟩
 ·have c:¬isU u=true:=by simpa using c
  refine fin noV 1 (Pu.refl _) ?_
  cases old
  ·simp only[getR];rw[if_pos c];rfl
  ·simp only[oldR];rw[if_pos c];rfl
 have hu:isU u=true:=by simpa using c
 obtain⟨n,rfl,hn⟩:=zQY hu
 have h2:=h.pu al
 have eE:(if old then oldR (n:Int) k field (zQa d val)else getR (n:Int) k field (zQa d val))=valueR (zQa d val) (zKF (zQa d val) n k old) field:=by
  cases old
  ·show getR _ _ _ _=_
   rw[getR,if_neg (by simp[hu])];rfl
  ·show oldR _ _ _ _=_
   rw[oldR,if_neg (by simp[hu])];rfl
 refine Calls.mono (yXD h2 hn k (by have:=hI.ah hn;omega)) ?_
 rintro e w3 ⟨rfl,rfl⟩
 refine⟨_,rfl,Br.of (λc1=>?_) (λc1=>?_)⟩
 ·have c1:seenR (zQa d val) n k=none:=by simpa using c1
  refine fin noV 4 (Pu.refl _) ?_
  rw[eE]
  have:zKF (zQa d val) n k old=none:=by cases old <;> simp[zKF,oldRec,c1]
  rw[this];rfl
 have c1:seenR (zQa d val) n k ≠ none:=by simpa using c1
 refine⟨d.fs,h2.flds,(zYh (h2.fld hI.vf) field).mono ?_⟩
 rintro e w4 ⟨rfl,ar⟩
 have e0:(zQa d val).flds=d.flds:=rfl
 refine⟨_,_,rfl,Br.of (λc2=>?_) (λc2=>?_)⟩
 ·have c2:zWl d.flds field=none:=by simpa using c2
  refine fin noV 4 ar ?_
  rw[eE]
  unfold valueR
  rw[e0,c2]
  cases zKF (zQa d val) n k old <;> rfl
 have c2:(zWl d.flds field).isSome=true:=by simpa using c2
 obtain⟨i,hi⟩:=Option.isSome_iff_exists.1 c2
 have eK:yXb d.flds field=(i:Int):=by rw[yXb,hi];rfl
 rw[eK]
 refine(xJl (h2.pu ar) hI hn k old c1).mono ?_
 rintro e w5 ⟨g,s,l,rfl,hV,hl,aB,hso⟩
 have hil:i<l.length:=by rw[hl];exact zWQ hi
 obtain⟨v,hv⟩:=zXe hil
 obtain⟨a,ha,c0,c1',c2'⟩:=hV.get i v hv
 have hsl:=hV.len
 refine⟨g,s,rfl,a,ha,by omega,by omega,_,c0,_,c1',_,c2',fin v 0 (ar.trans aB) ?_⟩
 rw[eE,hso]
 simp only[valueR,e0,hi]
 rw[List.getD_eq_getElem?_getD,hv];rfl
theorem rGet_c (h:zQr w d val) (hI:Inv (zQa d val)) (u k:Int) (field:ByteArray) :
  Calls prog 67 #[d.ptr,.int .i64 u,.int .i64 k,.string field] w λe w'=>e=.returned (.tuple #[zZh (getR u k field (zQa d val)).1,.int .i64 (getR u k field (zQa d val)).2])/\Pu w w':=by
 refine yVN _ u k field w _ (alB λw1 al ay=>(yXW (h.pu al) hI u k field false).mono ?_)
 rintro e w2 ⟨rfl,aj⟩
 exact⟨_,_,_,_,rfl,zQj (aj.blk ay) zWp.symm rfl rfl λw3 aH bP _=>⟨_,cl aH 0,_,cl aH 1,_,cl aH 2,rfl,(al.trans aj).andNew bP λi hi=>by rw[show i=w.heap.size from hi];exact Nat.le_refl _⟩⟩
theorem rOld_c (h:zQr w d val) (hI:Inv (zQa d val)) (u k:Int) (field:ByteArray) :
  Calls prog 69 #[d.ptr,.int .i64 u,.int .i64 k,.string field] w λe w'=>e=.returned (.tuple #[zZh (oldR u k field (zQa d val)).1,.int .i64 (oldR u k field (zQa d val)).2])/\Pu w w':=by
 refine yKL _ u k field w _ (alB λw1 al ay=>(yXW (h.pu al) hI u k field true).mono ?_)
 rintro e w2 ⟨rfl,aj⟩
 exact⟨_,_,_,_,rfl,zQj (aj.blk ay) zWp.symm rfl rfl λw3 aH bP _=>⟨_,cl aH 0,_,cl aH 1,_,cl aH 2,rfl,(al.trans aj).andNew bP λi hi=>by rw[show i=w.heap.size from hi];exact Nat.le_refl _⟩⟩
theorem rNow_c (h:zQr w d val) (hI:Inv (zQa d val)) (k:Int) (field:ByteArray) :
  Calls prog 70 #[d.ptr,.int .i64 k,.string field] w λe w'=>e=.returned (.tuple #[zZh (nowR k field (zQa d val)).1,.int .i64 (nowR k field (zQa d val)).2])/\Pu w w':=by
 refine yKG _ k field w _ (alB λw1 al ay=>?_)
 have h1:=h.pu al
 refine⟨d.fs,h1.flds,(zYh (h1.fld hI.vf) field).mono ?_⟩
 rintro e w3 ⟨rfl,am⟩
 have h3:=h1.pu am
 have hrl:=h.rs_len
 have uK:=hI.rh
 have e0:(zQa d val).flds=d.flds:=rfl
 have el:(zQa d val).recs.length=d.rh.length:=by simp[zQa]
 have fin:∀(v:Val) (n:Int),nowR k field (zQa d val)=(v,n)->stA prog 28 ⟨w.heap.size,0,none⟩ #[.int .i64 v.kind,.int .i64 v.n,.string v.s] w3 λw4=>
   ∃n0:Int,w4.cell? ((⟨w.heap.size,0,none⟩:Addr).add 0)=some (.int .i64 n0)/\∃n1:Int,w4.cell? ((⟨w.heap.size,0,none⟩:Addr).add 1)=some (.int .i64 n1)/\∃s2:ByteArray,w4.cell? ((⟨w.heap.size,0,none⟩:Addr).add 2)=some (.string s2)/\
   (Ending.returned (.tuple #[.agg #[.int .i64 n0,.int .i64 n1,.string s2],.int .i64 n])=.returned (.tuple #[zZh (nowR k field (zQa d val)).1,.int .i64 (nowR k field (zQa d val)).2])/\Pu w w4):=λv n he=>
  zQj (am.blk ay) zWp.symm rfl rfl λw4 aZ bp _=>⟨_,cl aZ 0,_,cl aZ 1,_,cl aZ 2,by rw[he],(al.trans am).andNew bp λi hi=>by rw[show i=w.heap.size from hi];exact Nat.le_refl _⟩
 refine⟨_,_,rfl,Br.of (λc1=>?_) (λc1=>⟨d.rs,h3.recs,Br.of (λc2=>?_) (λc2=>Br.of (λc3=>?_) (λc3=>?_))⟩)⟩
 ·have c1:=zQm c1
  exact fin noV 4 (by rw[nowR,if_pos (.inl c1)])
 ·have c2:=zQm c2
  exact fin noV 4 (by rw[nowR,if_pos (.inr (by omega))])
 ·have c1:=zQh c1;have c2:=zQh c2
  have c3:zWl d.flds field=none:=by simpa using c3
  exact fin noV 4 (by rw[nowR,if_neg (by omega)];unfold valueR;rw[e0,c3])
 have c1:=zQh c1;have c2:=zQh c2
 have c3:(zWl d.flds field).isSome=true:=by simpa using c3
 obtain⟨i,hi⟩:=Option.isSome_iff_exists.1 c3
 have eK:yXb d.flds field=(i:Int):=by rw[yXb,hi];rfl
 have hlt:(k - 1).toNat<d.rh.length:=by omega
 obtain⟨x,hx⟩:=zXe hlt
 obtain⟨a,ea,_,g1⟩:=h3.bd.rw_.elem zQk hx (o:=1) (v:=.slice x.s.a x.s.len x.s.cap) rfl
 have hr:=h3.read hI (zQJ (List.mem_of_getElem? hx))
 have hil:i<(hv val x).length:=by rw[hr.2];exact zWQ hi
 obtain⟨v,hv'⟩:=zXe hil
 obtain⟨b,hb,v0,v1,v2⟩:=hr.1.get i v hv'
 have hsl:=hr.1.len
 refine⟨d.rs,h3.recs,a,ea,?_⟩
 rw[zQd (by omega) (by omega),eK]
 refine⟨by omega,by omega,x.s,g1,b,hb,by omega,by omega,_,v0,_,v1,_,v2,fin v 0 ?_⟩
 rw[nowR,if_neg (by omega),recK]
 have:(zQa d val).recs.getD (k - 1).toNat default=toR val x:=by
  show(d.rh.map (toR val)).getD _ _=_
  rw[List.getD_eq_getElem?_getD,List.getElem?_map,hx];rfl
 rw[this]
 simp only[valueR,e0,hi]
 show((hv val x).getD i noV,(0:Int))=_
 rw[List.getD_eq_getElem?_getD,hv'];rfl
theorem zZ0 {b:Nat} {l:List (Int × Int)} (h:zQ3 w zQM zQM b l) (k:Int):(Instr.lookup 80 (.map (some b)) (.int .i64 k) false).run prog w=.ok (.int .i64 ((AL.get l k).getD 0)) w:=by
 have:=h.look (P:=prog) (t:=80) (kt:=3) (e:=3) zWJ yYh (z:=.int .i64 0) (Tryz.zeroValue3 w) k false
 rw[show(.int .i64 k:Value)=zQM k from rfl,this]
 cases AL.get l k <;> rfl
theorem yVz (h:zQr w d val) (hI:Inv (zQa d val)) (k:Int) :
  Calls prog 75 #[d.ptr,.int .i64 k] w λe w'=>e=.returned (.tuple #[.int .i64 (lockedR k (zQa d val)).1,.bool (lockedR k (zQa d val)).2.1,.int .i64 (lockedR k (zQa d val)).2.2])/\Pu w w':=by
 have el:(zQa d val).recs.length=d.rh.length:=by simp[zQa]
 have hrl:=h.rs_len
 refine yK5 _ k w _ (Br.of (λc1=>?_) (λc1=>⟨d.rs,h.recs,Br.of (λc2=>?_) (λc2=>?_)⟩))
 ·exact⟨by rw[lockedR,if_pos (.inl (zQm c1))],Pu.refl _⟩
 ·have:=zQm c2
  exact⟨by rw[lockedR,if_pos (.inr (by omega))],Pu.refl _⟩
 have c1:=zQh c1;have c2:=zQh c2
 obtain⟨l,hl,hk⟩:=h.lm
 have e2:lockedR k (zQa d val)=((d.lk k).getD 0,(d.lk k).isSome,0):=by rw[lockedR,if_neg (by omega)];rfl
 refine⟨some d.L,h.locks,_,w,zZ0 hl k,?_⟩
 rw[e2,hk]
 cases hv:d.lk k with
 | none=>exact⟨rfl,Pu.refl _⟩
 | some v=>
  have hv2:=hI.lr k v hv
  refine Br.of (λc=>⟨?_,Pu.refl _⟩) (λc=>?_)
  ·show Ending.returned (.tuple #[.int .i64 (IntKind.i64.wrap (v+1 - 1)),.bool true,.int .i64 0])=_
   rw[zQd (by omega) (by omega),show v+1 - 1=v by omega];rfl
  ·have c:v+1=0:=zQu c
   omega
end Go.Proofs.YtcihcbfcgjepfaaGreatDoor
/- Desks: the reference's questions on clashes and changes. No condition but those stated. -/
namespace Go.Proofs.YtcihcbfcgjepfaaGreatDoor
open Go.Sh Go.RowKit Tryz
variable {w w' : World} {d d' : zQs} {val : Nat -> List Val}
def ClK (R:Rt) (J1:(Int)->World->Prop) (p3:Option Addr) (p5:Option Addr) (n6:Int) (r7 r8 r9:Nat) (ds:Ds) (w:World):Prop:=
 ∃cd:Int,w.cell? ((⟨r7,0,none⟩:Addr).add 0)=some (.int .i64 cd)/\
 ∃cf:Int,w.cell? ((⟨r7,0,none⟩:Addr).add 1)=some (.int .i64 cf)/\
 ∃ci:ByteArray,w.cell? ((⟨r7,0,none⟩:Addr).add 2)=some (.string ci)/\
 ∃cj:Int,w.cell? ((⟨r8,0,none⟩:Addr).add 0)=some (.int .i64 cj)/\
 ∃ck:Int,w.cell? ((⟨r8,0,none⟩:Addr).add 1)=some (.int .i64 ck)/\
 ∃cm:ByteArray,w.cell? ((⟨r8,0,none⟩:Addr).add 2)=some (.string cm)/\
 Calls prog 19 #[.agg #[.int .i64 cd,.int .i64 cf,.string ci],.agg #[.int .i64 cj,.int .i64 ck,.string cm]] w λe aD=>
 ∃mi:Bool,e=.returned (.bool mi)/\
 Br (!mi) (
 ∃aW:Int,aD.cell? ((⟨r9,0,none⟩:Addr).add 0)=some (.int .i64 aW)/\
 ∃aX:Int,aD.cell? ((⟨r9,0,none⟩:Addr).add 1)=some (.int .i64 aX)/\
 ∃aY:ByteArray,aD.cell? ((⟨r9,0,none⟩:Addr).add 2)=some (.string aY)/\
 ∃cp:Int,aD.cell? ((⟨r7,0,none⟩:Addr).add 0)=some (.int .i64 cp)/\
 ∃cq:Int,aD.cell? ((⟨r7,0,none⟩:Addr).add 1)=some (.int .i64 cq)/\
 ∃ct:ByteArray,aD.cell? ((⟨r7,0,none⟩:Addr).add 2)=some (.string ct)/\
 Calls prog 19 #[.agg #[.int .i64 aW,.int .i64 aX,.string aY],.agg #[.int .i64 cp,.int .i64 cq,.string ct]] aD λe aU=>
 ∃ki:Bool,e=.returned (.bool ki)/\
 Br (!ki) (
 ∃cu:Int,aU.cell? ((⟨r9,0,none⟩:Addr).add 0)=some (.int .i64 cu)/\
 ∃cv:Int,aU.cell? ((⟨r9,0,none⟩:Addr).add 1)=some (.int .i64 cv)/\
 ∃cw:ByteArray,aU.cell? ((⟨r9,0,none⟩:Addr).add 2)=some (.string cw)/\
 ∃cy:Int,aU.cell? ((⟨r8,0,none⟩:Addr).add 0)=some (.int .i64 cy)/\
 ∃cz:Int,aU.cell? ((⟨r8,0,none⟩:Addr).add 1)=some (.int .i64 cz)/\
 ∃cB:ByteArray,aU.cell? ((⟨r8,0,none⟩:Addr).add 2)=some (.string cB)/\
 Calls prog 19 #[.agg #[.int .i64 cu,.int .i64 cv,.string cw],.agg #[.int .i64 cy,.int .i64 cz,.string cB]] aU λe br=>
 ∃mj:Bool,e=.returned (.bool mj)/\
 Br (!mj) (
 zQe prog ds br λbD=>
 R (.returned (.bool true)) bD) (
 zX9 R J1 p3 p5 n6 ds br)) (
 zX9 R J1 p3 p5 n6 ds aU)) (
 zX9 R J1 p3 p5 n6 ds aD)
theorem clK_c {R:Rt} {J1:(Int)->World->Prop} {p3 p5:Option Addr} {n6:Int} {r7 r8 r9:Nat} {a b c:Val} (h7:w.heap[r7]?=some (.cells #[.int .i64 a.kind,.int .i64 a.n,.string a.s] 28)) (h8:w.heap[r8]?=some (.cells #[.int .i64 b.kind,.int .i64 b.n,.string b.s] 28))
  (h9:w.heap[r9]?=some (.cells #[.int .i64 c.kind,.int .i64 c.n,.string c.s] 28)) (hy:∀y,Pu w y->zZK a b c=true->R (.returned (.bool true)) y) (hn:∀y,Pu w y->zZK a b c=false->J1 (IntKind.i64.wrap (n6+1)) y):ClK R J1 p3 p5 n6 r7 r8 r9 [] w:=by
 refine⟨_,cl h7 0,_,cl h7 1,_,cl h7 2,_,cl h8 0,_,cl h8 1,_,cl h8 2,(zXX a b w).mono ?_⟩
 rintro e w1 ⟨rfl,al⟩
 refine⟨_,rfl,Br.of (λd1=>?_) (λd1=>?_)⟩
 ·have k7:=al.blk h7
  have k9:=al.blk h9
  refine⟨_,cl k9 0,_,cl k9 1,_,cl k9 2,_,cl k7 0,_,cl k7 1,_,cl k7 2,(zXX c a w1).mono ?_⟩
  rintro e w2 ⟨rfl,aj⟩
  have aG:=al.trans aj
  refine⟨_,rfl,Br.of (λd2=>?_) (λd2=>?_)⟩
  ·have k8:=aG.blk h8
   have k9:=aG.blk h9
   refine⟨_,cl k9 0,_,cl k9 1,_,cl k9 2,_,cl k8 0,_,cl k8 1,_,cl k8 2,(zXX c b w2).mono ?_⟩
   rintro e w3 ⟨rfl,am⟩
   have aF:=aG.trans am
   refine⟨_,rfl,Br.of (λd3=>?_) (λd3=>?_)⟩
   ·exact hy _ aF (by rw[zZK,d1,d2,d3];rfl)
   ·exact hn _ aF (by rw[zZK,d1,d2,d3];rfl)
  ·exact hn _ aG (by rw[zZK,d1,d2];rfl)
 ·exact hn _ al (by rw[zZK,d1];rfl)
theorem fill3 {w0:World} {r7 r8 r9:Nat} {z:Array Value} (hp:Pu w0 w) (hz:z.size=3) (h7:w.heap[r7]?=some (.cells z 28)) (h8:w.heap[r8]?=some (.cells z 28)) (h9:w.heap[r9]?=some (.cells z 28)) (n78:r7 ≠ r8) (n79:r7 ≠ r9) (n89:r8 ≠ r9)
  (z7:w0.heap.size<=r7) (z8:w0.heap.size<=r8) (z9:w0.heap.size<=r9) {a b c:Val} {S1 K:World->Prop} (hS:∀y,Pu w0 y->S1 y) (hK:∀y,Pu w0 y->y.heap[r7]?=some (.cells #[.int .i64 a.kind,.int .i64 a.n,.string a.s] 28)->y.heap[r8]?=some (.cells #[.int .i64 b.kind,.int .i64 b.n,.string b.s] 28)->
   y.heap[r9]?=some (.cells #[.int .i64 c.kind,.int .i64 c.n,.string c.s] 28)->K y) :
  stA prog 28 (⟨r7,0,none⟩:Addr) #[.int .i64 a.kind,.int .i64 a.n,.string a.s] w λw1=>S1 w1/\stA prog 28 (⟨r8,0,none⟩:Addr) #[.int .i64 b.kind,.int .i64 b.n,.string b.s] w1 λw2=>S1 w2/\stA prog 28 (⟨r9,0,none⟩:Addr) #[.int .i64 c.kind,.int .i64 c.n,.string c.s] w2 K:=
 zQj h7 zWp.symm hz rfl λw1 ay bo _=>by
  have al:Pu w0 w1:=hp.andNew bo λi hi=>by rw[show i=r7 from hi];exact z7
  refine⟨hS _ al,zQj (bo.blk h8 (Ne.symm n78)) zWp.symm hz rfl λw2 ag dh _=>?_⟩
  have aj:Pu w0 w2:=al.andNew dh λi hi=>by rw[show i=r8 from hi];exact z8
  refine⟨hS _ aj,zQj (dh.blk (bo.blk h9 (Ne.symm n79)) (Ne.symm n89)) zWp.symm hz rfl λw3 aH bP _=>?_⟩
  have am:Pu w0 w3:=aj.andNew bP λi hi=>by rw[show i=r9 from hi];exact z9
  exact hK _ am (bP.blk (dh.blk ay n78) n79) (bP.blk ag n89) aH
set_option maxHeartbeats 1000000 in
theorem yYE (h:zQr w d val) (hI:Inv (zQa d val)) {k:Int} {c:zQx × zQx} (m1:c.1 ∈ zQX d) (m2:c.2 ∈ zQX d) {x:zQx} (hk1:1<=k) (ak:k<=d.rh.length) (hx:d.rh[(k - 1).toNat]?=some x) :
  Calls prog 131 #[d.ptr,.agg #[.int .i64 k,.bool c.1.g,.slice c.1.s.a c.1.s.len c.1.s.cap,.bool c.2.g,.slice c.2.s.a c.2.s.len c.2.s.cap]] w λe w'=>e=.returned (.bool (zWa (toR val c.1,toR val c.2) (toR val x)))/\Pu w w':=by
 have eR:zWa (toR val c.1,toR val c.2) (toR val x)=zXS (hv val c.1) (hv val c.2) (hv val x):=by
  show(yQs _ _ _ || zXS (hv val c.1) (hv val c.2) (hv val x))=_
  rw[zJh,Bool.false_or]
 rw[eR]
 have dA:d.flds.length<=16:=hI.f16
 have jM:=hI.rh
 have hrl:=h.rs_len
 refine yZA _ _ _ _ _ _ w _ (alB λw1 al ay=>zQf λw2 aj _=>?_)
 have aG:=al.trans aj
 have h2:=h.pu aG
 have ag:=aj.blk ay
 obtain⟨a,ea,_,g0⟩:=h2.bd.rw_.elem zQk hx (o:=0) (v:=.bool x.g) rfl
 obtain⟨a',ea',_,g1⟩:=h2.bd.rw_.elem zQk hx (o:=1) (v:=.slice x.s.a x.s.len x.s.cap) rfl
 rw[ea]at ea';cases ea'
 refine⟨λy=>Pu w2 y,Pu.refl _,d.rs,λy hy=>hy.cell h2.recs,k,λy hy=>cl0 (hy.blk ag),a,ea,?_⟩
 rw[zQd (n:=k - 1) (by omega) (by omega)]
 refine⟨by omega,by omega,x.g,λy hy=>hy.cell g0,x.s,λy hy=>hy.cell g1,alB λw3 am aH=>⟨am,zQj aH yQk.symm rfl rfl λw4 aZ bp _=>?_⟩⟩
 have gK:Pu w2 w4:=am.andNew bp λi hi=>by rw[show i=w2.heap.size from hi];exact Nat.le_refl _
 have c8:=aG.trans gK
 have q3:=gK.blk ag
 have R1:=h.read hI m1
 have R2:=h.read hI m2
 have R3:=h.read hI (zQJ (List.mem_of_getElem? hx))
 have la:=R1.1.len
 have lb:=R2.1.len
 have lc:=R3.1.len
 have n1:=R1.2
 have n2:=R2.2
 have n3:=R3.2
 have fin:yQq (λe w'=>e=.returned (.bool (zXS (hv val c.1) (hv val c.2) (hv val x)))/\Pu w w') (some (⟨w.heap.size,0,none⟩:Addr)) (some (⟨w2.heap.size,0,none⟩:Addr)) 0 [] w4:=by
  refine zQ1 d.flds.length (λj t w'=>t=(j:Int)/\zXS (hv val c.1) (hv val c.2) (hv val x)=zXS ((hv val c.1).drop j) ((hv val c.2).drop j) ((hv val x).drop j)/\Pu w4 w') ⟨rfl,by simp,Pu.refl _⟩ ?_
  rintro j J t w5 hj ⟨ht,he,aB⟩ hJ
  obtain rfl:t=(j:Int):=ht
  have q5:=aB.blk aZ
  have q53:=aB.blk q3
  have wb:=c8.trans aB
  refine⟨x.s,cl q5 1,Br.of (λd1=>?_) (λd1=>?_)⟩
  ·have nh:j<d.flds.length:=by have:=zQm d1;omega
   obtain⟨va,hva⟩:=zXe (l:=hv val c.1) (k:=j) (by omega)
   obtain⟨vb,hvb⟩:=zXe (l:=hv val c.2) (k:=j) (by omega)
   obtain⟨vc,hvc⟩:=zXe (l:=hv val x) (k:=j) (by omega)
   have ed:zXS (hv val c.1) (hv val c.2) (hv val x)=(zZK va vb vc || zXS ((hv val c.1).drop (j+1)) ((hv val c.2).drop (j+1)) ((hv val x).drop (j+1))):=by rw[he,zJq hva,zJq hvb,zJq hvc];rfl
   refine zQf λw6 bx _=>?_
   have pp:=wb.trans bx
   have q6:=bx.blk q5
   have q63:=bx.blk q53
   obtain⟨pa,ha,x0,x1,x2⟩:=(R1.1.pu pp).get j va hva
   obtain⟨pb,hb,y0,y1,y2⟩:=(R2.1.pu pp).get j vb hvb
   obtain⟨pc,hc,z0,z1,z2⟩:=(R3.1.pu pp).get j vc hvc
   refine⟨λy=>Pu w6 y,Pu.refl _,c.1.s,λy hy=>by rw[zQc,zQc,zQq (hy.blk q63)];rfl,pa,ha,by omega,by omega,_,λy hy=>hy.cell x0,_,λy hy=>hy.cell x1,_,λy hy=>hy.cell x2,
    c.2.s,λy hy=>by rw[zQc,zQc,zQq (hy.blk q63)];rfl,pb,hb,by omega,by omega,_,λy hy=>hy.cell y0,_,λy hy=>hy.cell y1,_,λy hy=>hy.cell y2,
    x.s,λy hy=>cl (hy.blk q6) 1,pc,hc,by omega,by omega,_,λy hy=>hy.cell z0,_,λy hy=>hy.cell z1,_,λy hy=>hy.cell z2,?_⟩
   have go:∀{wC:World} {r7 r8 r9:Nat},Pu w6 wC->wC.heap[r7]?=some (.cells #[.int .i64 0,.int .i64 0,.string ⟨#[]⟩] 28)->wC.heap[r8]?=some (.cells #[.int .i64 0,.int .i64 0,.string ⟨#[]⟩] 28)->wC.heap[r9]?=some (.cells #[.int .i64 0,.int .i64 0,.string ⟨#[]⟩] 28)->
     r7 ≠ r8->r7 ≠ r9->r8 ≠ r9->w6.heap.size<=r7->w6.heap.size<=r8->w6.heap.size<=r9->
     stA prog 28 (⟨r7,0,none⟩:Addr) #[.int .i64 va.kind,.int .i64 va.n,.string va.s] wC λw1=>Pu w6 w1/\stA prog 28 (⟨r8,0,none⟩:Addr) #[.int .i64 vb.kind,.int .i64 vb.n,.string vb.s] w1 λw2=>Pu w6 w2/\stA prog 28 (⟨r9,0,none⟩:Addr) #[.int .i64 vc.kind,.int .i64 vc.n,.string vc.s] w2
      (ClK (λe w'=>e=.returned (.bool (zXS (hv val c.1) (hv val c.2) (hv val x)))/\Pu w w') J (some (⟨w.heap.size,0,none⟩:Addr)) (some (⟨w2.heap.size,0,none⟩:Addr)) (j:Int) r7 r8 r9 []):=λ{wC r7 r8 r9} hpC b7 b8 b9 n78 n79 n89 z7 z8 z9=>
    fill3 (a:=va) (b:=vb) (c:=vc) (z:=#[.int .i64 0,.int .i64 0,.string ⟨#[]⟩]) (S1:=λy=>Pu w6 y) (K:=ClK (λe w'=>e=.returned (.bool (zXS (hv val c.1) (hv val c.2) (hv val x)))/\Pu w w') J (some (⟨w.heap.size,0,none⟩:Addr)) (some (⟨w2.heap.size,0,none⟩:Addr)) (j:Int) r7 r8 r9 []) hpC rfl b7 b8 b9 n78 n79 n89 z7 z8 z9 (λy hy=>hy) λy hy k7 k8 k9=>clK_c (a:=va) (b:=vb) (c:=vc) k7 k8 k9 (λz hz hcl=>⟨by rw[ed,hcl];rfl,(pp.trans hy).trans hz⟩) (λz hz hcl=>by
     rw[zQd (by omega) (by omega)]
     exact hJ _ _ nh ⟨by omega,by rw[ed,hcl,Bool.false_or],((aB.trans bx).trans hy).trans hz⟩)
   have tri:∀{wA wB wC:World} {b:Array Value} {e:TypeId},Pu w6 wA->wA.heap[w6.heap.size]?=some (.cells b e)->Pu wA wB->wB.heap[wA.heap.size]?=some (.cells b e)->Pu wB wC->wC.heap[wB.heap.size]?=some (.cells b e)->
     Pu w6 wC/\wC.heap[w6.heap.size]?=some (.cells b e)/\wC.heap[wA.heap.size]?=some (.cells b e)/\w6.heap.size<wA.heap.size/\wA.heap.size<wB.heap.size:=λ{wA wB wC b e} pA bA pB bB pC bC=>
    ⟨(pA.trans pB).trans pC,pC.blk (pB.blk bA),pC.blk bB,zQy bA,zQy bB⟩
   refine⟨alB λwA pA bA=>⟨pA,alB λwB pB bB=>⟨pA.trans pB,alB λwC pC bC=>?_⟩,alB λwB pB bB=>⟨pA.trans pB,alB λwC pC bC=>?_⟩⟩,alB λwA pA bA=>⟨pA,alB λwB pB bB=>⟨pA.trans pB,alB λwC pC bC=>?_⟩,alB λwB pB bB=>⟨pA.trans pB,alB λwC pC bC=>?_⟩⟩,alB λwA pA bA=>⟨pA,alB λwB pB bB=>⟨pA.trans pB,alB λwC pC bC=>?_⟩,alB λwB pB bB=>⟨pA.trans pB,alB λwC pC bC=>?_⟩⟩⟩ <;> obtain⟨t1,t2,t3,t4,t5⟩:=tri pA bA pB bB pC bC
   ·exact⟨t1,go t1 t2 t3 bC (by omega) (by omega) (by omega) (by omega) (by omega) (by omega)⟩
   ·exact⟨t1,go t1 t2 bC t3 (by omega) (by omega) (by omega) (by omega) (by omega) (by omega)⟩
   ·exact⟨t1,go t1 t3 t2 bC (by omega) (by omega) (by omega) (by omega) (by omega) (by omega)⟩
   ·exact⟨t1,go t1 bC t2 t3 (by omega) (by omega) (by omega) (by omega) (by omega) (by omega)⟩
   ·exact⟨t1,go t1 t3 bC t2 (by omega) (by omega) (by omega) (by omega) (by omega) (by omega)⟩
   ·exact⟨t1,go t1 bC t3 t2 (by omega) (by omega) (by omega) (by omega) (by omega) (by omega)⟩
  ·have nh:j=d.flds.length:=by have:=zQh d1;omega
   refine⟨?_,c8.trans aB⟩
   have e0:(hv val c.1).drop j=[]:=List.drop_eq_nil_of_le (by omega)
   rw[he,e0]
   rfl
 refine⟨_,cl q3 3,_,cl q3 1,Br.of (λd1=>⟨_,cl0 aZ,_,cl q3 1,Br.of (λd2=>⟨_,cl0 aZ,_,cl q3 3,Br.of (λd3=>?_) (λ_=>fin)⟩) (λ_=>fin)⟩) (λ_=>fin)⟩
 exfalso
 revert d1 d2 d3
 show(!(c.2.g == c.1.g))=true->(!(x.g == c.1.g))=true->(!(x.g == c.2.g))=true->False
 generalize c.2.g=p;generalize c.1.g=q;generalize x.g=r
 revert p q r;decide
theorem zWs{l:List Chg}{k:Int}:((match zXw l k with|some i=>(i:Int)|none=>-1) >= 0) ↔ (zXw l k).isSome=true:=by
 cases zXw l k with
 | none=>simp
 | some i=>simp
theorem zWK(σ:Dsk)(u:Nat)(n:Nat):((List.range (n+1)).filter λi:Nat=>(AL.get (σ.us u).ch ((i:Int)+1)).isSome)=((List.range n).filter λi:Nat=>(AL.get (σ.us u).ch ((i:Int)+1)).isSome) ++ if (AL.get (σ.us u).ch ((n:Int)+1)).isSome then [n]else []:=by
 rw[List.range_succ,List.filter_append]
 congr 1
 by_cases e:(AL.get (σ.us u).ch ((n:Int)+1)).isSome=true
 ·rw[if_pos e];simp[e]
 ·rw[if_neg e];simp[e]
theorem zZ4{d:zQs}{val:Nat->List Val}{u:Nat}{k:Int}:AL.get ((zQa d val).us u).ch k=(AL.get (d.ch u) k).map λc=>(toR val c.1,toR val c.2):=zXM val (d.ch u) k
theorem zVE (h:zQr w d val) (hI:Inv (zQa d val)) (u:Int) :
  Calls prog 79 #[d.ptr,.int .i64 u] w λe w'=>∃q:SV,e=.returned (.tuple #[.slice q.a q.len q.cap,.int .i64 (uC u)])/\zX6 w w' q (clashesL u (zQa d val))/\Pu w w':=by
 refine yVA _ u w _ (Calls.mono (zYb u w) ?_)
 rintro e w1 ⟨rfl,rfl⟩
 refine⟨_,rfl,Br.of (λc=>?_) (λc=>?_)⟩
 ·have hu:¬isU u=true:=by simpa using c
  exact⟨⟨none,0,0⟩,by rw[uC,if_neg hu],by rw[clashesL,if_neg hu];exact zX6.nil _ _,Pu.refl _⟩
 have hu:isU u=true:=by simpa using c
 obtain⟨n,rfl,hn⟩:=zQY hu
 have jM:=hI.rh
 have rg:=hI.chl hn
 have hrl:=h.rs_len
 have hcl:=h.cs_len hn
 have eL:clashesL (n:Int) (zQa d val)=((List.range d.rh.length).filter λi:Nat=>zXT (zQa d val) n ((i:Int)+1)).map λ(i:Nat)=>(i:Int)+1:=by
  rw[clashesL,if_pos hu,zQI,clashK]
  have e:(zQa d val).recs.length=d.rh.length:=by simp[zQa]
  rw[e]
  congr 1
 rw[eL]
 refine zQ1 d.rh.length (λk t w'=>t.2=(k:Int)+1/\zX6 w1 w' t.1 (((List.range k).filter λi:Nat=>zXT (zQa d val) n ((i:Int)+1)).map λ(i:Nat)=>(i:Int)+1)/\Pu w1 w') ⟨rfl,zX6.nil _ _,Pu.refl _⟩ ?_
 rintro k J ⟨t,m⟩ w2 hk ⟨hm,hN,aj⟩ hJ
 obtain rfl:m=(k:Int)+1:=hm
 dsimp only at hN
 have h2:=h.pu aj
 refine⟨d.rs,h2.recs,Br.of (λd1=>?_) (λd1=>?_)⟩
 ·have ak:k<d.rh.length:=by have:=zQm d1;omega
  have step:∀b:Bool,zXT (zQa d val) n ((k:Int)+1)=b->((List.range (k+1)).filter λi:Nat=>zXT (zQa d val) n ((i:Int)+1)).map (λ(i:Nat)=>(i:Int)+1)=((List.range k).filter λi:Nat=>zXT (zQa d val) n ((i:Int)+1)).map (λ(i:Nat)=>(i:Int)+1) ++ if b then [(k:Int)+1]else []:=λb hb=>by
   rw[List.range_succ,List.filter_append,List.map_append]
   congr 1
   cases b <;> simp[hb]
  refine Calls.mono (zK6 h2 hn ((k:Int)+1) (by omega)) ?_
  rintro e w3 ⟨rfl,rfl⟩
  refine⟨_,rfl,Br.of (λd2=>?_) (λd2=>?_)⟩
  ·obtain⟨i,hi⟩:=Option.isSome_iff_exists.1 (zWs.1 (zQm d2))
   rw[hi]
   obtain⟨c,hci,hg⟩:=zZL hi
   have hil:=zVU hi
   have mc:=zXA hn (List.mem_of_getElem? hci)
   obtain⟨x,hx⟩:=zXe ak
   have ent:∀o v,(chC ((k:Int)+1,c))[o]?=some v->∃a,(d.cs n).a=some a/\w3.cell? ((a.add (i * 5)).add o)=some v:=λo v hv=>by
    obtain⟨a,ea,_,g0⟩:=(h2.cs_row hn).elem zXC hci (o:=o) (v:=v) hv
    exact⟨a,ea,g0⟩
   obtain⟨a,ea,g0⟩:=ent 0 _ rfl
   obtain⟨a1,uL,g1⟩:=ent 1 _ rfl
   obtain⟨a2,qZ,g2⟩:=ent 2 _ rfl
   obtain⟨a3,ea3,g3⟩:=ent 3 _ rfl
   obtain⟨a4,ea4,g4⟩:=ent 4 _ rfl
   rw[ea]at uL qZ ea3 ea4;cases uL;cases qZ;cases ea3;cases ea4
   refine⟨(u4 hn).1,(u4 hn).2,d.cs n,h2.uCs hn,a,ea,by dsimp only;omega,by dsimp only;omega,_,by rw[zQI];exact g0,_,by rw[zQI];exact g1,c.1.s,by rw[zQI];exact g2,_,by rw[zQI];exact g3,c.2.s,by rw[zQI];exact g4,?_⟩
   refine(yYE h2 hI (k:=(k:Int)+1) mc.1 mc.2 (x:=x) (by omega) (by omega) (by rw[show((k:Int)+1 - 1).toNat=k by omega];exact hx)).mono ?_
   rintro e w4 ⟨rfl,ar⟩
   have eP:zWa (toR val c.1,toR val c.2) (toR val x)=zXT (zQa d val) n ((k:Int)+1):=by
    unfold zXT
    rw[zZ4,hg]
    have e2:recK (zQa d val) ((k:Int)+1)=toR val x:=by
     unfold recK
     show(d.rh.map (toR val)).getD _ _=_
     rw[show((k:Int)+1 - 1).toNat=k by omega,List.getD_eq_getElem?_getD,List.getElem?_map,hx];rfl
    rw[e2];rfl
   rw[eP]
   refine⟨_,rfl,Br.of (λd3=>alB λw5 aB aP=>?_) (λd3=>?_)⟩
   ·have hlen:(((List.range k).filter λi:Nat=>zXT (zQa d val) n ((i:Int)+1)).map λ(i:Nat)=>(i:Int)+1).length<=1000000:=by
     have h1:=List.length_filter_le (λi:Nat=>zXT (zQa d val) n ((i:Int)+1)) (List.range k)
     rw[List.length_range]at h1
     rw[List.length_map];omega
    obtain⟨t',w6,hra,qg,bb⟩:=(hN.pu (ar.trans aB)).push ((aj.trans ar).trans aB).size aP hlen
    refine⟨t',w6,hra,?_⟩
    rw[zQd (by omega) (by omega)]
    exact hJ _ _ ak ⟨by dsimp only;omega,by rw[step true d3];exact qg,((aj.trans ar).trans aB).andNew bb λi hi=>hN.2 i hi⟩
   ·rw[zQd (by omega) (by omega)]
    exact hJ _ _ ak ⟨by dsimp only;omega,by rw[step false d3];simpa using hN.pu ar,aj.trans ar⟩
  ·have hno:zXw (d.ch n) ((k:Int)+1)=none:=by
    cases e:zXw (d.ch n) ((k:Int)+1)with
    | none=>rfl
    | some i=>exact absurd (zWs.2 (by rw[e];rfl)) (zQh d2)
   rw[zQd (by omega) (by omega)]
   refine hJ _ _ ak ⟨by dsimp only;omega,?_,aj⟩
   rw[step false (by unfold zXT;rw[zZ4,zJv hno];rfl)]
   simpa using hN
 ·have ak:k=d.rh.length:=by have:=zQh d1;omega
  subst ak
  exact⟨t,by rw[uC,if_pos hu],hN,aj⟩
theorem yZQ (h:zQr w d val) (hI:Inv (zQa d val)) (u:Int) :
  Calls prog 77 #[d.ptr,.int .i64 u] w λe w'=>∃q:SV,e=.returned (.tuple #[.slice q.a q.len q.cap,.int .i64 (uC u)])/\zX6 w w' q (changedL u (zQa d val))/\Pu w w':=by
 refine yWq _ u w _ (Calls.mono (zYb u w) ?_)
 rintro e w1 ⟨rfl,rfl⟩
 refine⟨_,rfl,Br.of (λc=>?_) (λc=>?_)⟩
 ·have hu:¬isU u=true:=by simpa using c
  exact⟨⟨none,0,0⟩,by rw[uC,if_neg hu],by rw[changedL,if_neg hu];exact zX6.nil _ _,Pu.refl _⟩
 have hu:isU u=true:=by simpa using c
 obtain⟨n,rfl,hn⟩:=zQY hu
 have jM:=hI.rh
 have rg:=hI.chl hn
 have fG:=hI.ah hn
 have hrl:=h.rs_len
 have hcl:=h.cs_len hn
 have hal:=h.as_len hn
 have e0:(zQa d val).recs.length=d.rh.length:=by simp[zQa]
 have eL:changedL (n:Int) (zQa d val)=((List.range d.rh.length).filter λi:Nat=>(AL.get ((zQa d val).us n).ch ((i:Int)+1)).isSome).map (λ(i:Nat)=>(i:Int)+1) ++ (List.range (d.ah n).length).map (λ(i:Nat)=>-(i:Int) - 1):=by
  rw[changedL,if_pos hu,zQI,zXr,keysU,e0]
 rw[eL]
 have hlen:∀k,k<=d.rh.length->(((List.range k).filter λi:Nat=>(AL.get ((zQa d val).us n).ch ((i:Int)+1)).isSome).map λ(i:Nat)=>(i:Int)+1).length<=1000:=λk hk=>by
  have h1:=List.length_filter_le (λi:Nat=>(AL.get ((zQa d val).us n).ch ((i:Int)+1)).isSome) (List.range k)
  rw[List.length_range]at h1
  rw[List.length_map];omega
 refine zQ1 d.rh.length (λk t w'=>t.2=(k:Int)+1/\zX6 w1 w' t.1 (((List.range k).filter λi:Nat=>(AL.get ((zQa d val).us n).ch ((i:Int)+1)).isSome).map λ(i:Nat)=>(i:Int)+1)/\Pu w1 w') ⟨rfl,zX6.nil _ _,Pu.refl _⟩ ?_
 rintro k J ⟨t,m⟩ w2 hk ⟨hm,hN,aj⟩ hJ
 obtain rfl:m=(k:Int)+1:=hm
 dsimp only at hN
 have h2:=h.pu aj
 refine⟨d.rs,h2.recs,Br.of (λd1=>?_) (λd1=>?_)⟩
 ·have ak:k<d.rh.length:=by have:=zQm d1;omega
  refine Calls.mono (zK6 h2 hn ((k:Int)+1) (by omega)) ?_
  rintro e w3 ⟨rfl,rfl⟩
  refine⟨_,rfl,Br.of (λd2=>alB λw5 aB aP=>?_) (λd2=>?_)⟩
  ·obtain⟨i,hi⟩:=Option.isSome_iff_exists.1 (zWs.1 (zQm d2))
   obtain⟨c,hci,hg⟩:=zZL hi
   obtain⟨t',w6,hra,qg,bb⟩:=(hN.pu aB).push (aj.trans aB).size aP (by have:=hlen k hk;omega)
   refine⟨t',w6,hra,?_⟩
   rw[zQd (by omega) (by omega)]
   refine hJ _ _ ak ⟨by dsimp only;omega,?_,(aj.trans aB).andNew bb λi hi=>hN.2 i hi⟩
   rw[zWK,List.map_append,if_pos (by rw[zZ4,hg];rfl)]
   exact qg
  ·have hno:zXw (d.ch n) ((k:Int)+1)=none:=by
    cases e:zXw (d.ch n) ((k:Int)+1)with
    | none=>rfl
    | some i=>exact absurd (zWs.2 (by rw[e];rfl)) (zQh d2)
   rw[zQd (by omega) (by omega)]
   refine hJ _ _ ak ⟨by dsimp only;omega,?_,aj⟩
   rw[zWK,List.map_append,if_neg (by rw[zZ4,zJv hno];simp)]
   simpa using hN
 ·have ak:k=d.rh.length:=by have:=zQh d1;omega
  subst ak
  refine zQ1 (d.ah n).length (λk t w'=>t.2=(k:Int)/\zX6 w1 w' t.1 (((List.range d.rh.length).filter λi:Nat=>(AL.get ((zQa d val).us n).ch ((i:Int)+1)).isSome).map (λ(i:Nat)=>(i:Int)+1) ++ (List.range k).map (λ(i:Nat)=>-(i:Int) - 1))/\Pu w1 w') ⟨rfl,by simpa using hN,aj⟩ ?_
  rintro k J2 ⟨t,m⟩ w3 hk3 ⟨hm,hN,am⟩ pM
  obtain rfl:m=(k:Int):=hm
  dsimp only at hN
  have h3:=h.pu am
  refine⟨(u4 hn).1,(u4 hn).2,d.asv n,h3.uAp hn,Br.of (λd2=>alB λw5 aB aP=>?_) (λd2=>?_)⟩
  ·have hk4:k<(d.ah n).length:=by have:=zQm d2;omega
   rw[zQd (n:=0 - (k:Int)) (by omega) (by omega),zQd (n:=0 - (k:Int) - 1) (by omega) (by omega)]at aP
   obtain⟨t',w6,hra,qg,bb⟩:=(hN.pu aB).push (am.trans aB).size aP (by
    rw[List.length_append,show(List.map (λ(i:Nat)=>-(i:Int) - 1) (List.range k)).length=k by simp]
    have:=hlen d.rh.length (Nat.le_refl _);omega)
   refine⟨t',w6,hra,?_⟩
   rw[zQd (by omega) (by omega)]
   refine pM _ _ hk4 ⟨by simp,?_,(am.trans aB).andNew bb λi hi=>hN.2 i hi⟩
   rw[List.range_succ,List.map_append,←List.append_assoc]
   have e:(0 - (k:Int) - 1)=-(k:Int) - 1:=by omega
   rw[e]at qg
   exact qg
  ·have hk4:k=(d.ah n).length:=by have:=zQh d2;omega
   subst hk4
   exact⟨t,by rw[uC,if_pos hu],hN,am⟩
end Go.Proofs.YtcihcbfcgjepfaaGreatDoor
/- Desks: the record that a user of the reference changes. No condition but those stated. -/
namespace Go.Proofs.YtcihcbfcgjepfaaGreatDoor
open Go.Sh Go.RowKit Tryz
variable {w w' : World} {d d' : zQs} {val : Nat -> List Val}
theorem zZo{g:Bool}{s:SV}{l:List Val}(h:RdV w s l)(hb:l.length<=1000000):Calls prog 89 #[.agg #[.bool g,.slice s.a s.len s.cap]] w λe w'=>∃q:SV,e=.returned (.agg #[.bool g,.slice q.a q.len q.cap])/\zZ8 w w' q l/\Pu w w':=by
 refine yWG _ _ w _ (alB λw1 al ay=>alB λw2 aj ag=>zQf λw3 am _=>?_)
 have b1:=am.blk (aj.blk ay)
 have b2:=am.blk ag
 have hp:=(al.trans aj).trans am
 have z1:=al.size
 have z2:=aj.size
 have z3:=am.size
 have l1:w.heap.size<w1.heap.size:=zQy ay
 have l2:w1.heap.size<w2.heap.size:=zQy ag
 have h1:=h.pu hp
 have hlen:=h.len
 obtain⟨t,w4,hr,hrow,hf,hblk,_⟩:=zQ6 (P:=prog) (ty:=75) bu75 yK8 rfl (by omega) (zQl.nil w3 28 3) (A:=s.a) (m:=s.len) (c:=s.cap) (news:=l.flatMap zXJ) (by rw[zQ0 zQF,hlen]) (λj x hx=>by
  have hj:j<l.length * 3:=by have:=(List.getElem?_eq_some_iff.1 hx).1;rwa [zQ0 zQF]at this
  obtain⟨v,hv⟩:=zXe (l:=l) (k:=j / 3) (by omega)
  obtain⟨a,ha,c0,c1,c2⟩:=h1.get _ v hv
  have h2:=zXU zQF hv (j % 3) (by omega)
  rw[show j / 3 * 3+j % 3=j by omega,hx]at h2
  refine⟨a,ha,?_⟩
  have e:a.add j=(a.add (j / 3 * 3)).add (j % 3):=by
   rw[Addr.add_add];congr 1;omega
  rw[e]
  rcases(by omega:j % 3=0∨j % 3=1∨j % 3=2)with e2|e2|e2 <;> rw[e2]at h2 ⊢ <;> simp[zXJ]at h2 <;> subst h2 <;> assumption) (λx hx=>by
   obtain⟨y,_,hy⟩:=List.mem_flatMap.1 hx
   simp[zXJ]at hy
   rcases hy with rfl|rfl|rfl <;> rfl) (by show(0+s.len) * (32+1)<=_;omega)
 rw[List.nil_append]at hrow
 have m4:Pu w3 w4:=(Pu.refl w3).andNew hf λb hb=>by simp[zQb]at hb
 have hnew:∀b ∈ zQb t,w3.heap.size<=b:=λb hb=>by
  rcases hblk b hb with h|h
  ·simp[zQb]at h
  ·exact h
 refine⟨λu=>Pu w3 u,Pu.refl _,_,λu hu=>cl0 (hu.blk b1),_,λu hu=>cl (hu.blk b1) 1,t,w4,hr,m4,zQj (m4.blk b2) yQk.symm rfl rfl λw5 aP bT rI=>⟨_,cl aP 0,_,cl aP 1,t,rfl,⟨hrow.fr bT λb hb e=>?_,λb hb=>?_⟩,(hp.trans m4).andNew bT λi hi=>by have hi:i=w1.heap.size:=hi;omega⟩⟩
 ·have:=hnew b hb;have e:b=w1.heap.size:=e;omega
 ·have:=hnew b hb;omega
theorem zYK:∀{l:List Chg} {k:Int} {i:Nat} {c:zQx × zQx},zXw l k=some i->AL.put l k c=l.set i (k,c)
 | [],k,i,c,h=>by simp[zXw]at h
 | (a,b) :: l,k,i,c,h=>by
  simp only[zXw,List.findIdx?_cons]at h
  simp only[AL.put]
  by_cases e:a=k
  ·rw[if_pos (by simpa using e)]at h
   cases h
   rw[if_pos e]
   show(a,c) :: l=(k,c) :: l
   rw[e]
  ·rw[if_neg (by simpa using e)]at h
   obtain⟨j,hj,rfl⟩:=Option.map_eq_some_iff.1 h
   rw[if_neg e,zYK (l:=l) (i:=j) hj];rfl
theorem zJ9{α:Type}:∀{l:List (Int × α)} {k:Int} {c:α},AL.get l k=none->AL.put l k c=l ++ [(k,c)]
 | [],k,c,_=>rfl
 | (a,b) :: l,k,c,h=>by
  simp only[AL.get]at h
  simp only[AL.put]
  by_cases e:a=k
  ·rw[if_pos e]at h;cases h
  ·rw[if_neg e]at h
   rw[if_neg e,zJ9 h];rfl
theorem yQU{α:Type}:∀{l:List (Int × α)} {k:Int} {b c:α},AL.get l k=none->AL.put (l ++ [(k,b)]) k c=l ++ [(k,c)]/\AL.get (l ++ [(k,b)]) k=some b
 | [],k,b,c,_=>by simp[AL.put,AL.get]
 | (a,x) :: l,k,b,c,h=>by
  simp only[AL.get]at h
  by_cases e:a=k
  ·rw[if_pos e]at h;cases h
  ·rw[if_neg e]at h
   obtain⟨h1,h2⟩:=yQU (b:=b) (c:=c) h
   exact⟨by simp only[List.cons_append,AL.put,if_neg e,h1],by simp only[List.cons_append,AL.get,if_neg e,h2]⟩
theorem yZi:∀{l:List Chg} {k:Int} {c:zQx × zQx},zXw l k=none->zXw (l ++ [(k,c)]) k=some l.length
 | [],k,c,_=>by simp[zXw]
 | (a,b) :: l,k,c,h=>by
  simp only[zXw,List.findIdx?_cons]at h
  simp only[List.cons_append,zXw,List.findIdx?_cons]
  by_cases e:a=k
  ·rw[if_pos (by simpa using e)]at h;cases h
  ·rw[if_neg (by simpa using e)]at h ⊢
   have h2:zXw l k=none:=by
    cases hq:zXw l k with
    | none=>rfl
    | some j=>unfold zXw at hq;rw[hq]at h;cases h
   have:=yZi (c:=c) h2
   unfold zXw at this
   rw[this];rfl
inductive zWz
 | ap (i:Nat)
 | rc (i:Nat)
 | cg (i:Nat) (k:Int)
def zWz.ok(s:zWz)(d:zQs)(u:Nat)(a:Addr)(x:zQx):Prop:=match s with
 | .ap i=>(d.ah u)[i]?=some x/\∃a0,(d.asv u).a=some a0/\a=a0.add (i * 2)
 | .rc i=>d.rh[i]?=some x/\∃a0,d.rs.a=some a0/\a=a0.add (i * 2)
 | .cg i k=>zXw (d.ch u) k=some i/\(∃c,(d.ch u)[i]?=some (k,(c,x))/\AL.get (d.ch u) k=some (c,x))/\∃a0,(d.cs u).a=some a0/\a=(a0.add (i * 5)).add 3
def zWz.chg(s:zWz)(u:Nat)(f:Rec->Rec)(σ:Dsk):Dsk:=match s with
 | .ap i=>σ.setU u { σ.us u with ap:=(σ.us u).ap.modify i f }
 | .rc i=>{ σ with recs:=σ.recs.modify i f }
 | .cg i k=>σ.setU u { σ.us u with ch:=AL.put (σ.us u).ch k (((AL.get (σ.us u).ch k).getD (default,default)).1,f ((AL.get (σ.us u).ch k).getD (default,default)).2) }
theorem zWz.mem{s:zWz}{u:Nat}(hu:u<4){a:Addr}{x:zQx}(h:s.ok d u a x):x ∈ zQX d:=by
 cases s with
 | ap i=>exact zXj hu (List.mem_of_getElem? h.1)
 | rc i=>exact zQJ (List.mem_of_getElem? h.1)
 | cg i k=>
  obtain⟨_,⟨c,h1,_⟩,_⟩:=h
  exact(zXA hu (List.mem_of_getElem? h1)).2
theorem zWz.cell{s:zWz}{u:Nat}(hu:u<4){a:Addr}{x:zQx}(h:s.ok d u a x)(hR:zQr w d val):w.cell? (a.add 1)=some (.slice x.s.a x.s.len x.s.cap):=by
 cases s with
 | ap i=>
  obtain⟨h1,a0,h2,rfl⟩:=h
  obtain⟨b,hb,_,hc⟩:=(hR.bd.aw u hu).elem zQk h1 (o:=1) (v:=.slice x.s.a x.s.len x.s.cap) rfl
  rw[h2]at hb;cases hb
  exact hc
 | rc i=>
  obtain⟨h1,a0,h2,rfl⟩:=h
  obtain⟨b,hb,_,hc⟩:=hR.bd.rw_.elem zQk h1 (o:=1) (v:=.slice x.s.a x.s.len x.s.cap) rfl
  rw[h2]at hb;cases hb
  exact hc
 | cg i k=>
  obtain⟨_,⟨c,h1,_⟩,a0,h2,rfl⟩:=h
  obtain⟨b,hb,_,hc⟩:=(hR.cs_row hu).elem zXC h1 (o:=4) (v:=.slice x.s.a x.s.len x.s.cap) rfl
  rw[h2]at hb;cases hb
  rw[Addr.add_add];exact hc
theorem xXD (h:zQE w d val) {u:Nat} (hu:u<4) {k:Int} {c:zQx × zQx} (hc:AL.get (d.ch u) k=some c):ApC d u k c:=by
 have q1:=(yXi hu).1 h.nd
 have q2:=zJ5 (d.ch u) k c
 rw[zW0 hc]at q2
 have q3:(uH d u ++ zXa d u).Perm (c.1 :: c.2 :: (chH (AL.del (d.ch u) k) ++ d.ah u ++ zXa d u)):=by
  have:=(q2.append_right (d.ah u)).append_right (zXa d u)
  simpa[uH] using this
 exact(zXF q3).nodup_iff.1 q1
theorem gen_id{u:Nat}:d.gen u d.o d.rs d.rh (d.asv u) (d.ah u) (d.cs u) (d.ch u) (d.C u)=d:=zWw
theorem zYk{u:Nat}{o':Nat->Option zXx}{rh' ah':List zQx}{C':Nat}{ch':List Chg}:zZ5 (d.gen u o' d.rs rh' (d.asv u) ah' (d.cs u) ch' C')=zZ5 d:=by
 have e1:(λv=>if v=u then d.asv u else d.asv v)=d.asv:=by funext v;by_cases e:v=u <;> simp[e]
 have e2:(λv=>if v=u then d.cs u else d.cs v)=d.cs:=by funext v;by_cases e:v=u <;> simp[e]
 have e3:(d.gen u o' d.rs rh' (d.asv u) ah' (d.cs u) ch' C').asv=d.asv:=e1
 have e4:(d.gen u o' d.rs rh' (d.asv u) ah' (d.cs u) ch' C').cs=d.cs:=e2
 simp only[zZ5,e3,e4]
 rfl
theorem zQr.setVal (h:zQr w d val) {x:zQx} (hx:x ∈ zQX d) {a:Addr} (ha:x.s.a=some a) {l':List Val} (hf:Fr (· ∈ zQb x.s) w w') (hrow:zQl w' 28 3 x.s (l'.flatMap zXJ)):zQr w' d (zXE val a.block l'):=by
 have hb:a.block ∈ zQb x.s:=by simp[zQb,ha]
 have hV:d.o a.block=some .V:=h.bd.oV _ (zQN hx hb)
 have hf':Fr (·=a.block) w w':=hf.mono λi hi _=>by simpa[zQb,ha] using hi
 exact⟨hf'.blk h.st λe=>(by rw[←show d.S=a.block from e,h.bd.oS]at hV;cases hV),h.bd.setVal hx ha hf' hrow,h.sd⟩
theorem zWz.set {s:zWz} {u:Nat} (hu:u<4) {a:Addr} {x:zQx} (h:s.ok d u a x) (hR:zQr w d val) {j:Nat} (hj:j<(hv val x).length) (v:Val) {K:World->Prop}
  (hK:∀w' val',zQr w' d val'->Fr (Own d) w w'->zQa d val'=s.chg u (setVal j v) (zQa d val)->K w'):∃b,x.s.a=some b/\j<x.s.len/\stA prog 28 (b.add (j * 3)) #[.int .i64 v.kind,.int .i64 v.n,.string v.s] w K:=by
 have hm:=zWz.mem hu h
 have hrow:=hR.bd.vr x hm
 have hl:=hrow.len zQF (by decide)
 obtain⟨b,hb⟩:=zX8 hrow hj
 obtain⟨b',hb',hst⟩:=hrow.stElem (P:=prog) (t:=28) zQF (by decide) hj v zWp.symm rfl (K:=K) λw' g1 g2 g3=>by
  refine hK w' _ (hR.setVal hm hb g2 g1) (g2.mono λi hi _=>by rw[Own,hR.bd.oV i (zQN hm hi)];simp) ?_
  cases s with
  | ap i=>
   have hx:(d.ah u)[i]?=some x:=h.1
   have hap:((zQa d val).us u).ap[i]?=some (toR val x):=by show((d.ah u).map (toR val))[i]?=_;rw[List.getElem?_map,hx];rfl
   rw[zVy hR.bd.nd hR.bd.low hu hx hb]
   rw[zXZ (f:=λr=>{ r with v:=(hv val x).set j v }) (g:=setVal j v) hap rfl]
   rfl
  | rc i=>
   have hx:d.rh[i]?=some x:=h.1
   have hap:(zQa d val).recs[i]?=some (toR val x):=by show(d.rh.map (toR val))[i]?=_;rw[List.getElem?_map,hx];rfl
   rw[zZP hR.bd.nd hR.bd.low hx hb]
   rw[zXZ (f:=λr=>{ r with v:=(hv val x).set j v }) (g:=setVal j v) hap rfl]
   rfl
  | cg i k=>
   obtain⟨_,⟨c,h1,h2⟩,_⟩:=h
   have hA:=xXD hR.bd hu h2
   have key:=yQR (val:=val) (val':=zXE val b.block ((hv val x).set j v)) (o':=d.o) (cs':=d.cs u) (c2:=x) hR.bd.low hA (λy hy=>zZJ (hy _ (by simp[zQb,hb])))
   rw[zW0 h2,gen_id]at key
   rw[key]
   have e1:toR (zXE val b.block ((hv val x).set j v)) x=setVal j v (toR val x):=by rw[toR,zZs hb rfl];rfl
   rw[e1]
   simp only[zWz.chg]
   rw[zZ4,h2];rfl
 rw[hb]at hb';cases hb'
 exact⟨b,hb,by omega,hst⟩
theorem zWz.mark{s:zWz}{u:Nat}(hu:u<4){a:Addr}{x:zQx}(h:s.ok d u a x)(hR:zQr w d val)(g:Bool){K:World->Prop}
  (hK:∀w' d',zQr w' d' val->Fr (Own d) w w'->d'.o=d.o->d'.S=d.S->zQa d' val=s.chg u (zZX g) (zQa d val)->K w'):st1 a (.bool g) w K:=by
 have hm:=zWz.mem hu h
 have hnd:=(yXi hu).1 hR.bd.nd
 have e0:zXa d u=d.rh ++ (zXa d u).drop d.rh.length:=by simp[zXa]
 cases s with
 | ap i=>
  obtain⟨hx,a0,ha,rfl⟩:=h
  have hi:i<(d.ah u).length:=(List.getElem?_eq_some_iff.1 hx).1
  have hap:((zQa d val).us u).ap[i]?=some (toR val x):=by show((d.ah u).map (toR val))[i]?=_;rw[List.getElem?_map,hx];rfl
  obtain⟨a1,dm,hst⟩:=(hR.bd.aw u hu).stField (i:=i) (o:=0) zQk hi (by decide) { x with g:=g } (.bool g) (λy hy=>by rw[hx]at hy;cases hy;rfl) (K:=K) λw1 jY bo iJ=>by
   have own:∀b ∈ zQb (d.asv u),d.o b=some (.A u):=hR.bd.oA u hu
   have ne:∀{b:Nat} {κ:zXx},d.o b=some κ->κ ≠ .A u->¬b ∈ zQb (d.asv u):=λ{b κ} hb hk e=>by rw[own b e]at hb;exact hk (Option.some.inj hb).symm
   have hbd:zQE w1 (d.gen u d.o d.rs d.rh (d.asv u) ((d.ah u).set i { x with g:=g }) (d.cs u) (d.ch u) (d.C u)) val:=by
    refine hR.bd.gen hu bo (λb κ hb _ _ hk _=>⟨ne hb hk,hb⟩) hR.bd.oS (hR.bd.rw_.fr bo λb hb=>ne (hR.bd.oR b hb) (by simp)) hR.bd.oR jY own (λe=>⟨(hR.bd.mp e u hu).fr bo (ne (hR.bd.oC e u hu) (by simp)),hR.bd.oC e u hu⟩) (λe=>⟨(hR.bd.ml e u hu).fr bo λb hb=>ne (hR.bd.oK e u hu b hb) (by simp),hR.bd.oK e u hu⟩) (λy hy=>?_) ?_ (λb hb=>Nat.lt_of_lt_of_le (hR.bd.lt b hb) bo.size)
    ·left
     simp only[List.mem_append]at hy
     rcases hy with(hy|hy)|hy
     ·exact⟨y,zZr hu (List.mem_append_left _ hy),rfl⟩
     ·rcases List.mem_or_eq_of_mem_set hy with hy|rfl
      ·exact⟨y,zXj hu hy,rfl⟩
      ·exact⟨x,hm,rfl⟩
     ·exact⟨y,zQJ hy,rfl⟩
    ·rw[e0]at hnd
     unfold zKO
     rw[zQp,zQp,zWD (y:={ x with g:=g }) hx rfl,←zQp,←zQp]
     exact hnd
   refine hK w1 _ ⟨?_,hbd,hR.sd⟩ (bo.mono λc hc _=>by rw[Own,own c hc];simp) rfl rfl ?_
   ·rw[zYk]
    exact bo.blk hR.st (ne hR.bd.oS (by simp))
   ·rw[zK8,List.map_set]
    have e1:toR val { x with g:=g }=zZX g (toR val x):=rfl
    rw[e1,show(d.ah u).map (toR val)=((zQa d val).us u).ap from rfl,zXY hap]
    rfl
  rw[ha]at dm;cases dm
  rw[zKk]at hst
  exact hst
 | rc i=>
  obtain⟨hx,a0,ha,rfl⟩:=h
  have hi:i<d.rh.length:=(List.getElem?_eq_some_iff.1 hx).1
  have hap:(zQa d val).recs[i]?=some (toR val x):=by show(d.rh.map (toR val))[i]?=_;rw[List.getElem?_map,hx];rfl
  obtain⟨a1,dm,hst⟩:=hR.bd.rw_.stField (i:=i) (o:=0) zQk hi (by decide) { x with g:=g } (.bool g) (λy hy=>by rw[hx]at hy;cases hy;rfl) (K:=K) λw1 jY bo iJ=>by
   have own:∀b ∈ zQb d.rs,d.o b=some .R:=hR.bd.oR
   have ne:∀{b:Nat} {κ:zXx},d.o b=some κ->κ ≠ .R->¬b ∈ zQb d.rs:=λ{b κ} hb hk e=>by rw[own b e]at hb;exact hk (Option.some.inj hb).symm
   have hbd:zQE w1 (d.gen u d.o d.rs (d.rh.set i { x with g:=g }) (d.asv u) (d.ah u) (d.cs u) (d.ch u) (d.C u)) val:=by
    refine hR.bd.gen hu bo (λb κ hb _ hk _ _=>⟨ne hb hk,hb⟩) hR.bd.oS jY own ((hR.bd.aw u hu).fr bo λb hb=>ne (hR.bd.oA u hu b hb) (by simp)) (hR.bd.oA u hu) (λe=>⟨(hR.bd.mp e u hu).fr bo (ne (hR.bd.oC e u hu) (by simp)),hR.bd.oC e u hu⟩) (λe=>⟨(hR.bd.ml e u hu).fr bo λb hb=>ne (hR.bd.oK e u hu b hb) (by simp),hR.bd.oK e u hu⟩) (λy hy=>?_) ?_ (λb hb=>Nat.lt_of_lt_of_le (hR.bd.lt b hb) bo.size)
    ·left
     simp only[List.mem_append]at hy
     rcases hy with(hy|hy)|hy
     ·exact⟨y,zZr hu (List.mem_append_left _ hy),rfl⟩
     ·exact⟨y,zXj hu hy,rfl⟩
     ·rcases List.mem_or_eq_of_mem_set hy with hy|rfl
      ·exact⟨y,zQJ hy,rfl⟩
      ·exact⟨x,hm,rfl⟩
    ·rw[e0]at hnd
     unfold zKO
     rw[zQp,zQp (d.rh.set _ _),zWD (y:={ x with g:=g }) hx rfl,←zQp,←zQp]
     exact hnd
   refine hK w1 _ ⟨?_,hbd,hR.sd⟩ (bo.mono λc hc _=>by rw[Own,own c hc];simp) rfl rfl ?_
   ·rw[zYk]
    exact bo.blk hR.st (ne hR.bd.oS (by simp))
   ·rw[zWw]
    have e1:toR val { x with g:=g }=zZX g (toR val x):=rfl
    show({ zQa d val with recs:=(d.rh.set i { x with g:=g }).map (toR val) }:Dsk)={ zQa d val with recs:=(zQa d val).recs.modify i (zZX g) }
    rw[List.map_set,e1,show d.rh.map (toR val)=(zQa d val).recs from rfl,zXY hap]
  rw[ha]at dm;cases dm
  rw[zKk]at hst
  exact hst
 | cg i k=>
  obtain⟨hfi,⟨c,hx,hg⟩,a0,ha,rfl⟩:=h
  have hi:i<(d.ch u).length:=(List.getElem?_eq_some_iff.1 hx).1
  have hA:=xXD hR.bd hu hg
  obtain⟨a1,dm,hst⟩:=(hR.cs_row hu).stField (i:=i) (o:=3) zXC hi (by decide) (k,(c,{ x with g:=g })) (.bool g) (λy hy=>by rw[hx]at hy;cases hy;rfl) (K:=K) λw1 jY bo iJ=>by
   have own:∀b ∈ zQb (d.cs u),d.o b=some (.C u):=hR.bd.oK hR.sd u hu
   have ne:∀{b:Nat} {κ:zXx},d.o b=some κ->κ ≠ .C u->¬b ∈ zQb (d.cs u):=λ{b κ} hb hk e=>by rw[own b e]at hb;exact hk (Option.some.inj hb).symm
   rw[←zYK (c:=(c,{ x with g:=g })) hfi]at jY
   have hbd:zQE w1 (d.gen u d.o d.rs d.rh (d.asv u) (d.ah u) (d.cs u) (AL.put (d.ch u) k (c,{ x with g:=g })) (d.C u)) val:=by
    refine hR.bd.gen hu bo (λb κ hb _ _ _ hk=>⟨ne hb hk,hb⟩) hR.bd.oS (hR.bd.rw_.fr bo λb hb=>ne (hR.bd.oR b hb) (by simp)) hR.bd.oR ((hR.bd.aw u hu).fr bo λb hb=>ne (hR.bd.oA u hu b hb) (by simp)) (hR.bd.oA u hu) (λe=>absurd (e.symm.trans hR.sd) (by simp)) (λe=>⟨jY,own⟩) (λy hy=>?_) (hA.gen hu rfl) (λb hb=>Nat.lt_of_lt_of_le (hR.bd.lt b hb) bo.size)
    left
    simp only[List.mem_append]at hy
    rcases hy with(hy|hy)|hy
    ·have:=(zJ5 (d.ch u) k (c,{ x with g:=g })).mem_iff.1 hy
     have mc:=zXA hu (List.mem_of_getElem? hx)
     rcases List.mem_cons.1 this with rfl|this
     ·exact⟨_,mc.1,rfl⟩
     ·rcases List.mem_cons.1 this with rfl|this
      ·exact⟨x,hm,rfl⟩
      ·exact⟨y,zZr hu (List.mem_append_left _ (yQO this)),rfl⟩
    ·exact⟨y,zXj hu hy,rfl⟩
    ·exact⟨y,zQJ hy,rfl⟩
   refine hK w1 _ ⟨?_,hbd,hR.sd⟩ (bo.mono λc hc _=>by rw[Own,own c hc];simp) rfl rfl ?_
   ·rw[zYk]
    exact bo.blk hR.st (ne hR.bd.oS (by simp))
   ·have key:=yQR (val:=val) (val':=val) (o':=d.o) (cs':=d.cs u) (c2:={ x with g:=g }) hR.bd.low hA (λy hy=>rfl)
    rw[key]
    simp only[zWz.chg]
    rw[zZ4,hg];rfl
  rw[ha]at dm;cases dm
  exact hst
end Go.Proofs.YtcihcbfcgjepfaaGreatDoor
/- Desks: the reference opens a record to be changed. No condition but those stated. -/
namespace Go.Proofs.YtcihcbfcgjepfaaGreatDoor
open Go.Sh Go.RowKit Tryz
variable {w w' : World} {d d' : zQs} {val : Nat -> List Val}
theorem bu120:prog.underlying 120=some (.slice 136):=by kernel_rfl
theorem yX4:(prog.info? 136).map (λi=>(i.zero,i.size,i.bytes))=some (some (.agg #[.int .i64 0,.bool false,.slice none 0 0,.bool false,.slice none 0 0]),5,72):=by kernel_rfl
theorem cg_fin (h:zQr w d val) {u:Nat} (hu:u<4) {c:Chg} {r':SV} {w5:World} (hst:w5.heap[d.S]?=some (.cells (zZ5 { d with cs:=λv=>if v=u then r' else d.cs v }) 125)) (hrow:zQl w5 136 5 r' ((d.ch u ++ [c]).flatMap chC))
  (hb:∀b ∈ zQb r',b ∈ zQb (d.cs u)∨w.heap.size<=b) (hf:Fr (λb=>b=d.S∨b ∈ zQb (d.cs u)) w w5) (h1:zQl w 28 3 c.2.1.s ((hv val c.2.1).flatMap zXJ)) (h2:zQl w 28 3 c.2.2.s ((hv val c.2.2).flatMap zXJ))
  (o1:∀b ∈ zQb c.2.1.s,d.o b=some .V) (o2:∀b ∈ zQb c.2.2.s,d.o b=some .V) (n1:∀b ∈ zQb c.2.1.s,b ∉ vB (zQX d)) (n2:∀b ∈ zQb c.2.2.s,b ∉ vB (zQX d)) (fo:∀b ∈ zQb c.2.1.s,b ∉ zQb c.2.2.s) :
  ∃d',zQ7 w w5 d d' val/\d'.ch u=d.ch u ++ [c]/\d'.cs u=r'/\zQa d' val=(zQa d val).setU u { (zQa d val).us u with ch:=((zQa d val).us u).ch ++ [toC val c] }:=by
 have oR:=h.bd.oK h.sd u hu
 have ne:∀{b:Nat} {κ:zXx},d.o b=some κ->κ ≠ .S->κ ≠ .C u->¬(b=d.S∨b ∈ zQb (d.cs u)):=λ{b κ} hb h1 h3 e=>by
  rcases e with e|e
  ·rw[e,h.bd.oS]at hb;exact h1 (Option.some.inj hb).symm
  ·rw[oR b e]at hb;exact h3 (Option.some.inj hb).symm
 have up:∀{b:Nat} {κ:zXx},d.o b=some κ->κ ≠ .C u->(if b ∈ zQb r' then some (zXx.C u)else d.o b)=some κ:=λ{b κ} hbo hk=>by
  have hlw:b<w.heap.size:=h.bd.lt b (by rw[hbo];simp)
  rw[if_neg λe=>?_]
  ·exact hbo
  ·rcases hb b e with e|e
   ·rw[oR b e]at hbo;exact hk (Option.some.inj hbo).symm
   ·omega
 have hbd:=h.bd.gen hu (o':=λb=>if b ∈ zQb r' then some (.C u)else d.o b) (rs':=d.rs) (rh':=d.rh) (as':=d.asv u) (ah':=d.ah u) (cs':=r') (ch':=d.ch u ++ [c]) (C':=d.C u) hf
  (λb κ hbo k1 k2 k3 k4=>⟨ne hbo k1 k4,up hbo k4⟩) (up h.bd.oS (by simp)) (h.bd.rw_.fr hf λb hb=>ne (h.bd.oR b hb) (by simp) (by simp)) (λb hb=>up (h.bd.oR b hb) (by simp)) ((h.bd.aw u hu).fr hf λb hb=>ne (h.bd.oA u hu b hb) (by simp) (by simp)) (λb hb=>up (h.bd.oA u hu b hb) (by simp))
  (λe=>absurd (e.symm.trans h.sd) (by simp)) (λ_=>⟨hrow,λb ag=>if_pos ag⟩)
  (λz hz=>by
   have e:chH (d.ch u ++ [c])=chH (d.ch u) ++ [c.2.1,c.2.2]:=by simp[chH]
   rw[e]at hz
   simp only[List.mem_append,List.mem_cons,List.not_mem_nil,or_false]at hz
   rcases hz with((hz|rfl|rfl)|hz)|hz
   ·exact .inl ⟨z,zZr hu (List.mem_append_left _ hz),rfl⟩
   ·exact .inr ⟨h1.fr hf λb hb=>ne (o1 b hb) (by simp) (by simp),λb hb=>up (o1 b hb) (by simp)⟩
   ·exact .inr ⟨h2.fr hf λb hb=>ne (o2 b hb) (by simp) (by simp),λb hb=>up (o2 b hb) (by simp)⟩
   ·exact .inl ⟨z,zXj hu hz,rfl⟩
   ·exact .inl ⟨z,zQJ hz,rfl⟩) (by
   have e:zXa d u=d.rh ++ (zXa d u).drop d.rh.length:=by simp[zXa]
   have p:(zKO d u d.rh (d.ah u) (d.ch u ++ [c])).Perm (c.2.1 :: c.2.2 :: (uH d u ++ zXa d u)):=by
    unfold zKO
    rw[←e]
    have e2:chH (d.ch u ++ [c])=chH (d.ch u) ++ [c.2.1,c.2.2]:=by simp[chH]
    rw[e2]
    have:=List.perm_append_comm_assoc (chH (d.ch u)) [c.2.1,c.2.2] (d.ah u ++ zXa d u)
    simpa[uH,List.append_assoc] using this
   refine(zXF p).nodup_iff.2 ?_
   rw[zXl,zXl]
   have q:∀b,b ∈ vB (uH d u ++ zXa d u)->b ∈ vB (zQX d):=λb hb=>(zXF (zJo d hu)).mem_iff.2 hb
   refine List.nodup_append.2 ⟨zZT _,List.nodup_append.2 ⟨zZT _,(yXi hu).1 h.bd.nd,λa ha b hb e=>?_⟩,λa ha b hb e=>?_⟩
   ·subst e;exact n2 a ha (q a hb)
   ·subst e
    rcases List.mem_append.1 hb with hb|hb
    ·exact fo a ha hb
    ·exact n1 a ha (q a hb)) (λb hbo=>by
   by_cases e2:b ∈ zQb r'
   ·exact hrow.lt b e2
   ·rw[if_neg e2]at hbo
    exact Nat.lt_of_lt_of_le (h.bd.lt b hbo) hf.size)
 have hC:zZ5 (d.gen u (λb=>if b ∈ zQb r' then some (.C u)else d.o b) d.rs d.rh (d.asv u) (d.ah u) r' (d.ch u ++ [c]) (d.C u))=zZ5 { d with cs:=λv=>if v=u then r' else d.cs v }:=by
  have e:∀{α:Type} (f:Nat->α),(λv=>if v=u then f u else f v)=f:=λf=>by funext v;by_cases e:v=u <;> simp[e]
  simp only[zQs.gen,e]
  rfl
 refine⟨d.gen u (λb=>if b ∈ zQb r' then some (.C u)else d.o b) d.rs d.rh (d.asv u) (d.ah u) r' (d.ch u ++ [c]) (d.C u),⟨⟨by rw[hC];exact hst,hbd,h.sd⟩,hf.mono λi hi _=>?_,λb hbo=>?_,rfl⟩,by simp[zQs.gen],by simp[zQs.gen],?_⟩
 ·rcases hi with rfl|hi
  ·rw[h.bd.oS];simp
  ·rw[oR i hi];simp
 ·have hbo:(if b ∈ zQb r' then some (zXx.C u)else d.o b) ≠ none:=hbo
  by_cases e2:b ∈ zQb r'
  ·rcases hb b e2 with h1|h1
   ·left;rw[oR b h1];simp
   ·right;exact h1
  ·rw[if_neg e2]at hbo;exact .inl hbo
 ·simp only[zQa,Dsk.setU,Dsk.mk.injEq]
  refine⟨rfl,rfl,rfl,?_,rfl⟩
  funext v
  by_cases e:v=u
  ·subst e;simp[zZ9,zQs.gen]
  ·simp[zZ9,zQs.gen,e]
theorem Inv.lock {σ:Dsk} (h:Inv σ) {u:Nat} (hu:u<4) (h1:1<=(σ.us u).at_):Inv (lockS u σ):=by
 unfold lockS
 show Inv (if _ then σ else _)
 split
 ·exact h
 ·exact⟨h.pg,h.vf,h.gr,h.ga,h.gc,h.cn,h.at_,h.rw_,h.nn,λk v hv=>by
   have hv:(if k=(σ.us u).at_ then some (u:Int)else σ.lk k)=some v:=hv
   split at hv
   ·next e=>
    have:=h.at_ u hu
    have hv:=Option.some.inj hv
    exact⟨by omega,by show k<=(σ.recs.length:Int);omega,by omega,by omega⟩
   ·exact h.lr k v hv⟩
def yJw (w:World) (d:zQs) (u:Nat) (σ':(Rec->Rec)->Dsk) (n:Nat) (p:Option Addr) (w':World):Prop:=∃a d' val' s x,p=some a/\zQ7 w w' d d' val'/\zWz.ok s d' u a x/\(hv val' x).length=n/\∀f,s.chg u f (zQa d' val')=σ' f
theorem rOpen1 (h:zQr w d val) (hI:Inv (zQa d val)) {u:Nat} (hu:u<4) (h1:1<=d.at_ u) (h2:d.at_ u<=d.rh.length) {R:Rt}
  (hR:∀w' p,yJw w d u (λf=>(zQa d val).setU u { (zQa d val).us u with ch:=AL.put ((zQa d val).us u).ch (d.at_ u) (((AL.get ((zQa d val).us u).ch (d.at_ u)).getD (recK (zQa d val) (d.at_ u),recK (zQa d val) (d.at_ u))).1,f ((AL.get ((zQa d val).us u).ch (d.at_ u)).getD (recK (zQa d val) (d.at_ u),recK (zQa d val) (d.at_ u))).2) }) d.flds.length p w'->R (.returned (.tuple #[.pointer p,.int .i64 0])) w') :
  zWY R (some ⟨d.S,0,none⟩) (some (((⟨d.S,0,none⟩:Addr).add 3).add ((u:Int).toNat * 4))) (match zXw (d.ch u) (d.at_ u)with|some i=>(i:Int)|none=>-1) (decide ((match zXw (d.ch u) (d.at_ u)with|some i=>(i:Int)|none=>-1)<0)) [] w:=by
 have hcl:=h.cs_len hu
 have hrl:=h.rs_len
 have rg:=hI.chl hu
 have jM:=hI.rh
 have dA:d.flds.length<=16:=hI.f16
 have nf:0<d.flds.length:=List.length_pos_iff.2 (zQG hI.vf).1
 cases hfi:zXw (d.ch u) (d.at_ u)with
 | some i=>
  obtain⟨c,hci,hg⟩:=zZL hfi
  have hil:=zVU hfi
  have mc:=zXA hu (List.mem_of_getElem? hci)
  refine Br.of (λc=>by have:=zQm c;dsimp only at this;omega) (λ_=>?_)
  obtain⟨a,ea,_,_⟩:=(h.cs_row hu).elem zXC hci (o:=0) rfl
  refine⟨d.cs u,h.uCs hu,a,ea,by dsimp only;omega,by dsimp only;omega,hR w _ ⟨_,d,val,.cg i (d.at_ u),c.2,rfl,zQ7.refl h,⟨hfi,⟨c.1,hci,hg⟩,a,ea,?_⟩,(h.read hI mc.2).2,λf=>?_⟩⟩
  ·rw[zQI]
  ·simp only[zWz.chg]
   rw[zZ4,hg];rfl
 | none=>
  have hg:=zJv hfi
  refine Br.of (λ_=>zQf λw1 al _=>?_) (λc=>by have:=zQh c;dsimp only at this;omega)
  have hlt:(d.at_ u - 1).toNat<d.rh.length:=by omega
  obtain⟨x,hx⟩:=zXe hlt
  have hxm:=zQJ (List.mem_of_getElem? hx)
  have wv:=h.pu al
  have rd:=h.read hI hxm
  obtain⟨a,ea,_,g0⟩:=wv.bd.rw_.elem zQk hx (o:=0) (v:=.bool x.g) rfl
  obtain⟨a',ea',_,g1⟩:=wv.bd.rw_.elem zQk hx (o:=1) (v:=.slice x.s.a x.s.len x.s.cap) rfl
  rw[ea]at ea';cases ea'
  refine⟨λy=>Pu w1 y,Pu.refl _,d.rs,λy hy=>hy.cell wv.recs,d.at_ u,λy hy=>hy.cell (wv.uAt hu),a,ea,?_⟩
  rw[zQd (n:=d.at_ u - 1) (by omega) (by omega)]
  refine⟨by omega,by omega,x.g,λy hy=>hy.cell g0,x.s,λy hy=>hy.cell g1,alB λw5 aB aP=>⟨aB,zQj aP yQk.symm rfl rfl λw6 dx bb _=>zQf λw7 bU _=>?_⟩⟩
  have pq:Pu w1 w6:=aB.andNew bb λi hi=>by rw[show i=w1.heap.size from hi];exact Nat.le_refl _
  have rP:=pq.trans bU
  have gI:=al.trans rP
  have hA7:=h.pu gI
  have bQ:=bU.blk dx
  refine⟨λy=>Pu w7 y,Pu.refl _,d.cs u,λy hy=>hy.cell (hA7.uCs hu),d.at_ u,λy hy=>hy.cell (hA7.uAt hu),x.g,λy hy=>cl (hy.blk bQ) 0,x.s,λy hy=>cl (hy.blk bQ) 1,x.g,λy hy=>cl (hy.blk bQ) 0,x.s,λy hy=>cl (hy.blk bQ) 1,(zZo (rd.1.pu gI) (by rw[rd.2];omega)).mono ?_⟩
  rintro e au ⟨s1,rfl,n1,cZ⟩
  refine⟨_,s1,rfl,cZ,(zZo ((rd.1.pu gI).pu cZ) (by rw[rd.2];omega)).mono ?_⟩
  rintro e av ⟨s2,rfl,n2,cY⟩
  refine⟨_,s2,rfl,cZ.trans cY,alB λao cV bL=>⟨(cZ.trans cY).trans cV,?_⟩⟩
  have hp7c:=(cZ.trans cY).trans cV
  have rQ:=hA7.pu hp7c
  obtain⟨a1,uL⟩:=zX8 (i:=0) n1.1 (by rw[rd.2];omega)
  obtain⟨a2,qZ⟩:=zX8 (i:=0) n2.1 (by rw[rd.2];omega)
  have rM:zQb s1=[a1.block]:=by simp[zQb,uL]
  have sg:zQb s2=[a2.block]:=by simp[zQb,qZ]
  have m1:w7.heap.size<=a1.block:=n1.2 _ (by rw[rM];simp)
  have m1':a1.block<au.heap.size:=n1.1.lt _ (by rw[rM];simp)
  have m2:au.heap.size<=a2.block:=n2.2 _ (by rw[sg];simp)
  have m2':a2.block<av.heap.size:=n2.1.lt _ (by rw[sg];simp)
  have z0:=gI.size
  have z12:=cV.size
  have z10:=cZ.size
  have ou1:d.o a1.block=none:=h.bd.out (by omega)
  have bd1:=rQ.bd.ad ou1 (by omega) (hv val x)
  have ou2:(d.ad a1.block).o a2.block=none:=by
   show(if a2.block=a1.block then _ else _)=_
   rw[if_neg (by omega)];exact h.bd.out (by omega)
  have bd2:=bd1.ad ou2 (by omega) (hv val x)
  have hA:zQr ao ((d.ad a1.block).ad a2.block) (zXE (zXE val a1.block (hv val x)) a2.block (hv val x)):=⟨rQ.st,bd2,rQ.sd⟩
  have v1:hv (zXE (zXE val a1.block (hv val x)) a2.block (hv val x)) ⟨x.g,s1⟩=hv val x:=by
   rw[zZR (by show a2.block ∉ zQb s1;rw[rM];simp;omega)]
   exact zZs uL rfl
  have v2:hv (zXE (zXE val a1.block (hv val x)) a2.block (hv val x)) ⟨x.g,s2⟩=hv val x:=zZs qZ rfl
  have kO:zQa ((d.ad a1.block).ad a2.block) (zXE (zXE val a1.block (hv val x)) a2.block (hv val x))=zQa d val:=by
   rw[zVB bd1 ou2,zVB rQ.bd ou1]
  have ob:∀b,b=a1.block∨b=a2.block->((d.ad a1.block).ad a2.block).o b=some .V:=λb hb=>by
   show(if b=a2.block then some zXx.V else if b=a1.block then some .V else d.o b)=_
   rcases hb with hb|hb
   ·rw[if_neg (by omega),if_pos hb]
   ·rw[if_pos hb]
  have nlt:∀b ∈ vB (zQX d),b<w.heap.size:=λb hb=>h.bd.lt b (by rw[h.bd.oV b hb];simp)
  -- the change at the end of the row
  obtain⟨r',aE,hra,gi,dp,uQ,hlen13⟩:=zQ6 (P:=prog) (ty:=120) bu120 yX4 rfl (by omega) (rQ.cs_row hu) (A:=some ⟨av.heap.size,0,none⟩) (m:=1) (c:=1) (news:=chC (d.at_ u,(⟨x.g,s1⟩,⟨x.g,s2⟩))) rfl (λj y hy=>⟨_,rfl,by rw[cl bL];simpa using hy⟩) (λy hy=>by simp at hy;rcases hy with rfl|rfl|rfl|rfl|rfl <;> rfl) (by show((d.cs u).len+1) * (72+1)<=_;omega)
  refine⟨r',aE,hra,?_⟩
  have oC:=h.bd.oK h.sd u hu
  have nS:¬d.S ∈ zQb (d.cs u):=λe=>by have:=oC _ e;rw[h.bd.oS]at this;cases this
  have hst13:=dp.blk rQ.st nS
  rw[zJa,zQn,zQc]
  refine zQt hst13 (by show 3+u * 4+2<20;omega) λaD hw15 pz=>?_
  have uS:Fr (·=d.S) aE aD:=by rw[hw15];exact Fr.cell aE _ _ _
  rw[zYj hu]at pz
  have gi:zQl aE 136 5 r' ((d.ch u ++ [((d.at_ u,((⟨x.g,s1⟩:zQx),(⟨x.g,s2⟩:zQx))):Chg)]).flatMap chC):=by rw[List.flatMap_append,List.flatMap_singleton];exact gi
  have nS':∀b ∈ zQb r',¬b=d.S:=λb hb e=>by
   rcases uQ b hb with h1|h1
   ·rw[e]at h1;exact nS h1
   ·have h2:=h.bd.lt d.S (by rw[h.bd.oS];simp);omega
  have hF:Fr (λb=>b=d.S∨b ∈ zQb (d.cs u)) ao aD:=(dp.mono (B':=λb=>b=d.S∨b ∈ zQb (d.cs u)) λi hi _=>.inr hi).trans uS λi hi _=>.inl hi
  obtain⟨d',hL,hch,hcs,habs⟩:=cg_fin hA hu (c:=(d.at_ u,(⟨x.g,s1⟩,⟨x.g,s2⟩))) (r':=r') pz (gi.fr uS nS') uQ hF (by rw[v1];exact(n1.1.pu cY).pu cV) (by rw[v2];exact n2.1.pu cV)
   (λb hb=>ob b (.inl (by have hb:b ∈ zQb s1:=hb;rw[rM]at hb;simpa using hb))) (λb hb=>ob b (.inr (by have hb:b ∈ zQb s2:=hb;rw[sg]at hb;simpa using hb)))
   (λb hb hbx=>by have hb:b ∈ zQb s1:=hb;rw[rM]at hb;simp at hb;have:=nlt b hbx;omega) (λb hb hbx=>by have hb:b ∈ zQb s2:=hb;rw[sg]at hb;simp at hb;have:=nlt b hbx;omega)
   (λb hb hbx=>by have hb:b ∈ zQb s1:=hb;have hbx:b ∈ zQb s2:=hbx;rw[rM]at hb;rw[sg]at hbx;simp at hb hbx;omega)
  have cs15:aD.cell? ((uR d u).add 2)=some (.slice r'.a r'.len r'.cap):=by
   rw[zQc,zQq pz]
   have:=xXw (d:={ d with cs:=λv=>if v=u then r' else d.cs v }) hu
   simpa using this
  have uT:=gi.fr uS nS'
  have hrl15:=uT.len zXC (by decide)
  rw[List.length_append,List.length_singleton]at hrl15
  have hlast:(d.ch u ++ [((d.at_ u,((⟨x.g,s1⟩:zQx),(⟨x.g,s2⟩:zQx))):Chg)])[(d.ch u).length]?=some (d.at_ u,((⟨x.g,s1⟩:zQx),(⟨x.g,s2⟩:zQx))):=by simp
  obtain⟨p,ep,_,_⟩:=uT.elem zXC hlast (o:=0) rfl
  refine⟨r',cs15,r',cs15,p,ep,?_⟩
  have ew:IntKind.i64.wrap (((r'.len:Nat):Int) - 1)=((d.ch u).length:Int):=by rw[zQd (by omega) (by omega)];omega
  rw[ew]
  refine⟨by omega,by omega,hR aD _ ⟨_,d',_,.cg (d.ch u).length (d.at_ u),⟨x.g,s2⟩,rfl,?_,⟨?_,⟨⟨x.g,s1⟩,?_,?_⟩,p,by rw[hcs];exact ep,by rw[zQI]⟩,by rw[v2];exact rd.2,λf=>?_⟩⟩
  ·have L0:zQ7 w ao d ((d.ad a1.block).ad a2.block) (zXE (zXE val a1.block (hv val x)) a2.block (hv val x)):=⟨hA,Fr.pu (gI.trans hp7c),λb hb=>by
    have hb:(if b=a2.block then some zXx.V else if b=a1.block then some .V else d.o b) ≠ none:=hb
    by_cases q2:b=a2.block
    ·right;omega
    ·by_cases q1:b=a1.block
     ·right;omega
     ·rw[if_neg q2,if_neg q1]at hb;exact .inl hb,rfl⟩
   exact L0.trans hL
  ·rw[hch];exact yZi hfi
  ·rw[hch];exact hlast
  ·rw[hch];exact(yQU (c:=((⟨x.g,s1⟩:zQx),(⟨x.g,s2⟩:zQx))) hg).2
  ·have recE:recK (zQa d val) (d.at_ u)=toR val x:=by
    unfold recK
    show(d.rh.map (toR val)).getD _ _=_
    rw[List.getD_eq_getElem?_getD,List.getElem?_map,hx];rfl
   have hgA:AL.get ((zQa d val).us u).ch (d.at_ u)=none:=by rw[zZ4,hg];rfl
   have eC:toC (zXE (zXE val a1.block (hv val x)) a2.block (hv val x)) (d.at_ u,((⟨x.g,s1⟩:zQx),(⟨x.g,s2⟩:zQx)))=(d.at_ u,(toR val x,toR val x)):=by
    simp only[toC,toR,v1,v2]
   rw[habs,kO,eC]
   simp only[zWz.chg]
   have eU:(((zQa d val).setU u { (zQa d val).us u with ch:=((zQa d val).us u).ch ++ [(d.at_ u,(toR val x,toR val x))] }).us u)={ (zQa d val).us u with ch:=((zQa d val).us u).ch ++ [(d.at_ u,(toR val x,toR val x))] }:=by simp[Dsk.setU]
   rw[eU,hgA,recE]
   have pe:=λc=>yQU (b:=(toR val x,toR val x)) (c:=c) hgA
   simp only[(pe (default,default)).2,(pe _).1,zJ9 hgA,Option.getD_some,Option.getD_none]
   simp only[Dsk.setU,Dsk.mk.injEq,true_and,and_true]
   funext v
   by_cases e:v=u <;> simp[e]
theorem yWv (h:zQr w d val) (hI:Inv (zQa d val)) {u:Nat} (hu:u<4) (h0:d.at_ u ≠ 0) (hM:0<=d.mode u/\d.mode u<=4) :
  Calls prog 123 #[d.ptr,.int .i64 (u:Int)] w λe w'=>∃p:Option Addr,e=.returned (.tuple #[.pointer p,.int .i64 (lockC u (zQa d val))])/\
   ((lockC u (zQa d val) ≠ 0/\Pu w w')∨(lockC u (zQa d val)=0/\yJw w d u (λf=>alterS u f (zQa d val)) d.flds.length p w')):=by
 have eM:((zQa d val).us u).mode=d.mode u:=rfl
 have eA:((zQa d val).us u).at_=d.at_ u:=rfl
 have eK:(zQa d val).lk=d.lk:=rfl
 have hat:=hI.at_ u hu
 rw[eA,zXr,show(zQa d val).recs.length=d.rh.length by simp[zQa]]at hat
 have hal:=h.as_len hu
 have hrl:=h.rs_len
 have jM:=hI.rh
 have fG:=hI.ah hu
 have rg:=hI.chl hu
 refine yZ9 _ _ w _ ⟨(u4 hu).1,(u4 hu).2,d.at_ u,h.uAt hu,Br.of (λc=>zQf λw1 al _=>?_) (λc=>zQf λw1 al _=>?_)⟩
 ·have c:d.at_ u<0:=zQm c
  have h1:=h.pu al
  have hlt:(-d.at_ u - 1).toNat<(d.ah u).length:=by omega
  obtain⟨x,hx⟩:=zXe hlt
  obtain⟨a,ea,_,_⟩:=(h1.bd.aw u hu).elem zQk hx (o:=0) (v:=.bool x.g) rfl
  have ew:IntKind.i64.wrap ((IntKind.i64.wrap (0 - d.at_ u)) - 1)=-d.at_ u - 1:=by rw[zQd (n:=0 - d.at_ u) (by omega) (by omega),zQd (by omega) (by omega)];omega
  have hC:lockC u (zQa d val)=0:=by simp only[lockC,eM,eA];rw[if_pos (.inr (.inr c))]
  refine⟨d.asv u,h1.uAp hu,d.at_ u,h1.uAt hu,a,ea,?_⟩
  rw[ew]
  refine⟨by omega,by omega,_,by rw[hC],.inr ⟨hC,_,d,val,.ap (-d.at_ u - 1).toNat,x,rfl,zQ7.pu h al,⟨hx,a,ea,rfl⟩,(h.read hI (zXj hu (List.mem_of_getElem? hx))).2,λf=>?_⟩⟩
  simp only[alterS,eA,zWz.chg]
  rw[if_pos c]
 have c:¬d.at_ u<0:=zQh c
 have h1:=h.pu al
 obtain⟨l,hl,hk⟩:=h1.lm
 -- no one else has the lock
 have free:lockC u (zQa d val)=0->yQx (λe w'=>∃p:Option Addr,e=.returned (.tuple #[.pointer p,.int .i64 (lockC u (zQa d val))])/\((lockC u (zQa d val) ≠ 0/\Pu w w')∨(lockC u (zQa d val)=0/\yJw w d u (λf=>alterS u f (zQa d val)) d.flds.length p w')))
   (some ⟨d.S,0,none⟩) (u:Int) (some (((⟨d.S,0,none⟩:Addr).add 3).add ((u:Int).toNat * 4))) [] w1:=λhC=>by
  have fin:∀{w3:World} {lk':Int->Option Int},zQr w3 { d with lk:=lk' } val->zQ7 w w3 d { d with lk:=lk' } val->{ zQa d val with lk:=lk' }=lockS u (zQa d val)->d.mode u ≠ 0->
    zWY (λe w'=>∃p:Option Addr,e=.returned (.tuple #[.pointer p,.int .i64 (lockC u (zQa d val))])/\((lockC u (zQa d val) ≠ 0/\Pu w w')∨(lockC u (zQa d val)=0/\yJw w d u (λf=>alterS u f (zQa d val)) d.flds.length p w')))
    (some ⟨d.S,0,none⟩) (some (((⟨d.S,0,none⟩:Addr).add 3).add ((u:Int).toNat * 4))) (match zXw (d.ch u) (d.at_ u)with|some i=>(i:Int)|none=>-1) (decide ((match zXw (d.ch u) (d.at_ u)with|some i=>(i:Int)|none=>-1)<0)) [] w3:=λ{w3 lk'} h3 L3 e3 hm=>by
   have si:Inv (zQa { d with lk:=lk' } val):=by
    show Inv { zQa d val with lk:=lk' }
    rw[e3]
    exact hI.lock hu (by rw[eA];omega)
   refine rOpen1 (d:={ d with lk:=lk' }) h3 si hu (by show 1<=d.at_ u;omega) (by show d.at_ u<=d.rh.length;omega) λw' p hP=>⟨p,by rw[hC],.inr ⟨hC,?_⟩⟩
   obtain⟨a,d',val',s,x,e1,hL,e4,e5,e6⟩:=hP
   refine⟨a,d',val',s,x,e1,L3.trans hL,e4,e5,λf=>?_⟩
   rw[e6 f]
   have e7:zQa { d with lk:=lk' } val=lockS u (zQa d val):=e3
   have e5:((lockS u (zQa d val)).us u)=(zQa d val).us u:=by unfold lockS;simp only;split <;> rfl
   have e8:recK (lockS u (zQa d val)) (d.at_ u)=recK (zQa d val) (d.at_ u):=by unfold lockS;simp only;split <;> rfl
   simp only[e7,e5,e8,alterS,eA,eM]
   rw[if_neg c,if_neg hm]
  have lock:d.mode u=1∨d.mode u=3->∀{w3:World},Pu w1 w3->∃oT:Option Nat,w3.cell? ((⟨d.S,0,none⟩:Addr).add 19)=some (.map oT)/\∃oU:Int,w3.cell? ((((⟨d.S,0,none⟩:Addr).add 3).add ((u:Int).toNat * 4)).add 1)=some (.int .i64 oU)/\
    doE prog (Instr.mapUpdate 80 (.map oT) (.int .i64 oU) (.int .i64 (IntKind.i64.wrap ((u:Int)+1)))) w3 λcK=>∃fk:Int,cK.cell? ((((⟨d.S,0,none⟩:Addr).add 3).add ((u:Int).toNat * 4)).add 1)=some (.int .i64 fk)/\
    Calls prog 130 #[.pointer (some ⟨d.S,0,none⟩),.int .i64 (u:Int),.int .i64 fk] cK λe fT=>∃gT:Int,e=.returned (.int .i64 gT)/\
    zWY (λe w'=>∃p:Option Addr,e=.returned (.tuple #[.pointer p,.int .i64 (lockC u (zQa d val))])/\((lockC u (zQa d val) ≠ 0/\Pu w w')∨(lockC u (zQa d val)=0/\yJw w d u (λf=>alterS u f (zQa d val)) d.flds.length p w')))
     (some ⟨d.S,0,none⟩) (some (((⟨d.S,0,none⟩:Addr).add 3).add ((u:Int).toNat * 4))) gT (decide (gT<0)) [] fT:=λhm {w3} am=>by
   have h3:=h1.pu am
   obtain⟨w4,hrun,rJ,bp,se⟩:=(hl.pu am).upd (P:=prog) zWJ yYh (d.at_ u) ((u:Int)+1)
   have neL:∀{b:Nat} {κ:zXx},d.o b=some κ->κ ≠ .L->¬b=d.L:=λ{b κ} hb hk e=>by rw[e,h.bd.oL]at hb;exact hk (Option.some.inj hb).symm
   have h4:zQr w4 { d with lk:=λk=>if k=d.at_ u then some (u:Int)else d.lk k } val:=⟨bp.blk h3.st (neL h.bd.oS (by simp)),h3.bd.lks bp rJ λk=>(by
    rw[AL.get_put,h.sd]
    by_cases e:d.at_ u=k
    ·rw[if_pos e,if_pos e.symm];rfl
    ·rw[if_neg e,if_neg (Ne.symm e),hk];rfl),h.sd⟩
   refine⟨some d.L,h3.locks,d.at_ u,h3.uAt hu,w4,by rw[zQd (by omega) (by omega)];exact hrun,d.at_ u,h4.uAt hu,Calls.mono (zK6 h4 hu (d.at_ u) (by show(d.ch u).length<=_;omega)) ?_⟩
   rintro e w5 ⟨rfl,rfl⟩
   refine⟨_,rfl,fin h4 ((zQ7.pu h (al.trans am)).trans ⟨h4,bp.mono λi hi _=>by rw[show i=d.L from hi,h.bd.oL];simp,λb hb=>.inl hb,rfl⟩) ?_ (by omega)⟩
   simp only[lockS,eM,eA,eK]
   rw[if_neg (by omega)]
  refine⟨d.mode u,h1.uMode hu,Br.of (λm0=>zQf λw3 am _=>?_) (λm0=>⟨d.mode u,h1.uMode hu,Br.of (λm1=>zQf λw3 am _=>?_) (λm1=>⟨d.mode u,h1.uMode hu,Br.of (λm3=>zQf λw3 am _=>?_) (λm3=>?_)⟩)⟩)⟩
  ·have m0:d.mode u=0:=zQA m0
   have h3:=h1.pu am
   have hlt:(d.at_ u - 1).toNat<d.rh.length:=by omega
   obtain⟨x,hx⟩:=zXe hlt
   obtain⟨a,ea,_,_⟩:=h3.bd.rw_.elem zQk hx (o:=0) (v:=.bool x.g) rfl
   refine⟨d.rs,h3.recs,d.at_ u,h3.uAt hu,a,ea,?_⟩
   rw[zQd (n:=d.at_ u - 1) (by omega) (by omega)]
   refine⟨by omega,by omega,_,by rw[hC],.inr ⟨hC,_,d,val,.rc (d.at_ u - 1).toNat,x,rfl,zQ7.pu h (al.trans am),⟨hx,a,ea,rfl⟩,(h.read hI (zQJ (List.mem_of_getElem? hx))).2,λf=>?_⟩⟩
   simp only[alterS,eA,eM,zWz.chg]
   rw[if_neg c,if_pos m0]
  ·exact lock (.inl (zQA m1)) am
  ·exact lock (.inr (zQA m3)) am
  ·have m0:d.mode u ≠ 0:=zQo m0
   have m1:d.mode u ≠ 1:=zQo m1
   have m3:d.mode u ≠ 3:=zQo m3
   refine⟨d.at_ u,h1.uAt hu,Calls.mono (zK6 h1 hu (d.at_ u) (by omega)) ?_⟩
   rintro e w5 ⟨rfl,rfl⟩
   refine⟨_,rfl,fin (lk':=d.lk) h1 (zQ7.pu h al) ?_ m0⟩
   simp only[lockS,eM,eA]
   rw[if_pos (by omega)];rfl
 refine⟨some d.L,h1.locks,d.at_ u,h1.uAt hu,_,zZ0 hl _,?_⟩
 rw[hk]
 have eC:lockC u (zQa d val)=if d.mode u=2∨d.mode u=4 then 0 else match d.lk (d.at_ u)with|some v=>if v=(u:Int)then 0 else 12|none=>0:=by
  simp only[lockC,eM,eA,eK]
  by_cases q:d.mode u=2∨d.mode u=4
  ·rw[if_pos q,if_pos (by rcases q with q|q;exact .inl q;exact .inr (.inl q))]
  ·rw[if_neg q,if_neg (by omega)];rfl
 cases hv:d.lk (d.at_ u)with
 | none=>
  refine Br.of (λq=>by cases q) (λ_=>free ?_)
  rw[eC,hv];simp
 | some v=>
  have hv2:=hI.lr (d.at_ u) v hv
  refine Br.of (λq=>Br.of (λq2=>?_) (λq2=>free ?_)) (λq=>?_)
  ·have q2:v+1 ≠ (u:Int)+1:=by
    have:=zQ4 q2
    rwa [zQd (n:=(u:Int)+1) (by omega) (by omega)]at this
   have busy:d.mode u=0∨d.mode u=1∨d.mode u=3->lockC u (zQa d val)=12:=λhm=>by
    rw[eC,if_neg (by omega),hv]
    show(if v=(u:Int)then(0:Int)else 12)=12
    rw[if_neg (by omega)]
   have bad:lockC u (zQa d val)=12->∃p:Option Addr,Ending.returned (.tuple #[.pointer none,.int .i64 12])=.returned (.tuple #[.pointer p,.int .i64 (lockC u (zQa d val))])/\((lockC u (zQa d val) ≠ 0/\Pu w w1)∨(lockC u (zQa d val)=0/\yJw w d u (λf=>alterS u f (zQa d val)) d.flds.length p w1)):=λhb=>
    ⟨none,by rw[hb],.inl ⟨by rw[hb];decide,al⟩⟩
   refine⟨d.mode u,h1.uMode hu,Br.of (λm0=>bad (busy (.inl (zQA m0)))) (λm0=>⟨d.mode u,h1.uMode hu,Br.of (λm1=>bad (busy (.inr (.inl (zQA m1))))) (λm1=>⟨d.mode u,h1.uMode hu,Br.of (λm3=>bad (busy (.inr (.inr (zQA m3))))) (λm3=>free ?_)⟩)⟩)⟩
   have m0:d.mode u ≠ 0:=zQo m0
   have m1:d.mode u ≠ 1:=zQo m1
   have m3:d.mode u ≠ 3:=zQo m3
   rw[eC,if_pos (by omega)]
  ·have q2:v+1=(u:Int)+1:=by
    have:=zQu q2
    rwa [zQd (n:=(u:Int)+1) (by omega) (by omega)]at this
   rw[eC,hv]
   split
   ·rfl
   ·show(if v=(u:Int)then(0:Int)else 12)=0
    rw[if_pos (by omega)]
  ·have:v+1=0:=zQu q
   omega
end Go.Proofs.YtcihcbfcgjepfaaGreatDoor
/- Desks: the modes of the users stay in their range. In plain words. No condition but those stated. -/
namespace Go.Proofs.YtcihcbfcgjepfaaGreatDoor
open Go.Sh Go.RowKit Tryz
variable {σ τ : Dsk}
def Md(σ:Dsk):Prop:=∀u,u<4->0<=(σ.us u).mode/\(σ.us u).mode<=4
def Ms(σ τ:Dsk):Prop:=∀u,(τ.us u).mode=(σ.us u).mode
theorem Ms.refl(σ:Dsk):Ms σ σ:=λ_=>rfl
theorem Ms.trans{ρ:Dsk}(h:Ms σ τ)(k:Ms τ ρ):Ms σ ρ:=λu=>(k u).trans (h u)
theorem Md.same(h:Md σ)(k:Ms σ τ):Md τ:=λu hu=>by rw[k u];exact h u hu
theorem yKM(h:τ.us=σ.us):Ms σ τ:=λu=>by rw[h]
theorem zKm {u:Nat} {x:Usr} (h:x.mode=(σ.us u).mode):Ms σ (σ.setU u x):=λv=>by
 show(if v=u then x else σ.us v).mode=_
 split
 ·next e=>rw[e];exact h
 ·rfl
theorem md_new(t:Tbl):Md (Dsk.new t):=λu _=>by show(0:Int)<=0/\(0:Int)<=4;decide
theorem yZp(u:Nat):Ms σ (zXB u σ):=(zKm (σ:=σ) (u:=u) (x:={ σ.us u with ch:=[],ap:=[] }) rfl).trans (yKM rfl)
theorem yKY(u:Nat):Ms σ (storedS u σ):=by
 unfold storedS
 refine Ms.trans ?_ (yZp u)
 exact(yKM (σ:=σ) (τ:={ σ with recs:=zXo (σ.us u).ch σ.recs ++ (σ.us u).ap }) rfl).trans (zKm rfl)
theorem yXX(u:Nat)(f:Bool):Ms σ (storeS u f σ):=by
 unfold storeS
 split
 ·exact yKY u
 ·exact Ms.refl _
theorem zYt(u:Nat):Ms σ (leaveS u σ):=by
 unfold leaveS
 split
 ·exact Ms.refl _
 ·exact yXX u false
theorem yVT(v:Int)(f:Bool):Ms σ (storeES v f σ):=by
 unfold storeES
 split
 ·exact yXX _ f
 ·exact Ms.refl _
theorem ms_go(v k:Int):Ms σ (goS v k σ):=by
 unfold goS
 split
 ·exact Ms.refl _
 ·simp only
  split
  ·exact zKm rfl
  ·exact(zYt _).trans (zKm rfl)
theorem yQD(u:Nat):Ms σ (appendedS u σ):=by
 unfold appendedS
 split
 ·exact(yKM (σ:=σ) (τ:={ σ with recs:=σ.recs ++ [blankR σ] }) rfl).trans (zKm rfl)
 ·exact zKm rfl
theorem ms_app(v:Int):Ms σ (appS v σ):=by
 unfold appS
 split
 ·exact Ms.refl _
 ·split
  ·exact Ms.refl _
  ·split
   ·exact zYt _
   ·exact(zYt _).trans (yQD _)
theorem yXy(u:Nat):(lockS u σ).us=σ.us:=by
 unfold lockS
 simp only
 split <;> rfl
theorem yZj(u:Nat)(f:Rec->Rec):Ms σ (alterS u f σ):=by
 unfold alterS
 simp only
 split
 ·exact zKm rfl
 ·split
  ·exact yKM rfl
  ·exact(yKM (yXy u)).trans (zKm (by rw[yXy]))
theorem xJZ(v:Int)(nm:ByteArray)(x:Val):Ms σ (setS v nm x σ):=by
 unfold setS
 split
 ·split
  ·exact Ms.refl _
  ·exact yZj _ _
 ·exact Ms.refl _
theorem xJL(v:Int)(g:Bool):Ms σ (markS v g σ):=by
 unfold markS
 split
 ·exact yZj _ _
 ·exact Ms.refl _
theorem yWt(u:Nat):Ms σ (revertU u σ):=by
 unfold revertU
 refine Ms.trans ?_ (yZp u)
 exact zKm rfl
theorem yVX(v:Int):Ms σ (revertS v σ):=by
 unfold revertS
 split
 ·exact yWt _
 ·exact Ms.refl _
theorem Md.fall(h:Md σ)(v:Int):Md (fallS v σ):=by
 unfold fallS
 split
 ·intro u hu
  show 0<=(if u=v.toNat then _ else(revertU v.toNat σ).us u).mode/\(if u=v.toNat then _ else(revertU v.toNat σ).us u).mode<=4
  split
  ·show(0:Int)<=0/\(0:Int)<=4;decide
  ·exact(h.same (yWt v.toNat)) u hu
 ·exact h
theorem Md.mode(h:Md σ)(v m:Int):Md (modeS v m σ):=by
 unfold modeS
 split
 ·next hc=>
  have hm:0<=m/\m<=4:=by
   unfold modeC at hc
   split at hc
   ·cases hc
   ·split at hc
    ·cases hc
    ·omega
  intro u hu
  show 0<=(if u=v.toNat then _ else σ.us u).mode/\(if u=v.toNat then _ else σ.us u).mode<=4
  split
  ·exact hm
  ·exact h u hu
 ·exact h
end Go.Proofs.YtcihcbfcgjepfaaGreatDoor
