import Derived.Test.YtcihcbfcgjepfaaGreatDoorBfOwI
import Derived.Test.YtcihcbfcgjepfaaGreatDoorBfPrB
import Derived.LaidEqlPtr
import Derived.Test.YtcihcbfcgjepfaaGreatDoorBfOwB
import Derived.Test.YtcihcbfcgjepfaaGreatDoorShTwenty
import Derived.Test.YtcihcbfcgjepfaaGreatDoorBfOwC
/- Desks: the reference's copy of a desk, user by user. No condition but those stated. -/
set_option maxRecDepth 100000
set_option linter.unusedVariables false
set_option linter.unusedSimpArgs false
namespace Go.Proofs.YtcihcbfcgjepfaaGreatDoor
open Go.Sh Go.RowKit Tryz
variable {w w' w0 : World} {d d' E : zQs} {val v : Nat -> List Val}
theorem yXS {s:SV} {l:List Chg} (h:zQl w 136 5 s (l.flatMap chC)) {i:Nat} {c:Chg} (hc:l[i]?=some c):∃a,s.a=some a/\i<s.len/\w.cell? (a.add (i * 5))=some (.int .i64 c.1)/\
  w.cell? (((a.add (i * 5)).add 1).add 0)=some (.bool c.2.1.g)/\w.cell? (((a.add (i * 5)).add 1).add 1)=some (.slice c.2.1.s.a c.2.1.s.len c.2.1.s.cap)/\
  w.cell? (((a.add (i * 5)).add 3).add 0)=some (.bool c.2.2.g)/\w.cell? (((a.add (i * 5)).add 3).add 1)=some (.slice c.2.2.s.a c.2.2.s.len c.2.2.s.cap):=by
 obtain⟨a,ha,hl,h0⟩:=h.elem zXC hc (o:=0) rfl
 obtain⟨a1,dm,_,h1⟩:=h.elem zXC hc (o:=1) rfl
 obtain⟨a2,wy,_,h2⟩:=h.elem zXC hc (o:=2) rfl
 obtain⟨a3,fG,_,h3⟩:=h.elem zXC hc (o:=3) rfl
 obtain⟨a4,kO,_,h4⟩:=h.elem zXC hc (o:=4) rfl
 rw[ha]at dm wy fG kO
 cases dm;cases wy;cases fG;cases kO
 exact⟨a,ha,hl,by rw[zKk]at h0;exact h0,by rw[zKk];exact h1,by rw[Addr.add_add];exact h2,by rw[zKk];exact h3,by rw[Addr.add_add];exact h4⟩
theorem zQE.rdA (h:zQE w d val) {u:Nat} (hu:u<4) (hl:∀x ∈ d.ah u,(hv val x).length<=1000000):zXQ w (d.asv u) ((zQa d val).us u).ap:=by
 refine⟨by rw[(h.aw u hu).len zQk (by decide),zXr],λi r hr=>?_⟩
 have hr:((d.ah u).map (toR val))[i]?=some r:=hr
 rw[List.getElem?_map]at hr
 obtain⟨x,hx,rfl⟩:=Option.map_eq_some_iff.1 hr
 obtain⟨a,ha,_,h0⟩:=(h.aw u hu).elem zQk hx (o:=0) rfl
 obtain⟨a1,dm,_,h1⟩:=(h.aw u hu).elem zQk hx (o:=1) rfl
 rw[ha]at dm;cases dm
 have hm:=zXj hu (List.mem_of_getElem? hx)
 exact⟨a,x.s,ha,h0,h1,zZ8.rd (w0:={ w with heap:=#[] }) ⟨h.vr x hm,λ_ _=>Nat.zero_le _⟩ (by have:=hl x (List.mem_of_getElem? hx);show(hv val x).length<=_;omega)⟩
structure zZB (w0 w:World) (q:SV) (acc:List Chg) (chs:List (Int × (Rec × Rec))):Prop where
 row:zQl w 136 5 q (acc.flatMap chC)
 new:∀b ∈ zQb q,w0.heap.size<=b
 keys:acc.map Prod.fst=chs.map Prod.fst
 recs:zQK w (chH acc) (yXG chs)
 vnew:∀b ∈ vB (chH acc),w0.heap.size<=b/\b ∉ zQb q
 nd:(vB (chH acc)).Nodup
theorem zZB.fr {B:Nat->Prop} {q:SV} {acc:List Chg} {chs:List (Int × (Rec × Rec))} (h:zZB w0 w q acc chs) (hf:Fr B w w') (hn:∀b,w0.heap.size<=b->b<w.heap.size->¬B b):zZB w0 w' q acc chs:=
 ⟨h.row.fr hf λb hb=>hn b (h.new b hb) (h.row.lt b hb),h.new,h.keys,h.recs.fr hf λb hb=>hn b (h.vnew b hb).1 (h.recs.lt b hb),h.vnew,h.nd⟩
theorem zZB.nil(w0 w:World):zZB w0 w ⟨none,0,0⟩ [] []:=⟨zQl.nil _ _ _,by simp[zQb],rfl,trivial,by simp[chH,vB],by simp[chH,vB]⟩
theorem zZB.push {w1 wa w5:World} {q s1 s2:SV} {acc:List Chg} {chs:List (Int × (Rec × Rec))} {k:Int} {r1 r2:Rec} {b:Nat} (hq:zZB w0 w1 q acc chs) (hpa:Pu w1 wa) (hp:Pu wa w5) (hz:w0.heap.size<=w1.heap.size)
  (hV1:zZ8 w1 wa s1 r1.v) (hV2:zZ8 wa w5 s2 r2.v) (aP:w5.heap[b]?=some (.cells #[.int .i64 k,.bool r1.gone,.slice s1.a s1.len s1.cap,.bool r2.gone,.slice s2.a s2.len s2.cap] 136)) (hlen:acc.length<=100000) :
  ∃(q':SV) (w6:World),(Builtin.append_ #[120,120] 120 #[.slice q.a q.len q.cap,.slice (some ⟨b,0,none⟩) 1 1]).run prog w5=.ok (.slice q'.a q'.len q'.cap) w6/\zZB w0 w6 q' (acc ++ [(k,((⟨r1.gone,s1⟩:zQx),(⟨r2.gone,s2⟩:zQx)))]) (chs ++ [(k,(r1,r2))])/\Fr (· ∈ zQb q) w5 w6:=by
 have aB:=hpa.trans hp
 have hql:=hq.row.len zXC (by decide)
 have z5:=hp.size
 have za:=hpa.size
 have lt1:∀b ∈ zQb s1,b<wa.heap.size:=hV1.1.lt
 have lt2:∀b ∈ zQb s2,b<w5.heap.size:=hV2.1.lt
 have hqlt:∀b ∈ zQb q,b<w1.heap.size:=hq.row.lt
 have hvlt:∀b ∈ vB (chH acc),b<w1.heap.size:=hq.recs.lt
 obtain⟨q',w6,hra,iE,bb,dM,_⟩:=zQ6 (P:=prog) (ty:=120) bu120 yX4 rfl (by omega) (hq.row.pu aB) (A:=some ⟨b,0,none⟩) (m:=1) (c:=1) (news:=chC (k,((⟨r1.gone,s1⟩:zQx),(⟨r2.gone,s2⟩:zQx)))) rfl (λj y hy=>⟨_,rfl,by rw[cl aP];simpa using hy⟩) (λy hy=>by simp at hy;rcases hy with rfl|rfl|rfl|rfl|rfl <;> rfl) (by show(q.len+1) * (72+1)<=_;omega)
 have eH:chH (acc ++ [(k,((⟨r1.gone,s1⟩:zQx),(⟨r2.gone,s2⟩:zQx)))])=chH acc ++ [⟨r1.gone,s1⟩,⟨r2.gone,s2⟩]:=by simp[chH]
 have eV:vB (chH acc ++ [(⟨r1.gone,s1⟩:zQx),⟨r2.gone,s2⟩])=vB (chH acc) ++ (zQb s1 ++ zQb s2):=by simp[vB]
 have eR:yXG (chs ++ [(k,(r1,r2))])=yXG chs ++ [r1,r2]:=by simp[yXG]
 refine⟨q',w6,hra,⟨?_,λb hb=>?_,?_,?_,λb hb=>?_,?_⟩,bb⟩
 ·rw[List.flatMap_append,List.flatMap_singleton];exact iE
 ·rcases dM b hb with h1|h1
  ·exact hq.new b h1
  ·omega
 ·rw[List.map_append,List.map_append,hq.keys];rfl
 ·rw[eH,eR]
  refine zQK.append ((hq.recs.fr (Fr.pu aB:Fr (λ_=>False) w1 w5) λ_ _ h=>h).fr bb λb hb=>(hq.vnew b hb).2) ⟨⟨rfl,?_⟩,⟨rfl,?_⟩,trivial⟩
  ·exact(hV1.1.pu hp).fr bb λb hb hx=>by have:=hV1.2 b hb;have:=hqlt b hx;omega
  ·exact hV2.1.fr bb λb hb hx=>by have:=hV2.2 b hb;have:=hqlt b hx;omega
 ·rw[eH,eV,List.mem_append,List.mem_append]at hb
  have hq':∀b,b ∈ zQb q'->b ∈ zQb q∨w5.heap.size<=b:=dM
  rcases hb with hb|hb|hb
  ·have h1:=hq.vnew b hb
   refine⟨h1.1,λhx=>?_⟩
   rcases hq' b hx with h2|h2
   ·exact h1.2 h2
   ·have:=hvlt b hb;omega
  ·have h1:=hV1.2 b hb
   have h3:=lt1 b hb
   refine⟨by omega,λhx=>?_⟩
   rcases hq' b hx with h2|h2
   ·have:=hqlt b h2;omega
   ·omega
  ·have h1:=hV2.2 b hb
   have h3:=lt2 b hb
   refine⟨by omega,λhx=>?_⟩
   rcases hq' b hx with h2|h2
   ·have:=hqlt b h2;omega
   ·omega
 ·rw[eH,eV]
  refine List.nodup_append.2 ⟨hq.nd,List.nodup_append.2 ⟨zZT _,zZT _,λa ha b hb e=>?_⟩,λa ha b hb e=>?_⟩
  ·have:=lt1 a ha;have:=hV2.2 b hb;omega
  ·have:=hvlt a ha
   rcases List.mem_append.1 hb with hb|hb
   ·have:=hV1.2 b hb;omega
   ·have:=hV2.2 b hb;omega
structure zYo(w0:World)(d:zQs)(val:Nat->List Val)(i:Nat)(w:World)(E:zQs)(v:Nat->List Val):Prop where
 da:zQr w d val
 ea:zQr w E v
 pg:E.page=d.page
 fl:E.flds=d.flds
 rc:(zQa E v).recs=(zQa d val).recs
 lk:E.lk=d.lk
 us:∀u,u<i∨4<=u->(zQa E v).us u=(zQa d val).us u
 own:∀b,E.o b ≠ none->w0.heap.size<=b
 pu:Pu w0 w
def zWG(o:Nat->Option zXx)(S L:Nat)(d:zQs)(fs rs:SV)(hs:List zQx):zQs where
 sd:=true
 o:=o
 S:=S
 L:=L
 C _:=0
 page:=d.page
 flds:=d.flds
 fs:=fs
 rs:=rs
 rh:=hs
 mode u:=if u<4 then 0 else d.mode u
 at_ u:=if u<4 then 0 else d.at_ u
 asv _:=⟨none,0,0⟩
 ah _:=[]
 cs _:=⟨none,0,0⟩
 ch _:=[]
 lk:=d.lk
theorem zYo.start (h:zQr w d val) (hp:Pu w0 w) {f r:SV} {hs:List zQx} {S L:Nat} {l:List (Int × Int)}
  (hf:zQl w 38 4 f (d.flds.flatMap zKW)) (hfn:∀b ∈ zQb f,w0.heap.size<=b) (hN:zXb w0 w r hs (zQa d val).recs) (hL:zQ3 w zQM zQM L l) (hl:∀k,AL.get l k=(d.lk k).map (· + 1)) (nL:w0.heap.size<=L) (nS:w0.heap.size<=S)
  (hst:w.heap[S]?=some (.cells #[.int .i64 d.page,.slice f.a f.len f.cap,.slice r.a r.len r.cap,.int .i64 0,.int .i64 0,.slice none 0 0,.slice none 0 0,.int .i64 0,.int .i64 0,.slice none 0 0,.slice none 0 0,.int .i64 0,.int .i64 0,.slice none 0 0,.slice none 0 0,.int .i64 0,.int .i64 0,.slice none 0 0,.slice none 0 0,.map (some L)] 125)):∃E v,zYo w0 d val 0 w E v/\E.S=S:=by
 obtain⟨v',hv'⟩:∃v',v'=ext val hs (zQa d val).recs:=⟨_,rfl⟩
 obtain⟨o',ho'⟩:∃o':Nat->Option zXx,∀b,o' b=if b=S then some .S else if b=L then some .L else if b ∈ zQb f then some .F else if b ∈ zQb r then some .R else if b ∈ vB hs then some .V else none:=⟨_,λ_=>rfl⟩
 obtain⟨es,clk,hLo⟩:=zYc hL
 have nSL:¬L=S:=λe=>by rw[e,hst]at hLo;cases hLo
 have oS:o' S=some .S:=by rw[ho',if_pos rfl]
 have oL:o' L=some .L:=by rw[ho',if_neg nSL,if_pos rfl]
 have oF:∀b ∈ zQb f,o' b=some .F:=λb hb=>by
  obtain⟨c,hc⟩:=zXf hf hb
  rw[ho',if_neg (λe=>by rw[e,hst]at hc;cases hc),if_neg (λe=>by rw[e,hLo]at hc;cases hc),if_pos hb]
 have oR:∀b ∈ zQb r,o' b=some .R:=λb hb=>by
  obtain⟨c,hc⟩:=zXf hN.row hb
  rw[ho',if_neg (λe=>by rw[e,hst]at hc;cases hc),if_neg (λe=>by rw[e,hLo]at hc;cases hc),if_neg (λe=>by obtain⟨c2,gW⟩:=zXf hf e;rw[hc]at gW;cases gW),if_pos hb]
 have oV:∀b ∈ vB hs,o' b=some .V:=λb hb=>by
  obtain⟨c,hc⟩:=hN.recs.obj hb
  rw[ho',if_neg (λe=>by rw[e,hst]at hc;cases hc),if_neg (λe=>by rw[e,hLo]at hc;cases hc),if_neg (λe=>by obtain⟨c2,gW⟩:=zXf hf e;rw[hc]at gW;cases gW),if_neg (hN.vnew b hb).2,if_pos hb]
 have ltO:∀b,o' b ≠ none->w0.heap.size<=b/\b<w.heap.size:=λb ag=>by
  rw[ho']at ag
  by_cases e2:b=S
  ·rw[e2];exact⟨nS,zQy hst⟩
  rw[if_neg e2]at ag
  by_cases e3:b=L
  ·rw[e3];exact⟨nL,zQy hLo⟩
  rw[if_neg e3]at ag
  by_cases e4:b ∈ zQb f
  ·obtain⟨c,hc⟩:=zXf hf e4;exact⟨hfn b e4,zQy hc⟩
  rw[if_neg e4]at ag
  by_cases e5:b ∈ zQb r
  ·obtain⟨c,hc⟩:=zXf hN.row e5;exact⟨hN.new b e5,zQy hc⟩
  rw[if_neg e5]at ag
  by_cases e6:b ∈ vB hs
  ·obtain⟨c,hc⟩:=hN.recs.obj e6;exact⟨(hN.vnew b e6).1,zQy hc⟩
  rw[if_neg e6]at ag
  exact absurd rfl ag
 have eAll:zQX (zWG o' S L d f r hs)=hs:=by simp[zQX,uH,chH,zWG]
 refine⟨zWG o' S L d f r hs,v',⟨h,⟨hst,⟨hf,hN.row,λu hu=>zQl.nil _ _ _,λe=>(by cases e),λ_ u hu=>zQl.nil _ _ _,⟨l,hL,λk=>by rw[hl];rfl⟩,λx hx=>?_,λu hu=>⟨rfl,rfl⟩,by rw[eAll];exact hN.nd,oS,oL,λe=>(by cases e),λ_ u hu b hb=>by simp[zWG,zQb]at hb,oF,oR,λu hu b hb=>by simp[zWG,zQb]at hb,λb hb=>?_,λb hb=>(ltO b hb).2⟩,rfl⟩,rfl,rfl,?_,rfl,λu hu=>?_,λb hb=>(ltO b hb).1,hp⟩,rfl⟩
 ·rw[eAll]at hx;rw[hv'];exact ext_row hN.recs hN.nd hx
 ·rw[eAll]at hb;exact oV b hb
 ·show hs.map (toR v')=(zQa d val).recs
  rw[hv'];exact zK9 hN.recs hN.nd
 ·have hu:¬u<4:=by omega
  obtain⟨h1,h2⟩:=h.bd.low u (by omega)
  show zZ9 (zWG o' S L d f r hs) v' u=zZ9 d val u
  simp only[zZ9,zWG,if_neg hu,h1,h2];rfl
theorem zYo.step{i:Nat}(h:zYo w0 d val i w E v)(hi:i<4){q q2:SV}{hsA:List zQx}{acc:List Chg}
  (hf:Fr (·=E.S) w w') (hd:zQr w' d val) (hpu:Pu w0 w') (hst:w'.heap[E.S]?=some (.cells (zZ5 { E with mode:=λu=>if u=i then d.mode i else E.mode u,at_:=λu=>if u=i then d.at_ i else E.at_ u,cs:=λu=>if u=i then q2 else E.cs u,asv:=λu=>if u=i then q else E.asv u }) 125))
  (hq:zXb w w' q hsA ((zQa d val).us i).ap) (hc:zZB w w' q2 acc ((zQa d val).us i).ch) (hdis:∀b ∈ vB hsA,b ∉ vB (chH acc)) :
  ∃E' v',zYo w0 d val (i+1) w' E' v'/\E'.S=E.S:=by
 have z0:=h.pu.size
 have hlt:∀{b:Nat} {κ:zXx},E.o b=some κ->b<w.heap.size:=λ{b κ} e=>h.ea.bd.lt b (by rw[e];simp)
 obtain⟨v',hv'⟩:∃v',v'=ext (ext v hsA ((zQa d val).us i).ap) (chH acc) (yXG ((zQa d val).us i).ch):=⟨_,rfl⟩
 have jS:∀x ∈ zQX E,∀b ∈ zQb x.s,b<w.heap.size:=λx hx b hb=>hlt (h.ea.bd.oV b (zQN hx hb))
 have eold:∀x ∈ zQX E,hv v' x=hv v x:=λx hx=>by
  rw[hv',zJO λb hb' ag=>by have:=jS x hx b hb';have:=(hc.vnew b ag).1;omega,zJO λb hb' ag=>by have:=jS x hx b hb';have:=(hq.vnew b ag).1;omega]
 have hbv:=h.ea.bd.vals eold
 have eabs:zQa E v'=zQa E v:=zYm h.ea.bd.low eold
 have eA:∀x ∈ hsA,hv v' x=hv (ext v hsA ((zQa d val).us i).ap) x:=λx hx=>by
  rw[hv',zJO λb hb' ag=>hdis b (zQN hx hb') ag]
 have mA:hsA.map (toR v')=((zQa d val).us i).ap:=by
  refine Eq.trans (List.map_congr_left λx hx=>?_) (zK9 (v:=v) hq.recs hq.nd)
  rw[toR,toR,eA x hx]
 have mC:acc.map (toC v')=((zQa d val).us i).ch:=zYp hc.keys (by rw[hv'];exact zK9 hc.recs hc.nd)
 obtain⟨o',ho'⟩:∃o':Nat->Option zXx,∀b,o' b=if b<w.heap.size then E.o b else if b ∈ zQb q2 then some (.C i)else if b ∈ zQb q then some (.A i)else if b ∈ vB hsA∨b ∈ vB (chH acc)then some .V else none:=⟨_,λ_=>rfl⟩
 have up:∀{b:Nat} {κ:zXx},E.o b=some κ->o' b=some κ:=λ{b κ} e=>by rw[ho',if_pos (hlt e),e]
 have ob:∀b ∈ vB hsA,∃c,w'.heap[b]?=some (.cells c 28):=λb hb=>hq.recs.obj hb
 have oc:∀b ∈ vB (chH acc),∃c,w'.heap[b]?=some (.cells c 28):=λb hb=>hc.recs.obj hb
 have kV:∀b,b ∈ vB hsA∨b ∈ vB (chH acc)->o' b=some .V:=λb ag=>by
  obtain⟨c,gW⟩:∃c,w'.heap[b]?=some (.cells c 28):=ag.elim (ob b) (oc b)
  have hge:w.heap.size<=b:=ag.elim (λh=>(hq.vnew b h).1) (λh=>(hc.vnew b h).1)
  rw[ho',if_neg (by omega),if_neg (λe=>by obtain⟨c3,rg⟩:=zXf hc.row e;rw[gW]at rg;cases rg),if_neg (λe=>by obtain⟨c3,rg⟩:=zXf hq.row e;rw[gW]at rg;cases rg),if_pos ag]
 have kA:∀b ∈ zQb q,o' b=some (.A i):=λb ag=>by
  obtain⟨c,gW⟩:=zXf hq.row ag
  rw[ho',if_neg (by have:=hq.new b ag;omega),if_neg (λe=>by obtain⟨c3,rg⟩:=zXf hc.row e;rw[gW]at rg;cases rg),if_pos ag]
 have kC:∀b ∈ zQb q2,o' b=some (.C i):=λb ag=>by
  rw[ho',if_neg (by have:=hc.new b ag;omega),if_pos ag]
 have ltO:∀b,o' b ≠ none->w0.heap.size<=b/\b<w'.heap.size:=λb ag=>by
  rw[ho']at ag
  by_cases e1:b<w.heap.size
  ·rw[if_pos e1]at ag
   have:=hf.size
   exact⟨h.own b ag,by omega⟩
  ·refine⟨by omega,?_⟩
   rw[if_neg e1]at ag
   by_cases e2:b ∈ zQb q2
   ·obtain⟨c,hc⟩:=zXf hc.row e2;exact zQy hc
   ·rw[if_neg e2]at ag
    by_cases e3:b ∈ zQb q
    ·obtain⟨c,hc⟩:=zXf hq.row e3;exact zQy hc
    ·rw[if_neg e3]at ag
     by_cases e4:b ∈ vB hsA∨b ∈ vB (chH acc)
     ·obtain⟨c,hc⟩:∃c,w'.heap[b]?=some (.cells c 28):=e4.elim (ob b) (oc b)
      exact zQy hc
     ·rw[if_neg e4]at ag;exact absurd rfl ag
 have nB:∀{b:Nat} {κ:zXx},E.o b=some κ->κ ≠ .S->¬b=E.S:=λ{b κ} e hne e2=>by
  rw[e2,h.ea.bd.oS]at e;exact hne (Option.some.inj e).symm
 obtain⟨l,nf,uZ⟩:=hbv.lm
 have hbd:=hbv.genL hi (lk':=E.lk) (o':=o') (rs':=E.rs) (rh':=E.rh) (as':=q) (ah':=hsA) (cs':=q2) (ch':=acc) (C':=E.C i) hf
  ⟨l,nf.fr hf (nB h.ea.bd.oL (by simp)),uZ⟩ (up h.ea.bd.oL) (λb κ ag k0 k1 k2 k3 k4=>⟨nB ag k1,up ag⟩) (up h.ea.bd.oS)
  (h.ea.bd.rw_.fr hf λb ag=>nB (h.ea.bd.oR b ag) (by simp)) (λb ag=>up (h.ea.bd.oR b ag)) hq.row kA (λe=>absurd (h.ea.sd.symm.trans e) (by simp)) (λ_=>⟨hc.row,kC⟩)
  (λx hx=>by
   simp only[List.mem_append]at hx
   rcases hx with(hx|hx)|hx
   ·exact .inr ⟨by rw[hv'];exact ext_row hc.recs hc.nd hx,λb ag=>kV b (.inr (zQN hx ag))⟩
   ·exact .inr ⟨by rw[eA x hx];exact ext_row hq.recs hq.nd hx,λb ag=>kV b (.inl (zQN hx ag))⟩
   ·exact .inl ⟨x,zQJ hx,rfl⟩)
  (by
   have hoth:∀b ∈ vB (E.rh ++ (zXa E i).drop E.rh.length),b<w.heap.size:=λb ag=>by
    obtain⟨x,hx,aH⟩:=List.mem_flatMap.1 ag
    rcases List.mem_append.1 hx with hx|hx
    ·exact jS x (zQJ hx) b aH
    ·exact jS x (yQG hi hx) b aH
   have hnd:=(yXi hi).1 h.ea.bd.nd
   have e:zXa E i=E.rh ++ (zXa E i).drop E.rh.length:=by simp[zXa]
   rw[e,zQp]at hnd
   simp only[zKO]
   rw[zQp,zQp]
   refine List.nodup_append.2 ⟨List.nodup_append.2 ⟨hc.nd,hq.nd,λa ha b ag e=>hdis b ag (by rw[←e];exact ha)⟩,(List.nodup_append.1 hnd).2.1,λa ha b ag e=>?_⟩
   have h1:=hoth b ag
   rcases List.mem_append.1 ha with ha|ha
   ·have:=(hc.vnew a ha).1;omega
   ·have:=(hq.vnew a ha).1;omega) (λb ag=>(ltO b ag).2)
 obtain⟨E',hE'⟩:∃E',E'={ E.gen i o' E.rs E.rh q hsA q2 acc (E.C i)with mode:=λu=>if u=i then d.mode i else E.mode u,at_:=λu=>if u=i then d.at_ i else E.at_ u }:=⟨_,rfl⟩
 have eU:∀u,zZ9 E' v' u=if u=i then(zQa d val).us i else(zQa E v').us u:=λu=>by
  rw[hE']
  by_cases e:u=i
  ·subst e
   rw[if_pos rfl]
   simp only[zZ9,zQs.gen,if_pos,mA,mC]
   rfl
  ·rw[if_neg e]
   simp only[zZ9,zQs.gen,if_neg e]
   rfl
 refine⟨E',v',⟨hd,⟨by rw[hE'];exact hst,by rw[hE'];exact hbd.same _ _,by rw[hE'];exact h.ea.sd⟩,by rw[hE'];exact h.pg,by rw[hE'];exact h.fl,?_,by rw[hE'];exact h.lk,λu hu=>?_,λb ag=>?_,hpu⟩,by rw[hE'];rfl⟩
 ·have e1:(zQa E' v').recs=(zQa E v').recs:=by rw[hE'];rfl
  rw[e1,eabs];exact h.rc
 ·show zZ9 E' v' u=_
  rw[eU]
  by_cases e:u=i
  ·rw[if_pos e,e]
  ·rw[if_neg e,eabs];exact h.us u (by omega)
 ·rw[hE']at ag;exact(ltO b ag).1
theorem zYo.eqv(h:zYo w0 d val 4 w E v):zQa E v=zQa d val:=by
 have h1:=h.rc
 have h2:(zQa E v).us=(zQa d val).us:=funext λu=>h.us u (by omega)
 have h3:=h.pg;have h4:=h.fl;have h5:=h.lk
 simp only[zQa]at h1 h2 ⊢
 rw[h1,h2,h3,h4,h5]
end Go.Proofs.YtcihcbfcgjepfaaGreatDoor
/- Desks: the reference's copy of a desk, from its start to its end. No condition but those stated. -/
namespace Go.Proofs.YtcihcbfcgjepfaaGreatDoor
open Go.Sh Go.RowKit Tryz
variable {w w' w0 : World} {d d' E : zQs} {val v : Nat -> List Val}
theorem xJF {l:List Chg} {i:Nat} {c:Chg} (h:l[i]?=some c):(l.map (toC val))[i]?=some (c.1,(toR val c.2.1,toR val c.2.2)):=by
 rw[List.getElem?_map,h];rfl
theorem rcCh {R:Rt} {J1:Int->World->Prop} {p0 p3:Option Addr} {n5:Int} {r6 r7:Nat} {m a:Int} {u:Nat} (h:zQr w d val) (hI:Inv (zQa d val)) (hu:u<4)
  (b6:w.heap[r6]?=some (.cells #[.int .i64 m,.int .i64 a,.slice (d.cs u).a (d.cs u).len (d.cs u).cap,.slice (d.asv u).a (d.asv u).len (d.asv u).cap] 122))
  (b7:w.heap[r7]?=some (.cells #[.int .i64 m,.int .i64 a,.slice none 0 0,.slice none 0 0] 122)) (n67:r6 ≠ r7) (o7:d.o r7=none)
  (hK:∀w' q acc,w'.heap[r7]?=some (.cells #[.int .i64 m,.int .i64 a,.slice q.a q.len q.cap,.slice none 0 0] 122)->zZB w w' q acc ((zQa d val).us u).ch->Fr (·=r7) w w'->yY6 R J1 p0 p3 n5 (some ⟨r6,0,none⟩) (some ⟨r7,0,none⟩) [] w') :
  xKi R J1 p0 p3 n5 (some ⟨r6,0,none⟩) (some ⟨r7,0,none⟩) 0 [] w:=by
 have l7:=zQy b7
 have hcl:=h.cs_len hu
 have uK:(d.ch u).length<=300:=hI.chl hu
 have f16:d.flds.length<=16:=hI.f16
 have eC:((zQa d val).us u).ch=(d.ch u).map (toC val):=rfl
 refine zQ1 (d.ch u).length (λk s w'=>s=(k:Int)/\∃q acc,w'.heap[r7]?=some (.cells #[.int .i64 m,.int .i64 a,.slice q.a q.len q.cap,.slice none 0 0] 122)/\zZB w w' q acc (((zQa d val).us u).ch.take k)/\Fr (·=r7) w w')
  ⟨rfl,⟨none,0,0⟩,[],b7,zZB.nil _ _,Fr.refl _ _⟩ ?_
 rintro k J s w1 hk ⟨hs,q,acc,c7,hq,hf⟩ hJ
 obtain rfl:s=(k:Int):=hs
 have c6:=hf.blk b6 n67
 have h1:zQr w1 d val:=h.fr hf λb hb e=>hb (by rw[show b=r7 from e];exact o7)
 show zQi (some (⟨r6,0,none⟩:Addr)) _
 rw[zQn]
 refine⟨d.cs u,cl c6 2,Br.of (λd1=>zQf λw2 aj _=>?_) (λd1=>?_)⟩
 ·have ak:k<(d.ch u).length:=by have:=zQm d1;omega
  obtain⟨c,hc⟩:=zXe ak
  have mc:=zXA hu (List.mem_of_getElem? hc)
  have h2:=h1.pu aj
  obtain⟨x,hx,hxl,g0,g1,g2,g3,g4⟩:=yXS (h2.cs_row hu) hc
  have e6:=aj.blk c6
  have e7:=aj.blk c7
  have r1:=h2.read hI mc.1
  have r2:=h2.read hI mc.2
  simp only[zQn]
  refine⟨λy=>Pu w2 y,Pu.refl _,q,λy hy=>cl (hy.blk e7) 2,d.cs u,λy hy=>cl (hy.blk e6) 2,x,hx,by omega,by omega,c.1,λy hy=>hy.cell (by rw[zQI];exact g0),?_⟩
  refine⟨d.cs u,λy hy=>cl (hy.blk e6) 2,x,hx,by omega,by omega,_,λy hy=>hy.cell (by rw[zQI];exact g1),c.2.1.s,λy hy=>hy.cell (by rw[zQI];exact g2),?_⟩
  refine⟨d.cs u,λy hy=>cl (hy.blk e6) 2,x,hx,by omega,by omega,_,λy hy=>hy.cell (by rw[zQI];exact g3),c.2.2.s,λy hy=>hy.cell (by rw[zQI];exact g4),?_⟩
  refine(zZo r1.1 (by rw[r1.2];omega)).mono ?_
  rintro e w3 ⟨s1,rfl,n1,am⟩
  refine⟨_,s1,rfl,am,(zZo (r2.1.pu am) (by rw[r2.2];omega)).mono ?_⟩
  rintro e w4 ⟨s2,rfl,n2,ar⟩
  refine⟨_,s2,rfl,am.trans ar,alB λw5 aB aP=>⟨(am.trans ar).trans aB,?_⟩⟩
  have hal:acc.length<=300:=by
   have e1:=congrArg List.length hq.keys
   rw[List.length_map,List.length_map,eC]at e1
   have:=List.length_take_le k ((d.ch u).map (toC val))
   omega
  have z2:=aj.size
  have n1':zZ8 w1 w3 s1 (toR val c.2.1).v:=n1.low z2
  obtain⟨q',w6,hra,qg,bb⟩:=hq.push (k:=c.1) (r1:=toR val c.2.1) (r2:=toR val c.2.2) (aj.trans am) (ar.trans aB) hf.size n1' (n2.pu aB) aP (by omega)
  refine⟨q',w6,hra,?_⟩
  have aT:=(aj.trans am).trans (ar.trans aB)
  have nq:¬r7 ∈ zQb q:=λe=>by have:=hq.new _ e;omega
  rw[zQc]
  refine zQt (bb.blk (aT.blk c7) nq) (by show 0+2<4;omega) λw7 uG bQ=>?_
  have dg:Fr (·=r7) w6 w7:=by rw[uG];exact Fr.cell w6 _ _ _
  rw[zQd (by omega) (by omega)]
  refine hJ _ _ ak ⟨by omega,q',acc ++ [(c.1,((⟨(toR val c.2.1).gone,s1⟩:zQx),(⟨(toR val c.2.2).gone,s2⟩:zQx)))],bQ,?_,((hf.trans (Fr.pu aT:Fr (·=r7) w1 w5) λi hi _=>hi).trans bb λi hi hlt=>?_).trans dg λi hi _=>hi⟩
  ·rw[eC,zQP (xJF hc),←eC]
   exact qg.fr dg λb hb _ e=>by have e:b=r7:=e;omega
  ·have:=hq.new i hi;omega
 ·have ak:k=(d.ch u).length:=by have:=zQh d1;omega
  subst ak
  rw[List.take_of_length_le (by rw[eC,List.length_map];omega)]at hq
  exact hK w1 q acc c7 hq hf
theorem rcAp {R:Rt} {J1:Int->World->Prop} {p0 p3:Option Addr} {n5:Int} {r6 r7:Nat} {m a:Int} {q2 s6:SV} {u:Nat} (h:zQr w d val) (hI:Inv (zQa d val)) (hu:u<4)
  (b6:w.heap[r6]?=some (.cells #[.int .i64 m,.int .i64 a,.slice s6.a s6.len s6.cap,.slice (d.asv u).a (d.asv u).len (d.asv u).cap] 122))
  (b7:w.heap[r7]?=some (.cells #[.int .i64 m,.int .i64 a,.slice q2.a q2.len q2.cap,.slice none 0 0] 122)) (n67:r6 ≠ r7) (o7:d.o r7=none)
  (hK:∀w' q hs,w'.heap[r7]?=some (.cells #[.int .i64 m,.int .i64 a,.slice q2.a q2.len q2.cap,.slice q.a q.len q.cap] 122)->zXb w w' q hs ((zQa d val).us u).ap->Fr (·=r7) w w'->xJp R J1 p0 p3 n5 (some ⟨r7,0,none⟩) [] w') :
  yY6 R J1 p0 p3 n5 (some ⟨r6,0,none⟩) (some ⟨r7,0,none⟩) [] w:=by
 have l7:=zQy b7
 have hal:=h.as_len hu
 have uK:(d.ah u).length<=300:=hI.ah hu
 have f16:d.flds.length<=16:=hI.f16
 have eA:((zQa d val).us u).ap.length=(d.ah u).length:=zXr
 have hlen:∀x ∈ d.ah u,(hv val x).length<=1000000:=λx hx=>by have:=(h.read hI (zXj hu hx)).2;omega
 refine zQ1 (d.ah u).length (λk s w'=>s=(k:Int)/\∃q hs,w'.heap[r7]?=some (.cells #[.int .i64 m,.int .i64 a,.slice q2.a q2.len q2.cap,.slice q.a q.len q.cap] 122)/\zXb w w' q hs (((zQa d val).us u).ap.take k)/\Fr (·=r7) w w')
  ⟨rfl,⟨none,0,0⟩,[],b7,⟨zQl.nil _ _ _,by simp[zQb],trivial,by simp[vB],by simp[vB]⟩,Fr.refl _ _⟩ ?_
 rintro k J s w1 hk ⟨hs,q,iJ,c7,hq,hf⟩ hJ
 obtain rfl:s=(k:Int):=hs
 have c6:=hf.blk b6 n67
 have h1:zQr w1 d val:=h.fr hf λb hb e=>hb (by rw[show b=r7 from e];exact o7)
 have htl:=List.length_take_le k ((zQa d val).us u).ap
 show zQi (some (⟨r6,0,none⟩:Addr)) _
 rw[zQn]
 refine⟨d.asv u,cl c6 3,Br.of (λd1=>zQf λw2 aj _=>?_) (λd1=>?_)⟩
 ·have ak:k<(d.ah u).length:=by have:=zQm d1;omega
  obtain⟨x,hx⟩:=zXe (l:=((zQa d val).us u).ap) (k:=k) (by omega)
  have h2:=h1.pu aj
  obtain⟨y0,s0,ha,g0,g1,hV⟩:=(h2.bd.rdA hu hlen).get k x hx
  have hvl:x.v.length<=1000000:=by have:=zQ2 (hI.ga u hu x (List.mem_of_getElem? hx));have e:(zQa d val).flds.length=d.flds.length:=rfl;omega
  have e6:=aj.blk c6
  have e7:=aj.blk c7
  simp only[zQn]
  refine⟨λy=>Pu w2 y,Pu.refl _,q,λy hy=>cl (hy.blk e7) 3,d.asv u,λy hy=>cl (hy.blk e6) 3,y0,ha,by omega,by omega,x.gone,λy hy=>hy.cell (by rw[zQI];exact g0),s0,λy hy=>hy.cell (by rw[zQI];exact g1),(zZo hV hvl).mono ?_⟩
  rintro e w4 ⟨s',rfl,hs',ar⟩
  refine⟨_,s',rfl,ar,alB λw5 aB aP=>⟨ar.trans aB,?_⟩⟩
  have aT:=(aj.trans ar).trans aB
  obtain⟨q',w6,hra,qg,bb⟩:=hq.push aT hf.size ((hs'.pu aB).low aj.size) aP (by omega)
  refine⟨q',w6,hra,?_⟩
  have nq:¬r7 ∈ zQb q:=λe=>by have:=hq.new _ e;omega
  rw[zQc]
  refine zQt (bb.blk (aT.blk c7) nq) (by show 0+3<4;omega) λw7 uG bQ=>?_
  have dg:Fr (·=r7) w6 w7:=by rw[uG];exact Fr.cell w6 _ _ _
  rw[zQd (by omega) (by omega)]
  refine hJ _ _ ak ⟨by omega,q',iJ ++ [⟨x.gone,s'⟩],bQ,?_,((hf.trans (Fr.pu aT:Fr (·=r7) w1 w5) λi hi _=>hi).trans bb λi hi hlt=>?_).trans dg λi hi _=>hi⟩
  ·rw[zQP hx]
   exact qg.fr dg λb hb e=>by have e:b=r7:=e;omega
  ·have:=hq.new i hi;omega
 ·have ak:k=(d.ah u).length:=by have:=zQh d1;omega
  subst ak
  rw[List.take_of_length_le (by omega)]at hq
  exact hK w1 q iJ c7 hq hf
theorem rcLk {R:Rt} {S L:Nat} {l:List (Int × Int)} {c:Array Value} {e:TypeId} (h:zQr w d val) (hI:Inv (zQa d val)) (hl:zQ3 w zQM zQM d.L l) (hlk:∀k,AL.get l k=(d.lk k).map (· + 1)) (hm:zQ3 w zQM zQM L ([]:List (Int × Int))) (oL:d.o L=none)
  (hS:w.heap[S]?=some (.cells c e)) (hc:c[19]?=some (.map (some L)))
  (hK:∀w' l',zQ3 w' zQM zQM L l'->(∀k,AL.get l' k=(d.lk k).map (· + 1))->Fr (·=L) w w'->yWV R (some ⟨d.S,0,none⟩) (some ⟨S,0,none⟩) [] w'):yVW R (some ⟨d.S,0,none⟩) (some ⟨S,0,none⟩) 1 [] w:=by
 have hrl:=h.rs_len
 have uK:d.rh.length<=300:=hI.rh
 have lL:=hm.lt
 have nSL:¬S=L:=λe=>by obtain⟨es,clk,h1⟩:=zYc hm;rw[←e,hS]at h1;cases h1
 have ndL:¬d.L=L:=λe=>by rw[←e,h.bd.oL]at oL;cases oL
 refine zQ1 d.rh.length (λk s w'=>s=(k:Int)+1/\∃l',zQ3 w' zQM zQM L l'/\(∀x,AL.get l' x=if 1<=x/\x<=(k:Int)then AL.get l x else none)/\Fr (·=L) w w') ⟨rfl,[],hm,λx=>by rw[if_neg (by omega)];rfl,Fr.refl _ _⟩ ?_
 rintro k J s w1 hk ⟨hs,l',hl',hg,hf⟩ hJ
 obtain rfl:s=(k:Int)+1:=hs
 have h1:zQr w1 d val:=h.fr hf λb hb e=>hb (by rw[show b=L from e];exact oL)
 have nf:=hl.fr hf ndL
 have hS1:=hf.blk hS nSL
 show zQi (some (⟨d.S,0,none⟩:Addr)) _
 rw[zQn]
 refine⟨d.rs,h1.recs,Br.of (λd1=>?_) (λd1=>?_)⟩
 ·have ak:k<d.rh.length:=by have:=zQm d1;omega
  rw[zQn]
  refine⟨some d.L,h1.locks,_,w1,zZ0 nf _,?_⟩
  rw[zQd (by omega) (by omega)]
  refine Br.of (λd2=>zQf λw2 aj _=>?_) (λd2=>?_)
  ·have d2:=zQ4 d2
   have h2:=h1.pu aj
   have uZ:=nf.pu aj
   simp only[zQn]
   refine⟨some L,by rw[zQc,zQq (aj.blk hS1)];exact hc,some d.L,h2.locks,_,zZ0 uZ _,?_⟩
   obtain⟨w3,hrun,hm3,bP,pL⟩:=(hl'.pu aj).upd (P:=prog) zWJ yYh ((k:Int)+1) ((AL.get l ((k:Int)+1)).getD 0)
   refine⟨w3,hrun,hJ _ _ ak ⟨by omega,_,hm3,λx=>?_,(hf.trans (Fr.pu aj:Fr (·=L) w1 w2) λi hi _=>hi).trans bP λi hi _=>hi⟩⟩
   rw[AL.get_put,hg]
   by_cases e:(k:Int)+1=x
   ·subst e
    rw[if_pos rfl,if_pos (by omega)]
    cases e2:AL.get l ((k:Int)+1)with
    | none=>rw[e2]at d2;exact absurd rfl d2
    | some v=>rfl
   ·rw[if_neg e]
    by_cases e2:1<=x/\x<=(k:Int)
    ·rw[if_pos e2,if_pos (by omega)]
    ·rw[if_neg e2,if_neg (by omega)]
  ·have d2:=zQu d2
   refine hJ _ _ ak ⟨by omega,l',hl',λx=>?_,hf⟩
   rw[hg]
   by_cases e:(k:Int)+1=x
   ·subst e
    rw[if_neg (by omega),if_pos (by omega)]
    rw[hlk]at d2 ⊢
    cases e2:d.lk ((k:Int)+1)with
    | none=>rfl
    | some v=>
     rw[e2]at d2
     have:=hI.lr ((k:Int)+1) v e2
     have d2:v+1=0:=d2
     omega
   ·by_cases e2:1<=x/\x<=(k:Int)
    ·rw[if_pos e2,if_pos (by omega)]
    ·rw[if_neg e2,if_neg (by omega)]
 ·have ak:k=d.rh.length:=by have:=zQh d1;omega
  subst ak
  refine hK w1 l' hl' (λx=>?_) hf
  rw[hg,hlk]
  by_cases e:1<=x/\x<=(d.rh.length:Int)
  ·rw[if_pos e]
  ·rw[if_neg e]
   cases e2:d.lk x with
   | none=>rfl
   | some v=>
    have h3:=hI.lr x v e2
    have h4:(zQa d val).recs.length=d.rh.length:=by simp[zQa]
    omega
theorem xKg (h:zQr w d val) (hI:Inv (zQa d val)):Calls prog 34 #[d.ptr] w λe w'=>∃c v,e=.returned (zQs.ptr c)/\zQr w' c v/\zQa c v=zQa d val/\(∀b,c.o b ≠ none->w.heap.size<=b)/\Pu w w':=by
 have jM:=hI.r300
 have dA:d.flds.length<=16:=hI.f16
 have hvr:∀r ∈ (zQa d val).recs,r.v.length<=1000000:=λr hr=>by have h1:=zQ2 (hI.gr r hr);have e:(zQa d val).flds.length=d.flds.length:=rfl;omega
 refine yWr _ w _ ?_
 show zQi (some (⟨d.S,0,none⟩:Addr)) _
 rw[zQn]
 refine⟨d.page,by rw[zKk];exact h.page,d.fs,h.flds,d.rs,h.recs,(zVY (t:=(zQa d val).tbl) (h.fld hI.vf) (h.rdR hI) (by show d.flds.length<=_;omega) (by show(zQa d val).recs.length<=_;omega) hvr).mono ?_⟩
 rintro e w1 ⟨f,r,hs,rfl,hfr,hfn,hN,al⟩
 refine⟨_,f,r,rfl,zXz λw2 qX=>alB λw3 am aH=>?_⟩
 have aj:Pu w1 w2:=by rw[qX];exact Pu.alloc w1 _
 have s2:w2.heap.size=w1.heap.size+1:=by rw[qX];simp
 have hm2:zQ3 w2 zQM zQM w1.heap.size ([]:List (Int × Int)):=by rw[qX];exact zQ3.new w1 _ _
 have aF:=(al.trans aj).trans am
 have z1:=al.size
 have z3:=am.size
 have h3:=h.pu aF
 have oN:∀{b:Nat},w.heap.size<=b->d.o b=none:=λ{b} hb=>by
  cases e:d.o b with
  | none=>rfl
  | some κ=>have:=h.bd.lt b (by rw[e];simp);omega
 obtain⟨l,hl,hlk⟩:=h3.lm
 refine rcLk h3 hI hl hlk (hm2.pu am) (oN (by omega)) aH rfl λw4 l' hl' hlk' bp=>?_
 have c8:Pu w w4:=aF.andNew bp λi hi=>by rw[show i=w1.heap.size from hi];omega
 have nL4:∀{b:Nat},b<w1.heap.size->¬b=w1.heap.size:=λ{b} hb e=>by omega
 have aQ:=aj.trans am
 obtain⟨E0,v0,hC0,eS0⟩:=zYo.start (w0:=w) (h.pu c8) c8 (S:=w2.heap.size) (L:=w1.heap.size) ((hfr.pu aQ).fr bp λb hb=>nL4 (hfr.lt b hb)) hfn
  ⟨(hN.row.pu aQ).fr bp λb hb=>nL4 (hN.row.lt b hb),hN.new,(hN.recs.fr (Fr.pu aQ:Fr (λ_=>False) w1 w3) λ_ _ h=>h).fr bp λb hb=>nL4 (hN.recs.lt b hb),hN.vnew,hN.nd⟩ hl' hlk' (by omega) (by omega) (bp.blk aH (by omega))
 refine zQ1 4 (λk t' w'=>t'=(k:Int)/\∃E v,zYo w d val k w' E v/\E.S=w2.heap.size) ⟨rfl,E0,v0,hC0,eS0⟩ ?_
 rintro k J t' w5 hk ⟨ht,E,v,hC,eS⟩ hJ
 obtain rfl:t'=(k:Int):=ht
 refine Br.of (λd1=>?_) (λd1=>?_)
 ·have ak:k<4:=by have:=zQm d1;omega
  have h5:=hC.da
  show zQi (some (⟨d.S,0,none⟩:Addr)) _
  rw[zQn]
  refine⟨(u4 ak).1,(u4 ak).2,d.mode k,by rw[zKk];exact h5.uMode ak,d.at_ k,h5.uAt ak,d.cs k,h5.uCs ak,d.asv k,h5.uAp ak,alB λw6 bx dx=>zQj dx yQj.symm rfl rfl λw7 bQ dg _=>?_⟩
  refine⟨_,cl0 bQ,_,cl bQ 1,alB λw8 aV dz=>zQj dz yQj.symm rfl rfl λw9 kR jX s9=>?_⟩
  have lS:E.S<w5.heap.size:=zQy hC.ea.st
  have l6:w5.heap.size<w6.heap.size:=zQy dx
  have s7:=dg.size
  have l8:w7.heap.size<w8.heap.size:=zQy dz
  have z0:=hC.pu.size
  have dr:Pu w5 w7:=bx.andNew dg λi hi=>by rw[show i=w5.heap.size from hi];exact Nat.le_refl _
  have hp79:Pu w7 w9:=aV.andNew jX λi hi=>by rw[show i=w7.heap.size from hi];exact Nat.le_refl _
  have hp59:=dr.trans hp79
  have h9:=h5.pu hp59
  refine rcCh (m:=d.mode k) (a:=d.at_ k) h9 hI ak (hp79.blk bQ) kR (by omega) (oN (by omega)) λau q2 acc c10 hq2 dy=>?_
  have pN:zQr au d val:=h9.fr dy λb hb e=>hb (by rw[show b=w7.heap.size from e];exact oN (by omega))
  refine rcAp (m:=d.mode k) (a:=d.at_ k) (s6:=d.cs k) pN hI ak (dy.blk (hp79.blk bQ) (by omega)) c10 (by omega) (oN (by omega)) λav q hsA c11 hq c9=>zQf λao cV _=>?_
  have c12:=cV.blk c11
  have s10:=dy.size
  have s11:=c9.size
  have u3:=cV.size
  have hq2l:∀b,w9.heap.size<=b->b<au.heap.size->¬b=w7.heap.size:=λb hb _ e=>by omega
  have hq2':zZB w9 ao q2 acc ((zQa d val).us k).ch:=(hq2.fr c9 hq2l).fr (Fr.pu cV:Fr (λ_=>False) av ao) λ_ _ _ h=>h
  have hq':=hq.pu cV
  have hp512:Pu w5 ao:=((hp59.andNew dy λi hi=>by rw[show i=w7.heap.size from hi];omega).andNew c9 λi hi=>by rw[show i=w7.heap.size from hi];omega).trans cV
  have hst12:=hp512.blk hC.ea.st
  simp only[zQn]
  refine⟨_,by rw[zKk];exact cl0 c12,_,cl c12 1,q2,cl c12 2,q,cl c12 3,(u4 ak).1,(u4 ak).2,yQj.symm,rfl,?_⟩
  rw[←show(⟨E.S,0,none⟩:Addr)=⟨w2.heap.size,0,none⟩by rw[eS],zJa]
  show st1 (⟨E.S,3+k * 4,none⟩:Addr) (.int .i64 (d.mode k)) ao λw2=>st1 ((⟨E.S,3+k * 4,none⟩:Addr).add 1) (.int .i64 (d.at_ k)) w2 λw3=>st1 ((⟨E.S,3+k * 4,none⟩:Addr).add 2) (.slice q2.a q2.len q2.cap) w3 λw4=>st1 ((⟨E.S,3+k * 4,none⟩:Addr).add 3) (.slice q.a q.len q.cap) w4 _
  refine zQt hst12 (by show 3+k * 4<20;omega) λaE m9 jR=>?_
  rw[zWV ak]at jR
  rw[zQc]
  refine zQt jR (by show 3+k * 4+1<20;omega) λaI hw14 gH=>?_
  rw[zJM ak]at gH
  rw[zQc]
  refine zQt gH (by show 3+k * 4+2<20;omega) λaD hw15 pz=>?_
  rw[zYj ak]at pz
  rw[zQc]
  refine zQt pz (by show 3+k * 4+3<20;omega) λaU uP rN=>?_
  rw[zY1 ak]at rN
  have dA:Fr (·=E.S) ao aU:=(((show Fr (·=E.S) ao aE by rw[m9];exact Fr.cell ao _ _ _).trans (show Fr (·=E.S) aE aI by rw[hw14];exact Fr.cell aE _ _ _) λi hi _=>hi).trans (show Fr (·=E.S) aI aD by rw[hw15];exact Fr.cell aI _ _ _) λi hi _=>hi).trans (show Fr (·=E.S) aD aU by rw[uP];exact Fr.cell aD _ _ _) λi hi _=>hi
  have nES:∀{b:Nat},w5.heap.size<=b->¬b=E.S:=λ{b} hb e=>by omega
  have uX:Fr (·=E.S) w5 aU:=(Fr.pu hp512:Fr (·=E.S) w5 ao).trans dA λi hi _=>hi
  have gE:w.heap.size<=E.S:=hC.own E.S (by rw[hC.ea.bd.oS];simp)
  have oE:d.o E.S=none:=oN gE
  have z59:=hp59.size
  have rS:=hq'.fr dA λb hb=>nES (by omega)
  have m7:=hq2'.fr dA λb hb _=>nES (by omega)
  have ltc:∀b ∈ vB (chH acc),b<au.heap.size:=hq2.recs.lt
  obtain⟨E',v',hC',eS'⟩:=hC.step ak uX (h5.fr uX λb hb e=>hb (by rw[show b=E.S from e];exact oE)) (hC.pu.andNew uX λi hi=>by rw[show i=E.S from hi];exact gE) rN
   ⟨rS.row,λb hb=>by have:=rS.new b hb;omega,rS.recs,λb hb=>⟨by have:=(rS.vnew b hb).1;omega,(rS.vnew b hb).2⟩,rS.nd⟩
   ⟨m7.row,λb hb=>by have:=m7.new b hb;omega,m7.keys,m7.recs,λb hb=>⟨by have:=(m7.vnew b hb).1;omega,(m7.vnew b hb).2⟩,m7.nd⟩
   (λb hb ag=>by have:=(hq.vnew b hb).1;have:=ltc b ag;omega)
  show J (IntKind.i64.wrap ((k:Int)+1)) aU
  rw[zQd (by omega) (by omega)]
  exact hJ _ _ ak ⟨by omega,E',v',hC',eS'.trans eS⟩
 ·have ak:k=4:=by have:=zQh d1;omega
  subst ak
  exact⟨E,v,by rw[zQs.ptr,eS],hC.ea,hC.eqv,hC.own,hC.pu⟩
end Go.Proofs.YtcihcbfcgjepfaaGreatDoor
/- Desks: records, rows of records and maps held against each other. No condition but those stated. -/
namespace Go.Proofs.YtcihcbfcgjepfaaGreatDoor
open Go.Sh Go.RowKit Tryz
variable {w w' : World} {d c : zQs} {val v : Nat -> List Val}
def EqM {α β:Type} (E:α->β->Prop) (l0:List (Int × α)) (l1:List (Int × β)):Prop:=l0.length=l1.length/\∀q ∈ l0,∃v,AL.get l1 q.1=some v/\E q.2 v
theorem EqM.not {α β:Type} {E:α->β->Prop} {l0:List (Int × α)} {l1:List (Int × β)} {q:Int × α} (hq:q ∈ l0) (h:∀v,AL.get l1 q.1=some v->¬E q.2 v):¬EqM E l0 l1:=λhE=>by
 obtain⟨v,h1,h2⟩:=hE.2 q hq
 exact h v h1 h2
theorem xJr {α:Type} {l:List (Int × α)} {q:Int × α} {k:Int} (hq:q ∈ l) (hk:q.1 ≠ k):q ∈ AL.del l k:=by
 induction l with
 | nil=>cases hq
 | cons a l ih=>
  obtain⟨x,y⟩:=a
  simp only[AL.del]
  rcases List.mem_cons.1 hq with rfl|hq
  ·rw[if_neg hk];simp
  ·split
   ·exact hq
   ·exact List.mem_cons_of_mem _ (ih hq)
structure xQq {α:Type} (l todo:List (Int × α)) (G:Int × α->Prop):Prop where
 sub:∀q ∈ todo,q ∈ l
 ok:∀q ∈ l,q ∈ todo∨G q
theorem xQq.start {α:Type} (l:List (Int × α)) (G:Int × α->Prop):xQq l l G:=⟨λq h=>h,λq h=>.inl h⟩
theorem xQq.next {α:Type} {l todo:List (Int × α)} {G:Int × α->Prop} (h:xQq l todo G) (hl:(l.map Prod.fst).Nodup) {p:Int × α} (hp:p ∈ todo) (hG:G p):xQq l (AL.del todo p.1) G:=by
 refine⟨λq hq=>h.sub q ?_,λq hq=>?_⟩
 ·revert hq
  generalize todo=t
  induction t with
  | nil=>intro h;exact h
  | cons a t ih=>
   obtain⟨x,y⟩:=a
   simp only[AL.del]
   split
   ·exact λh=>List.mem_cons_of_mem _ h
   ·intro h
    rcases List.mem_cons.1 h with rfl|h
    ·simp
    ·exact List.mem_cons_of_mem _ (ih h)
 ·by_cases e:q.1=p.1
  ·have:q=p:=by
    have h1:=AL.get_of_mem hl (k:=q.1) (v:=q.2) hq
    have h2:=AL.get_of_mem hl (k:=p.1) (v:=p.2) (h.sub p hp)
    rw[e,h2]at h1
    obtain⟨a,b⟩:=q;obtain⟨c,d⟩:=p
    simp only at e h1
    subst e;simp at h1;rw[h1]
   rw[this];exact .inr hG
  ·rcases h.ok q hq with h1|h1
   ·exact .inl (xJr h1 e)
   ·exact .inr h1
theorem yQ6 {α β γ:Type} {f:α->γ} {g:β->γ} {l0:List (Int × α)} {l1:List (Int × β)} (n0:(l0.map Prod.fst).Nodup) (n1:(l1.map Prod.fst).Nodup) :
  EqM (λx y=>f x=g y) l0 l1 ↔ (∀k,(AL.get l0 k).map f=(AL.get l1 k).map g)/\l0.length=l1.length:=by
 constructor
 ·rintro⟨h1,h2⟩
  have sub:∀k ∈ l0.map Prod.fst,k ∈ l1.map Prod.fst:=λk hk=>by
   obtain⟨q,hq,rfl⟩:=List.mem_map.1 hk
   obtain⟨v,hv,_⟩:=h2 q hq
   exact List.mem_map.2 ⟨_,AL.get_mem hv,rfl⟩
  refine⟨λk=>?_,h1⟩
  cases e:AL.get l0 k with
  | some x=>
   obtain⟨v,hv,hE⟩:=h2 (k,x) (AL.get_mem e)
   rw[show AL.get l1 k=some v from hv]
   simp only[Option.map_some];rw[hE]
  | none=>
   cases e1:AL.get l1 k with
   | none=>rfl
   | some y=>
    have k0:k ∉ l0.map Prod.fst:=AL.get_none.1 e
    have k1:k ∈ l1.map Prod.fst:=List.mem_map.2 ⟨_,AL.get_mem e1,rfl⟩
    have h3:=List.Nodup.length_le_of_subset (List.nodup_cons.2 ⟨k0,n0⟩) (λx hx=>by
     rcases List.mem_cons.1 hx with rfl|hx
     ·exact k1
     ·exact sub x hx:(k :: l0.map Prod.fst) ⊆ l1.map Prod.fst)
    simp only[List.length_cons,List.length_map]at h3
    omega
 ·rintro⟨h1,h2⟩
  refine⟨h2,λq hq=>?_⟩
  have h3:=h1 q.1
  rw[AL.get_of_mem n0 (k:=q.1) (v:=q.2) hq]at h3
  cases e1:AL.get l1 q.1 with
  | none=>rw[e1]at h3;cases h3
  | some y=>rw[e1]at h3;exact⟨y,rfl,Option.some.inj h3⟩
theorem zWL{g1 g2:Bool}{s t:SV}{a b:List Val}(ha:RdV w s a)(hb:RdV w t b):Calls prog 133 #[.agg #[.bool g1,.slice s.a s.len s.cap],.agg #[.bool g2,.slice t.a t.len t.cap]] w λe w'=>e=.returned (.bool (decide (g1=g2/\a=b)))/\Pu w w':=by
 refine yJI _ _ _ _ w _ (alB λw1 al ay=>alB λw2 aj ag=>?_)
 have hp:=al.trans aj
 have kJ:=aj.blk ay
 refine⟨_,cl0 kJ,_,cl0 ag,Br.of (λe=>⟨s,cl kJ 1,t,cl ag 1,(yXE (ha.pu hp) (hb.pu hp)).mono ?_⟩) (λe=>⟨?_,hp⟩)⟩
 ·have e:g1=g2:=by simpa using e
  rintro e2 w3 ⟨rfl,am⟩
  refine⟨_,rfl,?_,hp.trans am⟩
  congr 2
  exact zZy (by simp[e])
 ·have e:¬g1=g2:=by simpa using e
  rw[decide_eq_false λh=>e h.1]
theorem yYW{s t:SV}{a b:List Rec}(ha:zXQ w s a)(hb:zXQ w t b)(hl:a.length<=1000000):Calls prog 132 #[.slice s.a s.len s.cap,.slice t.a t.len t.cap,.func (.func 133) #[] #[]] w λe w'=>e=.returned (.bool (decide (a=b)))/\Pu w w':=by
 refine yZ1 _ _ _ w _ ?_
 have hla:=ha.len
 have hlb:=hb.len
 refine Br.of (λd=>⟨by rw[decide_eq_false (λe=>zQ4 d (by rw[hla,hlb,e]))],Pu.refl _⟩) (λd=>?_)
 have hab:a.length=b.length:=by have:=zQu d;omega
 refine zQ1 a.length (λk t w'=>t=(k:Int)/\a.take k=b.take k/\Pu w w') ⟨rfl,by simp,Pu.refl _⟩ ?_
 rintro k J t' w2 hk ⟨ht,he,hp⟩ hJ
 obtain rfl:t'=(k:Int):=ht
 refine Br.of (λd1=>?_) (λd1=>?_)
 ·have ak:k<a.length:=by have:=zQm d1;omega
  obtain⟨x,hx⟩:=zXe ak
  obtain⟨y,hy⟩:=zXe (show k<b.length by omega)
  obtain⟨p,sx,hpa,x0,x1,vx⟩:=(ha.pu hp).get k x hx
  refine⟨p,hpa,by omega,by omega,_,by rw[zQI];exact x0,sx,by rw[zQI];exact x1,alB λw3 am aH=>zQj aH yQk.symm rfl rfl λw4 aZ bp _=>?_⟩
  have ar:Pu w2 w4:=am.andNew bp λi hi=>by rw[show i=w2.heap.size from hi];exact Nat.le_refl _
  obtain⟨q,sy,hqa,y0,y1,vy⟩:=(hb.pu (hp.trans ar)).get k y hy
  refine⟨q,hqa,by omega,by omega,_,by rw[zQI];exact y0,sy,by rw[zQI];exact y1,alB λw6 bx dx=>zQj dx yQk.symm rfl rfl λw7 bQ dg _=>?_⟩
  have bU:Pu w4 w7:=bx.andNew dg λi hi=>by rw[show i=w4.heap.size from hi];exact Nat.le_refl _
  have hb4':=bU.blk aZ
  have hpa7:=(hp.trans ar).trans bU
  refine⟨_,cl hb4' 0,sx,cl hb4' 1,_,cl bQ 0,sy,cl bQ 1,by kernel_rfl,?_⟩
  refine Calls.mono (zWL (vx.pu (ar.trans bU)) (vy.pu bU)) ?_
  rintro e w8 ⟨rfl,aV⟩
  refine⟨_,rfl,Br.of (λd2=>?_) (λd2=>?_)⟩
  ·have d2:¬(x.gone=y.gone/\x.v=y.v):=λh=>by rw[decide_eq_true h]at d2;cases d2
   exact⟨by rw[decide_eq_false (zWu hx hy λe=>d2 (by rw[e];exact⟨rfl,rfl⟩))],hpa7.trans aV⟩
  ·have d2:x.gone=y.gone/\x.v=y.v:=by simpa using d2
   rw[zQd (by omega) (by omega)]
   exact hJ _ _ ak ⟨by omega,zXW he hx hy (zVz.2 d2),hpa7.trans aV⟩
 ·have ak:k=a.length:=by have:=zQh d1;omega
  subst ak
  rw[List.take_length,hab,List.take_length]at he
  exact⟨by rw[decide_eq_true he],hp⟩
theorem xQp {b:Nat} {l:List (Int × Int)} (h:zQ3 w zQM zQM b l) (k:Int):(Instr.lookup 80 (.map (some b)) (.int .i64 k) true).run prog w=.ok (.tuple #[.int .i64 ((AL.get l k).getD 0),.bool (AL.get l k).isSome]) w:=zYd h k
theorem xJB {b0 b1:Nat} {l0 l1:List (Int × Int)} (h0:zQ3 w zQM zQM b0 l0) (h1:zQ3 w zQM zQM b1 l1) :
  Calls prog 84 #[.map (some b0),.map (some b1)] w λe w'=>∃b:Bool,e=.returned (.bool b)/\(b=true ↔ EqM (λx y=>x=y) l0 l1)/\Pu w w':=by
 refine yWw _ _ w _ ⟨_,w,h0.len rfl yYh,_,w,h1.len rfl yYh,Br.of (λd=>?_) (λd=>?_)⟩
 ·refine⟨false,rfl,⟨λh=>(by cases h),λh=>?_⟩,Pu.refl w⟩
  rw[h.1]at d;simp at d
 have hll:l0.length=l1.length:=by
  have:((l0.length:Nat):Int)=l1.length:=by simpa using d
  omega
 obtain⟨w1,jY,hi1,al,iJ⟩:=h0.range (P:=prog) yYh
 refine⟨_,w1,jY,?_⟩
 refine zJC l0.length (λm _ w'=>∃todo:List (Int × Int),todo.length=m/\zQS w' zQM zQM w.heap.size b0 l0 todo/\xQq l0 todo (λq=>∃v,AL.get l1 q.1=some v/\q.2=v)/\Pu w w') ⟨l0,rfl,hi1,xQq.start _ _,al⟩ ?_
 rintro m J _ w2 ⟨todo,hm,hit,hseen,aj⟩ hJ
 rcases hit.next (P:=prog) 0 with⟨hnil,hr⟩|⟨p,hpm,w3,hr,bP,pL,hit3,hen⟩
 ·refine .inl ⟨w2,hr,true,rfl,⟨λ_=>⟨hll,λq hq=>?_⟩,λ_=>rfl⟩,aj⟩
  subst hnil
  rcases hseen.ok q hq with h|h
  ·cases h
  ·exact h
 ·refine .inr ⟨zQM p.1,zQM p.2,w3,hr,zQM p.1,zQM p.2,w3,hen,?_⟩
  have am:Pu w w3:=aj.andNew bP λi hi=>by rw[hi];exact Nat.le_refl _
  have hpl:=hseen.sub p hpm
  simp only[xJ2]
  have hlk:=xQp (h1.pu am) p.1
  refine⟨_,_,w3,hlk,?_⟩
  cases hg:AL.get l1 p.1 with
  | none=>
   refine Br.of (λ_=>⟨false,rfl,⟨λh=>(by cases h),λh=>?_⟩,am⟩) (λe=>by simp at e)
   exact absurd h (EqM.not hpl λv hv=>by rw[hg]at hv;cases hv)
  | some x=>
   refine Br.of (λe=>by simp at e) (λ_=>Br.of (λd2=>⟨false,rfl,⟨λh=>(by cases h),λh=>?_⟩,am⟩) (λd2=>?_))
   ·refine absurd h (EqM.not hpl λv' hv=>?_)
    rw[hg]at hv;cases hv
    exact zQ4 d2
   ·have hE:p.2=x:=zQu d2
    have hlen:=AL.length_del hpm hit.nodup
    exact hJ (m - 1) _ _ (by omega) ⟨AL.del todo p.1,by omega,hit3,hseen.next hit.map.nodup hpm ⟨x,hg,hE⟩,am⟩
def yJR(val v:Nat->List Val)(x y:zQx × zQx):Prop:=(toR val x.1,toR val x.2)=(toR v y.1,toR v y.2)
theorem zK0{x y:zQx × zQx}:yJR val v x y ↔ ((x.1.g=y.1.g/\hv val x.1=hv v y.1)/\(x.2.g=y.2.g/\hv val x.2=hv v y.2)):=by
 unfold yJR
 rw[Prod.mk.injEq,zVz,zVz]
 rfl
theorem cgEq_c {x y:zQx × zQx} (x1:RdV w x.1.s (hv val x.1)) (x2:RdV w x.2.s (hv val x.2)) (y1:RdV w y.1.s (hv v y.1)) (y2:RdV w y.2.s (hv v y.2)) :
  Calls prog 135 #[chV x,chV y] w λe w'=>∃b:Bool,e=.returned (.bool b)/\(b=true ↔ yJR val v x y)/\Pu w w':=by
 refine yZ2 _ _ _ _ _ _ _ _ w _ (alB λw1 al ay=>alB λw2 aj ag=>?_)
 have hp:=al.trans aj
 have kJ:=aj.blk ay
 refine⟨_,cl kJ 0,x.1.s,cl kJ 1,_,cl ag 0,y.1.s,cl ag 1,(zWL (x1.pu hp) (y1.pu hp)).mono ?_⟩
 rintro e w3 ⟨rfl,am⟩
 have hb1'':=am.blk kJ
 have hb2':=am.blk ag
 have aF:=hp.trans am
 refine⟨_,rfl,Br.of (λd1=>?_) (λd1=>?_)⟩
 ·have d1:x.1.g=y.1.g/\hv val x.1=hv v y.1:=by simpa using d1
  refine⟨_,by rw[Addr.add_add];exact cl hb1'' 2,x.2.s,by rw[Addr.add_add];exact cl hb1'' 3,_,by rw[Addr.add_add];exact cl hb2' 2,y.2.s,by rw[Addr.add_add];exact cl hb2' 3,(zWL (x2.pu aF) (y2.pu aF)).mono ?_⟩
  rintro e w4 ⟨rfl,ar⟩
  refine⟨_,rfl,_,rfl,?_,aF.trans ar⟩
  rw[decide_eq_true_iff,zK0]
  exact⟨λh=>⟨d1,h⟩,λh=>h.2⟩
 ·have d1:¬(x.1.g=y.1.g/\hv val x.1=hv v y.1):=λh=>by rw[decide_eq_true h]at d1;cases d1
  exact⟨false,rfl,⟨λh=>(by cases h),λh=>absurd (zK0.1 h).1 d1⟩,aF⟩
theorem xJS{b0 b1:Nat}{l0 l1:List Chg}(h0:zQ3 w zQM chV b0 l0)(h1:zQ3 w zQM chV b1 l1)
  (r0:∀q ∈ l0,RdV w q.2.1.s (hv val q.2.1)/\RdV w q.2.2.s (hv val q.2.2)) (r1:∀q ∈ l1,RdV w q.2.1.s (hv v q.2.1)/\RdV w q.2.2.s (hv v q.2.2)) :
  Calls prog 134 #[.map (some b0),.map (some b1),.func (.func 135) #[] #[]] w λe w'=>∃b:Bool,e=.returned (.bool b)/\(b=true ↔ EqM (yJR val v) l0 l1)/\Pu w w':=by
 refine yJg _ _ _ w _ ⟨_,w,h0.len rfl yJQ,_,w,h1.len rfl yJQ,Br.of (λd=>?_) (λd=>?_)⟩
 ·refine⟨false,rfl,⟨λh=>(by cases h),λh=>?_⟩,Pu.refl w⟩
  rw[h.1]at d;simp at d
 have hll:l0.length=l1.length:=by
  have:((l0.length:Nat):Int)=l1.length:=by simpa using d
  omega
 obtain⟨w1,jY,hi1,al,iJ⟩:=h0.range (P:=prog) yJQ
 refine⟨_,w1,jY,?_⟩
 refine zJC l0.length (λm _ w'=>∃todo:List Chg,todo.length=m/\zQS w' zQM chV w.heap.size b0 l0 todo/\xQq l0 todo (λq=>∃x,AL.get l1 q.1=some x/\yJR val v q.2 x)/\Pu w w') ⟨l0,rfl,hi1,xQq.start _ _,al⟩ ?_
 rintro m J _ w2 ⟨todo,hm,hit,hseen,aj⟩ hJ
 rcases hit.next (P:=prog) 0 with⟨hnil,hr⟩|⟨p,hpm,w3,hr,bP,pL,hit3,hen⟩
 ·refine .inl ⟨w2,hr,true,rfl,⟨λ_=>⟨hll,λq hq=>?_⟩,λ_=>rfl⟩,aj⟩
  subst hnil
  rcases hseen.ok q hq with h|h
  ·cases h
  ·exact h
 ·refine .inr ⟨zQM p.1,chV p.2,w3,hr,zQM p.1,chV p.2,w3,hen,?_⟩
  have am:Pu w w3:=aj.andNew bP λi hi=>by rw[hi];exact Nat.le_refl _
  have hpl:=hseen.sub p hpm
  rw[yXs]
  have z2:=aj.size
  have s3:w2.heap.size=w3.heap.size:=pL.symm
  refine alB λw4 ar aZ=>zQj aZ zYQ.symm rfl rfl λw5 aP bT _=>?_
  have bw:Pu w3 w5:=ar.andNew bT λi hi=>by rw[show i=w3.heap.size from hi];exact Nat.le_refl _
  have hlk:=zYa ((h1.pu am).pu bw) p.1
  refine⟨_,(chG l1 p.1).1.s,_,(chG l1 p.1).2.s,_,w5,hlk,alB λw6 bx dx=>zQj dx zYQ.symm rfl rfl λw7 bQ dg _=>?_⟩
  have dr:Pu w5 w7:=bx.andNew dg λi hi=>by rw[show i=w5.heap.size from hi];exact Nat.le_refl _
  have gI:=(am.trans bw).trans dr
  have wq:=dr.blk aP
  cases hg:AL.get l1 p.1 with
  | none=>
   refine Br.of (λ_=>⟨false,rfl,⟨λh=>(by cases h),λh=>?_⟩,gI⟩) (λe=>by simp at e)
   exact absurd h (EqM.not hpl λv hv=>by rw[hg]at hv;cases hv)
  | some x=>
   have eG:chG l1 p.1=x:=by rw[chG,hg];rfl
   rw[eG]at bQ
   have rx:=r1 (p.1,x) (AL.get_mem hg)
   have rp:=r0 p hpl
   refine Br.of (λe=>by simp at e) (λ_=>⟨_,cl wq 0,p.2.1.s,cl wq 1,_,cl wq 2,p.2.2.s,cl wq 3,_,cl bQ 0,x.1.s,cl bQ 1,_,cl bQ 2,x.2.s,cl bQ 3,by kernel_rfl,?_⟩)
   refine Calls.mono (cgEq_c (x:=p.2) (y:=x) (rp.1.pu gI) (rp.2.pu gI) (rx.1.pu gI) (rx.2.pu gI)) ?_
   rintro e w8 ⟨b,rfl,hbE,aV⟩
   refine⟨b,rfl,Br.of (λd2=>⟨false,rfl,⟨λh=>(by cases h),λh=>?_⟩,gI.trans aV⟩) (λd2=>?_)⟩
   ·refine absurd h (EqM.not hpl λv' hv hE=>?_)
    rw[hg]at hv;cases hv
    rw[hbE.2 hE]at d2;cases d2
   ·have hE:yJR val v p.2 x:=hbE.1 (by simpa using d2)
    have hlen:=AL.length_del hpm hit.nodup
    refine hJ (m - 1) _ _ (by omega) ⟨AL.del todo p.1,by omega,?_,hseen.next hit.map.nodup hpm ⟨x,hg,hE⟩,gI.trans aV⟩
    exact hit3.fr (Fr.pu ((bw.trans dr).trans aV):Fr (λ_=>False) w3 w8) (λh=>h) (λh=>h)
end Go.Proofs.YtcihcbfcgjepfaaGreatDoor
/- Desks: the program's two desks held against each other. No condition but those stated. -/
namespace Go.Proofs.YtcihcbfcgjepfaaGreatDoor
open Go.Sh Go.RowKit Tryz
variable {w w' : World} {d c : zQs} {val v : Nat -> List Val} {mu mu2 : Int}
theorem okN_64{k n:Int}(h:okN k n=true):zJU k/\zJU n:=by
 unfold okN at h
 unfold zJU
 repeat' split at h
 all_goals (try simp only[Bool.and_eq_true,Bool.or_eq_true,decide_eq_true_eq]at h)
 all_goals first|omega|cases h
theorem yYn{f:Fld}{p:Int}{x:Val}(h:zQT f p x=true):zJU x.kind/\zJU x.n:=by
 unfold zQT at h
 split at h
 ·cases h
 ·next h1=>
  have h1:zXn x=0:=Decidable.not_not.1 h1
  unfold zXn at h1
  split at h1
  ·cases h1
  ·split at h1
   ·next h2=>exact okN_64 (by simp only[Bool.and_eq_true]at h2;exact h2.1)
   ·cases h1
theorem yKi{l:List Fld}{p:Int}{r:Rec}(h:zQD l p r=0):∀x ∈ r.v,zJU x.kind/\zJU x.n:=λx hx=>by
 have hl:=zQ2 h
 unfold zQD at h
 rw[if_neg (by omega)]at h
 split at h
 ·next h1=>
  obtain⟨i,hi⟩:=List.mem_iff_getElem?.1 hx
  have wj:i<r.v.length:=(List.getElem?_eq_some_iff.1 hi).1
  obtain⟨f,hf⟩:=zXe (l:=l) (k:=i) (by omega)
  exact yYn (f:=f) (p:=p) (List.all_eq_true.1 h1 (f,x) (List.mem_of_getElem? (yVc hf hi)))
 ·cases h
theorem val_rd {s:SV} {l:List Val} (h:zQl w 28 3 s (l.flatMap zXJ)) (hb:∀x ∈ l,zJU x.kind/\zJU x.n) (hn:l.length<=1000000):zXP w s l:=by
 have hl:=h.len zQF (by decide)
 refine⟨hl,h.le_cap.1,by omega,λi f hf=>?_⟩
 have hB:=hb f (List.mem_of_getElem? hf)
 obtain⟨a,ha,_,_⟩:=h.elem zQF hf (o:=0) rfl
 refine⟨a,ha,zXJ f,⟨rfl,hB.1,hB.2⟩,λj x hx=>?_⟩
 obtain⟨a',ha',_,hc⟩:=h.elem zQF hf (o:=j) hx
 rw[ha]at ha';cases ha'
 exact hc
theorem zQg.rdTbl (h:zQg w d mu val) (hI:Inv (zQa d val)):zJG w (zQa d val).tbl d.fs d.rs:=by
 have f16:d.flds.length<=16:=hI.f16
 have r300:d.rh.length<=300:=hI.rh
 refine⟨?_,h.fld hI.vf,?_⟩
 ·have hp:zXm d.page=true:=hI.pg
  show zJU d.page
  unfold zXm at hp
  unfold zJU
  simp only[Bool.and_eq_true,decide_eq_true_eq]at hp
  omega
 ·have hl:=h.rs_len
  have e:(zQa d val).tbl.recs=d.rh.map (toR val):=rfl
  rw[e]
  refine⟨by rw[hl,List.length_map],h.bd.rw_.le_cap.1,by omega,λi r hr=>?_⟩
  rw[List.getElem?_map]at hr
  obtain⟨x,hx,rfl⟩:=Option.map_eq_some_iff.1 hr
  have hm:=zQJ (List.mem_of_getElem? hx)
  have hg:=hI.good hm h.bd.low
  have hlen:(hv val x).length=d.flds.length:=zQ2 hg
  obtain⟨a,ha,_,_⟩:=h.bd.rw_.elem zQk hx (o:=0) rfl
  refine⟨a,ha,zJR x,⟨x.s,rfl,val_rd (h.bd.vr x hm) (yKi hg) (by show(hv val x).length<=_;omega)⟩,λj y hy=>?_⟩
  obtain⟨a',ha',_,hc⟩:=h.bd.rw_.elem zQk hx (o:=j) hy
  rw[ha]at ha';cases ha'
  exact hc
theorem Inv.vt{σ:Dsk}(h:Inv σ):zQQ σ.tbl=0:=by
 have h1:zXm σ.tbl.page=true:=h.pg
 have h2:zQW σ.tbl.fields=0:=h.vf
 have h3:σ.tbl.recs.length<=300:=h.r300
 unfold zQQ
 rw[if_pos h1,if_neg (by rw[h2];simp),if_neg (by omega)]
 exact zZl h.gr
theorem yY9 {a b:List Rec} (h:zYR a b (max a.length b.length)=[]):a=b:=by
 refine List.ext_getElem? λi=>?_
 by_cases hi:i<max a.length b.length
 ·have h1:(List.range (max a.length b.length)).filter (yJN a b)=[]:=List.map_eq_nil_iff.1 h
  have h2:=List.filter_eq_nil_iff.1 h1 i (List.mem_range.2 hi)
  simpa[yJN] using h2
 ·rw[List.getElem?_eq_none (by omega),List.getElem?_eq_none (by omega)]
theorem yVq(a:List Rec)(n:Nat):zYR a a n=[]:=by simp[zYR,yJN]
theorem yYH{a b:Tbl}(ha:zQQ a=0)(hb:zQQ b=0):((yYl a b).2=0/\(yYl a b).1.length=0) ↔ a=b:=by
 unfold yYl
 rw[if_neg (by simp[ha]),if_neg (by simp[hb])]
 constructor
 ·intro h
  split at h
  ·exact absurd h.1 (by decide)
  ·next h1=>
   have h2:a.page=b.page:=Decidable.byContradiction λe=>h1 (.inl e)
   have h3:a.fields=b.fields:=Decidable.byContradiction λe=>h1 (.inr e)
   have h4:=yY9 (List.length_eq_zero_iff.1 h.2)
   obtain⟨a1,a2,a3⟩:=a;obtain⟨b1,b2,b3⟩:=b
   simp at h2 h3 h4
   rw[h2,h3,h4]
 ·rintro rfl
  rw[if_neg (by simp)]
  exact⟨rfl,by rw[yVq];rfl⟩
theorem Ech.symm {l m:List (Int × (Rec × Rec))} (h:Ech l m):Ech m l:=⟨λk=>(h.1 k).symm,h.2.symm⟩
theorem Ech.trans {l m n:List (Int × (Rec × Rec))} (h:Ech l m) (k:Ech m n):Ech l n:=⟨λx=>(h.1 x).trans (k.1 x),h.2.trans k.2⟩
theorem Eu.symm{x y:Usr}(h:Eu x y):Eu y x:=⟨h.md.symm,h.at_.symm,h.ap.symm,h.ch.symm⟩
theorem Eu.trans{x y z:Usr}(h:Eu x y)(k:Eu y z):Eu x z:=⟨h.md.trans k.md,h.at_.trans k.at_,h.ap.trans k.ap,h.ch.trans k.ch⟩
theorem Eqv.symm{σ ρ:Dsk}(h:Eqv σ ρ):Eqv ρ σ:=⟨h.pg.symm,h.fl.symm,h.rc.symm,h.lk.symm,λu=>(h.us u).symm⟩
theorem Eqv.trans{σ ρ τ:Dsk}(h:Eqv σ ρ)(k:Eqv ρ τ):Eqv σ τ:=⟨h.pg.trans k.pg,h.fl.trans k.fl,h.rc.trans k.rc,h.lk.trans k.lk,λu=>(h.us u).trans (k.us u)⟩
structure Eq4(σ ρ:Dsk):Prop where
 pg:σ.page=ρ.page
 fl:σ.flds=ρ.flds
 rc:σ.recs=ρ.recs
 lk:σ.lk=ρ.lk
 us:∀u,u<4->Eu (σ.us u) (ρ.us u)
theorem Eqv.e4{σ ρ:Dsk}(h:Eqv σ ρ):Eq4 σ ρ:=⟨h.pg,h.fl,h.rc,h.lk,λu _=>h.us u⟩
theorem Eq4.symm{σ ρ:Dsk}(h:Eq4 σ ρ):Eq4 ρ σ:=⟨h.pg.symm,h.fl.symm,h.rc.symm,h.lk.symm,λu hu=>(h.us u hu).symm⟩
theorem Eq4.trans{σ ρ τ:Dsk}(h:Eq4 σ ρ)(k:Eq4 ρ τ):Eq4 σ τ:=⟨h.pg.trans k.pg,h.fl.trans k.fl,h.rc.trans k.rc,h.lk.trans k.lk,λu hu=>(h.us u hu).trans (k.us u hu)⟩
theorem Eq4.iff{σ ρ σ' ρ':Dsk}(h:Eq4 σ σ')(k:Eq4 ρ ρ'):Eq4 σ ρ ↔ Eq4 σ' ρ':=⟨λe=>(h.symm.trans e).trans k,λe=>(h.trans e).trans k.symm⟩
theorem Ech.mem {l m:List (Int × (Rec × Rec))} (h:Ech l m) (n:(l.map Prod.fst).Nodup) {c:Int × (Rec × Rec)} (hc:c ∈ l):c ∈ m:=by
 have h1:=AL.get_of_mem n (k:=c.1) (v:=c.2) hc
 rw[h.1]at h1
 exact AL.get_mem h1
theorem Eqv.inv {σ ρ:Dsk} (h:Eqv σ ρ) (k:Inv ρ) (cn:∀u,u<4->((σ.us u).ch.map Prod.fst).Nodup):Inv σ where
 pg:=by rw[h.pg];exact k.pg
 vf:=by rw[h.fl];exact k.vf
 gr:=by rw[h.rc,h.fl,h.pg];exact k.gr
 ga:=λu hu=>by rw[(h.us u).ap,h.fl,h.pg];exact k.ga u hu
 gc:=λu hu x hx=>by rw[h.rc,h.fl,h.pg];exact k.gc u hu x ((h.us u).ch.mem (cn u hu) hx)
 cn:=cn
 at_:=λu hu=>by rw[(h.us u).at_,(h.us u).ap,h.rc];exact k.at_ u hu
 rw_:=λu hu=>by rw[(h.us u).rows,(h.us u).ap,(h.us u).at_];exact k.rw_ u hu
 nn:=by rw[h.allN];exact k.nn
 lr:=by rw[h.lk,h.rc];exact k.lr
theorem zQg.cn(h:zQg w d mu val):∀u,u<4->(((zQa d val).us u).ch.map Prod.fst).Nodup:=λu hu=>by
 have h1:=(h.mp hu).nodup
 have e:((zQa d val).us u).ch.map Prod.fst=(d.ch u).map Prod.fst:=by
  show((d.ch u).map (toC val)).map Prod.fst=_
  rw[List.map_map];rfl
 rw[e];exact h1
theorem zQg.inv (h:zQg w d mu val) {ρ:Dsk} (hE:Eqv (zQa d val) ρ) (k:Inv ρ):Inv (zQa d val):=hE.inv k h.cn
theorem yJ9 (h:zQg w d mu val) (hI:Inv (zQa d val)) (k:zQg w c mu2 v) (kI:Inv (zQa c v)) {u:Nat} (hu:u<4) :
  Calls prog 82 #[.agg #[.int .i64 (d.mode u),.int .i64 (d.at_ u),.map (some (d.C u)),.slice (d.asv u).a (d.asv u).len (d.asv u).cap],.agg #[.int .i64 (c.mode u),.int .i64 (c.at_ u),.map (some (c.C u)),.slice (c.asv u).a (c.asv u).len (c.asv u).cap]] w
   λe w'=>∃b:Bool,e=.returned (.bool b)/\(b=true ↔ Eu ((zQa d val).us u) ((zQa c v).us u))/\Pu w w':=by
 refine yW2 _ _ _ _ _ _ _ _ w _ (alB λw1 al ay=>alB λw2 aj ag=>?_)
 have hp:=al.trans aj
 have kJ:=aj.blk ay
 have no:∀{w':World},Pu w w'->¬Eu ((zQa d val).us u) ((zQa c v).us u)->∃b:Bool,Ending.returned (.bool false)=.returned (.bool b)/\(b=true ↔ Eu ((zQa d val).us u) ((zQa c v).us u))/\Pu w w':=λhp hn=>⟨false,rfl,⟨λh=>(by cases h),λh=>absurd h hn⟩,hp⟩
 refine⟨_,cl0 kJ,_,cl0 ag,Br.of (λd1=>?_) (λd1=>no hp λe=>zQo d1 e.md)⟩
 have e1:=zQA d1
 refine⟨_,cl kJ 1,_,cl ag 1,Br.of (λd2=>?_) (λd2=>no hp λe=>zQo d2 e.at_)⟩
 have e2:=zQA d2
 have h2:=h.pu hp
 have k2:=k.pu hp
 have len1:∀x ∈ d.ah u,(hv val x).length<=1000000:=λx hx=>by have:=(h.read hI (zXj hu hx)).2;have f16:d.flds.length<=16:=hI.f16;omega
 have len2:∀x ∈ c.ah u,(hv v x).length<=1000000:=λx hx=>by have:=(k.read kI (zXj hu hx)).2;have f16:c.flds.length<=16:=kI.f16;omega
 refine⟨d.asv u,cl kJ 3,c.asv u,cl ag 3,(yYW (h2.rdA hu len1) (k2.rdA hu len2) (by have:=hI.a300 hu;omega)).mono ?_⟩
 rintro e w3 ⟨rfl,am⟩
 refine⟨_,rfl,Br.of (λd3=>?_) (λd3=>no (hp.trans am) λe=>?_)⟩
 ·have e3:((zQa d val).us u).ap=((zQa c v).us u).ap:=by simpa using d3
  have aF:=hp.trans am
  have h3:=h.pu aF
  have k3:=k.pu aF
  refine⟨_,cl (am.blk kJ) 2,_,cl (am.blk ag) 2,(xJS (val:=val) (v:=v) (h3.mp hu) (k3.mp hu) (λq hq=>⟨(h3.read hI (zXA hu hq).1).1,(h3.read hI (zXA hu hq).2).1⟩) (λq hq=>⟨(k3.read kI (zXA hu hq).1).1,(k3.read kI (zXA hu hq).2).1⟩)).mono ?_⟩
  rintro e w4 ⟨b,rfl,hb,ar⟩
  refine⟨b,rfl,b,rfl,?_,aF.trans ar⟩
  have key:=yQ6 (f:=λx:zQx × zQx=>(toR val x.1,toR val x.2)) (g:=λx:zQx × zQx=>(toR v x.1,toR v x.2)) (h.mp hu).nodup (k.mp hu).nodup
  rw[hb]
  refine(show EqM (yJR val v) (d.ch u) (c.ch u) ↔ _ from key).trans ?_
  have ec:Ech ((zQa d val).us u).ch ((zQa c v).us u).ch ↔ (∀x,(AL.get (d.ch u) x).map (λx:zQx × zQx=>(toR val x.1,toR val x.2))=(AL.get (c.ch u) x).map (λx:zQx × zQx=>(toR v x.1,toR v x.2)))/\(d.ch u).length=(c.ch u).length:=by
   show Ech ((d.ch u).map (toC val)) ((c.ch u).map (toC v)) ↔ _
   unfold Ech
   rw[List.length_map,List.length_map]
   simp only[zXM]
  rw[←ec]
  exact⟨λhc=>⟨e1,e2,e3,hc⟩,λhE=>hE.ch⟩
 ·rw[decide_eq_true e.ap]at d3;cases d3
theorem xQm:(prog.info? 93).map (λj=>decide (j.size=0))=some false:=by kernel_rfl
theorem yKl(h:zQg w d mu val)(k:zQg w c mu2 v)(hne:d.S ≠ c.S)(x y:Operand):(eqS .eql 32 x y (.pointer (some ⟨d.S,0,none⟩)) (.pointer (some ⟨c.S,0,none⟩))).run prog w=.ok (.bool false) w:=by
 obtain⟨j,hj,hsz⟩:=Option.map_eq_some_iff.1 xQm
 have h:=run_eql_ptr_other (P:=prog) (a:=⟨d.S,0,none⟩) (b:=⟨c.S,0,none⟩) w xXA hj (of_decide_eq_false hsz) (λe=>hne (congrArg Addr.block e)) h.st k.st
 unfold eqS
 have hg:(eqGuard .eql 32 x y (.pointer (some ⟨d.S,0,none⟩)) (.pointer (some ⟨c.S,0,none⟩))).run prog w=.ok () w:=rfl
 simp only[Sem.run_bind,hg,Result.andThen_ok,h]
theorem xXm (h:zQg w d 0 val) (hI:Inv (zQa d val)) (k:zQg w c 0 v) (kI:Inv (zQa c v)) (ne:d.S ≠ c.S) :
  Calls prog 32 #[d.ptr,c.ptr] w λe w'=>∃b:Bool,e=.returned (.bool b)/\(b=true ↔ Eq4 (zQa d val) (zQa c v))/\Pu w w':=by
 refine yV7 _ _ w _ ⟨false,w,zXk xXA _ _ _ w,Br.of (λe=>by cases e) (λ_=>⟨false,w,zXk xXA _ _ _ w,Br.of (λe=>by cases e) (λ_=>⟨false,w,?_,Br.of (λe=>by cases e) (λ_=>?_)⟩)⟩)⟩
 ·exact yKl h k ne _ _
 refine(yV9 h hI).mono ?_
 rintro e w1 ⟨c1,v1,rfl,h1,E1,-,al⟩
 refine⟨_,rfl,(yV9 (k.pu al) kI).mono ?_⟩
 rintro e w2 ⟨c2,v2,rfl,h2,E2,-,aj⟩
 refine⟨_,rfl,?_⟩
 have I1:=h1.inv E1 hI
 have I2:=h2.inv E2 kI
 have h1':=h1.pu aj
 have aG:=al.trans aj
 have iff4:Eq4 (zQa c1 v1) (zQa c2 v2) ↔ Eq4 (zQa d val) (zQa c v):=Eq4.iff E1.e4 E2.e4
 have no:∀{w':World},Pu w2 w'->¬Eq4 (zQa c1 v1) (zQa c2 v2)->∃b:Bool,Ending.returned (.bool false)=.returned (.bool b)/\(b=true ↔ Eq4 (zQa d val) (zQa c v))/\Pu w w':=λhp hn=>⟨false,rfl,⟨λh=>(by cases h),λh=>absurd (iff4.2 h) hn⟩,aG.trans hp⟩
 refine zQ1 4 (λk t w'=>t=(k:Int)/\(∀u,u<k->Eu ((zQa c1 v1).us u) ((zQa c2 v2).us u))/\Pu w2 w') ⟨rfl,λu hu=>absurd hu (by omega),Pu.refl _⟩ ?_
 rintro n J t w3 hn ⟨ht,hE,am⟩ hJ
 obtain rfl:t=(n:Int):=ht
 refine Br.of (λd1=>zQf λw4 ar _=>?_) (λd1=>zQf λw4 ar _=>?_)
 ·have fh:n<4:=by have:=zQm d1;omega
  have gK:=am.trans ar
  have a1:=h1'.pu gK
  have a2:=h2.pu gK
  have cu1:∀o,w4.cell? ((((⟨c1.S,0,none⟩:Addr).add 5).add ((n:Int).toNat * 4)).add o)=(zQR 0 c1)[5+n * 4+o]?:=λo=>by rw[zQI,zQc,zQc,zQc,Nat.zero_add];exact a1.cell _
  have cu2:∀o,w4.cell? ((((⟨c2.S,0,none⟩:Addr).add 5).add ((n:Int).toNat * 4)).add o)=(zQR 0 c2)[5+n * 4+o]?:=λo=>by rw[zQI,zQc,zQc,zQc,Nat.zero_add];exact a2.cell _
  show zQi (some (⟨c1.S,0,none⟩:Addr)) _
  rw[zQn]
  refine⟨(u4 fh).1,(u4 fh).2,c1.mode n,by rw[cu1];exact zKo fh,c1.at_ n,by rw[cu1];exact zKN fh,some (c1.C n),by rw[cu1];exact zVx fh,c1.asv n,by rw[cu1];exact zKG fh,?_⟩
  show zQi (some (⟨c2.S,0,none⟩:Addr)) _
  rw[zQn]
  refine⟨(u4 fh).1,(u4 fh).2,c2.mode n,by rw[cu2];exact zKo fh,c2.at_ n,by rw[cu2];exact zKN fh,some (c2.C n),by rw[cu2];exact zVx fh,c2.asv n,by rw[cu2];exact zKG fh,(yJ9 a1 I1 a2 I2 fh).mono ?_⟩
  rintro e w5 ⟨b,rfl,hb,aB⟩
  refine⟨b,rfl,Br.of (λd2=>no (gK.trans aB) λe=>?_) (λd2=>?_)⟩
  ·rw[hb.2 (e.us n fh)]at d2;cases d2
  ·have d2:b=true:=by simpa using d2
   rw[zQd (by omega) (by omega)]
   refine hJ _ _ fh ⟨by omega,λu hu=>?_,gK.trans aB⟩
   by_cases e:u=n
   ·rw[e];exact hb.1 d2
   ·exact hE u (by omega)
 ·have fh:n=4:=by have:=zQh d1;omega
  subst fh
  have gK:=am.trans ar
  have a1:=h1'.pu gK
  have a2:=h2.pu gK
  show zQi (some (⟨c1.S,0,none⟩:Addr)) _
  rw[zQn]
  refine⟨c1.page,by rw[zKk];exact a1.page,c1.fs,a1.flds,c1.rs,a1.recs,?_⟩
  show zQi (some (⟨c2.S,0,none⟩:Addr)) _
  rw[zQn]
  refine⟨c2.page,by rw[zKk];exact a2.page,c2.fs,a2.flds,c2.rs,a2.recs,(xQb (a1.rdTbl I1) (a2.rdTbl I2) (zWo I1.vf) (zWo I2.vf)).mono ?_⟩
  rintro e w5 ⟨q,rfl,hq,aB⟩
  have ql:q.len=(yYl (zQa c1 v1).tbl (zQa c2 v2).tbl).1.length:=hq.len
  have key:=yYH I1.vt I2.vt
  have tblE:Eq4 (zQa c1 v1) (zQa c2 v2)->(zQa c1 v1).tbl=(zQa c2 v2).tbl:=λe=>by unfold Dsk.tbl;rw[e.pg,e.fl,e.rc]
  refine⟨q,_,rfl,zQf λw6 bx _=>?_⟩
  have uY:=(gK.trans aB).trans bx
  refine Br.of (λd2=>Br.of (λd3=>?_) (λd3=>no uY λe=>?_)) (λd2=>no uY λe=>zQo d2 (key.2 (tblE e)).1)
  ·have d2:=zQA d2
   have d3:q.len=0:=by have:=zQA d3;omega
   have hT:=key.1 ⟨d2,by omega⟩
   have b1:=h1'.pu uY
   have b2:=h2.pu uY
   obtain⟨l1,m1,g1⟩:=b1.lm
   obtain⟨l2,m2,g2⟩:=b2.lm
   show zQi (some (⟨c1.S,0,none⟩:Addr)) _
   rw[zQn]
   refine⟨_,b1.locks,?_⟩
   show zQi (some (⟨c2.S,0,none⟩:Addr)) _
   rw[zQn]
   refine⟨_,b2.locks,(xJB m1 m2).mono ?_⟩
   rintro e w7 ⟨b,rfl,hb,bU⟩
   refine⟨b,rfl,b,rfl,?_,aG.trans (uY.trans bU)⟩
   rw[hb,←iff4]
   have k2:=yQ6 (f:=λx:Int=>x) (g:=λx:Int=>x) m1.nodup m2.nodup
   refine(show EqM (λx y:Int=>x=y) l1 l2 ↔ _ from k2).trans ?_
   simp only[Option.map_id_fun',id,g1,g2]
   constructor
   ·rintro⟨hk,hl⟩
    have t1:c1.page=c2.page:=congrArg Tbl.page hT
    have t2:c1.flds=c2.flds:=congrArg Tbl.fields hT
    have t3:(zQa c1 v1).recs=(zQa c2 v2).recs:=congrArg Tbl.recs hT
    exact⟨t1,t2,t3,funext hk,hE⟩
   ·intro e
    have e2:c1.lk=c2.lk:=e.lk
    refine⟨λx=>by rw[e2],?_⟩
    have n1:=m1.nodup
    have n2:=m2.nodup
    have kk:∀x,AL.get l1 x=AL.get l2 x:=λx=>by rw[g1,g2,e2]
    have sub:∀{l m:List (Int × Int)},(∀x,AL.get l x=AL.get m x)->l.map Prod.fst ⊆ m.map Prod.fst:=λ{l m} hh x hx=>by
     refine Decidable.byContradiction λhx2=>?_
     have:=AL.get_none.2 hx2
     rw[←hh]at this
     exact AL.get_none.1 this hx
    have s1:=List.Nodup.length_le_of_subset n1 (sub kk)
    have s2:=List.Nodup.length_le_of_subset n2 (sub λx=>(kk x).symm)
    simp only[List.length_map]at s1 s2
    omega
  ·have d3:¬q.len=0:=by have:=zQo d3;omega
   exact d3 (by rw[ql];exact(key.2 (tblE e)).2)
end Go.Proofs.YtcihcbfcgjepfaaGreatDoor
/- Desks: the reference's two desks held against each other. No condition but those stated. -/
namespace Go.Proofs.YtcihcbfcgjepfaaGreatDoor
open Go.Sh Go.RowKit Tryz
variable {w w' w0 : World} {d c : zQs} {val v : Nat -> List Val}
theorem cn_ch (hI:Inv (zQa d val)) {u:Nat} (hu:u<4):((d.ch u).map Prod.fst).Nodup:=by
 have h1:=hI.cn u hu
 have e:((zQa d val).us u).ch.map Prod.fst=(d.ch u).map Prod.fst:=by
  show((d.ch u).map (toC val)).map Prod.fst=_
  rw[List.map_map];rfl
 rw[e]at h1;exact h1
theorem yXw (hI:Inv (zQa d val)) (kI:Inv (zQa c v)) {u:Nat} (hu:u<4):Ech ((zQa d val).us u).ch ((zQa c v).us u).ch ↔ EqM (yJR val v) (d.ch u) (c.ch u):=by
 have key:=yQ6 (f:=λx:zQx × zQx=>(toR val x.1,toR val x.2)) (g:=λx:zQx × zQx=>(toR v x.1,toR v x.2)) (cn_ch hI hu) (cn_ch kI hu)
 refine Iff.trans ?_ (show EqM (yJR val v) (d.ch u) (c.ch u) ↔ _ from key).symm
 show Ech ((d.ch u).map (toC val)) ((c.ch u).map (toC v)) ↔ _
 unfold Ech
 rw[List.length_map,List.length_map]
 simp only[zXM]
def userC(d:zQs)(u:Nat):Array Value:=#[.int .i64 (d.mode u),.int .i64 (d.at_ u),.slice (d.cs u).a (d.cs u).len (d.cs u).cap,.slice (d.asv u).a (d.asv u).len (d.asv u).cap]
theorem rsu9 (hp:Pu w0 w) (h:zQr w d val) (hI:Inv (zQa d val)) (k:zQr w c v) (kI:Inv (zQa c v)) {u r7 r8:Nat} (hu:u<4) (b7:w.heap[r7]?=some (.cells (userC d u) 122)) (b8:w.heap[r8]?=some (.cells (userC c u) 122)) :
  yYN (λe w'=>∃b:Bool,e=.returned (.bool b)/\(b=true ↔ Eu ((zQa d val).us u) ((zQa c v).us u))/\Pu w0 w') (some ⟨c.S,0,none⟩) (u:Int) (some ⟨r7,0,none⟩) (some ⟨r8,0,none⟩) [] w:=by
 have no:∀{w':World},Pu w w'->¬Eu ((zQa d val).us u) ((zQa c v).us u)->∃b:Bool,Ending.returned (.bool false)=.returned (.bool b)/\(b=true ↔ Eu ((zQa d val).us u) ((zQa c v).us u))/\Pu w0 w':=λhp' hn=>⟨false,rfl,⟨λh=>(by cases h),λh=>absurd h hn⟩,hp.trans hp'⟩
 have c1:=h.cs_len hu
 have c2:=k.cs_len hu
 have a1:=h.as_len hu
 have a2:=k.as_len hu
 have e1:((zQa d val).us u).ch.length=(d.ch u).length:=zKQ
 have e2:((zQa c v).us u).ch.length=(c.ch u).length:=zKQ
 have g1:((zQa d val).us u).ap.length=(d.ah u).length:=zXr
 have g2:((zQa c v).us u).ap.length=(c.ah u).length:=zXr
 have l1:(d.ch u).length<=300:=hI.chl hu
 have l2:(c.ch u).length<=300:=kI.chl hu
 have m1:(d.ah u).length<=300:=hI.ah hu
 have len1:∀x ∈ d.ah u,(hv val x).length<=1000000:=λx hx=>by have:=(h.read hI (zXj hu hx)).2;have f16:d.flds.length<=16:=hI.f16;omega
 have len2:∀x ∈ c.ah u,(hv v x).length<=1000000:=λx hx=>by have:=(k.read kI (zXj hu hx)).2;have f16:c.flds.length<=16:=kI.f16;omega
 show zQi (some (⟨r7,0,none⟩:Addr)) _
 simp only[zQn]
 refine⟨_,cl0 b7,_,cl0 b8,Br.of (λd1=>no (Pu.refl _) λe=>zQ4 d1 e.md) (λd1=>?_)⟩
 have d1:=zQu d1
 refine⟨_,cl b7 1,_,cl b8 1,Br.of (λd2=>no (Pu.refl _) λe=>zQ4 d2 e.at_) (λd2=>?_)⟩
 have d2:=zQu d2
 refine⟨d.cs u,cl b7 2,c.cs u,cl b8 2,Br.of (λd3=>no (Pu.refl _) λe=>zQ4 d3 (by have:=e.ch.2;omega)) (λd3=>?_)⟩
 have d3:=zQu d3
 refine⟨d.asv u,cl b7 3,c.asv u,cl b8 3,Br.of (λd4=>no (Pu.refl _) λe=>zQ4 d4 (by have:=congrArg List.length e.ap;omega)) (λd4=>?_)⟩
 have d4:=zQu d4
 refine zQ1 (d.ch u).length (λn s w'=>s=(n:Int)/\(∀i q,i<n->(d.ch u)[i]?=some q->∃x,AL.get (c.ch u) q.1=some x/\yJR val v q.2 x)/\Pu w w') ⟨rfl,λi q hi=>absurd hi (by omega),Pu.refl _⟩ ?_
 rintro n J s w1 hn ⟨hs,hE,al⟩ hJ
 obtain rfl:s=(n:Int):=hs
 have b71:=al.blk b7
 have b81:=al.blk b8
 show zQi (some (⟨r7,0,none⟩:Addr)) _
 simp only[zQn]
 refine⟨d.cs u,cl b71 2,Br.of (λf1=>?_) (λf1=>?_)⟩
 ·have fh:n<(d.ch u).length:=by have:=zQm f1;omega
  obtain⟨q,hq⟩:=zXe fh
  have h1:=h.pu al
  have k1:=k.pu al
  obtain⟨a,ha,hal,x0,_,_,_,_⟩:=yXS (h1.cs_row hu) hq
  refine⟨d.cs u,cl b71 2,a,ha,by omega,by omega,q.1,by rw[zQI];exact x0,(zK6 k1 hu q.1 (by omega)).mono ?_⟩
  rintro e w2 ⟨rfl,rfl⟩
  refine⟨_,rfl,zQf λw3 am _=>⟨λy=>Pu w3 y,Pu.refl _,?_⟩⟩
  have aQ:=al.trans am
  have mq:=List.mem_of_getElem? hq
  cases hf:zXw (c.ch u) q.1 with
  | none=>
   dsimp only
   refine Br.of (λ_=>no aQ λe=>?_) (λf2=>absurd (zQh f2) (by omega))
   exact EqM.not mq (λx hx=>by rw[zJv hf]at hx;cases hx) ((yXw hI kI hu).1 e.ch)
  | some i=>
   dsimp only
   refine Br.of (λf2=>absurd (zQm f2) (by omega)) (λf2=>?_)
   obtain⟨x,hx,hgx⟩:=zZL hf
   have hil:=zVU hf
   have h3:=h.pu aQ
   have k3:=k.pu aQ
   have b73:=aQ.blk b7
   have b83:=aQ.blk b8
   obtain⟨a,ha,_,_,x1,x2,x3,x4⟩:=yXS (h3.cs_row hu) hq
   obtain⟨b,hb,_,_,y1,y2,y3,y4⟩:=yXS (k3.cs_row hu) hx
   have mx:=List.mem_of_getElem? hx
   have rq1:=(h3.read hI (zXA hu mq).1).1
   have rq2:=(h3.read hI (zXA hu mq).2).1
   have rx1:=(k3.read kI (zXA hu mx).1).1
   have rx2:=(k3.read kI (zXA hu mx).2).1
   have bad:¬yJR val v q.2 x->¬Eu ((zQa d val).us u) ((zQa c v).us u):=λhne e=>EqM.not mq (λx' hx'=>by rw[hgx]at hx';cases hx';exact hne) ((yXw hI kI hu).1 e.ch)
   refine⟨d.cs u,λy hy=>cl (hy.blk b73) 2,a,ha,by omega,by omega,_,λy hy=>hy.cell (by rw[zQI];exact x1),q.2.1.s,λy hy=>hy.cell (by rw[zQI];exact x2),?_⟩
   refine⟨c.cs u,λy hy=>cl (hy.blk b83) 2,b,hb,by omega,by omega,_,λy hy=>hy.cell (by rw[zQI];exact y1),x.1.s,λy hy=>hy.cell (by rw[zQI];exact y2),(zZ1 rq1 rx1).mono ?_⟩
   rintro e w4 ⟨rfl,ar⟩
   refine⟨_,rfl,ar,Br.of (λf3=>no (aQ.trans ar) (bad λe=>?_)) (λf3=>?_)⟩
   ·have:=zK0.1 e
    rw[decide_eq_true this.1.1,decide_eq_true this.1.2]at f3;cases f3
   have f3:q.2.1.g=x.1.g/\hv val q.2.1=hv v x.1:=by simpa using f3
   refine⟨d.cs u,λy hy=>cl (hy.blk b73) 2,a,ha,by omega,by omega,_,λy hy=>hy.cell (by rw[zQI];exact x3),q.2.2.s,λy hy=>hy.cell (by rw[zQI];exact x4),?_⟩
   refine⟨c.cs u,λy hy=>cl (hy.blk b83) 2,b,hb,by omega,by omega,_,λy hy=>hy.cell (by rw[zQI];exact y3),x.2.s,λy hy=>hy.cell (by rw[zQI];exact y4),(zZ1 (rq2.pu ar) (rx2.pu ar)).mono ?_⟩
   rintro e w5 ⟨rfl,aB⟩
   refine⟨_,rfl,Br.of (λf4=>no ((aQ.trans ar).trans aB) (bad λe=>?_)) (λf4=>?_)⟩
   ·have:=zK0.1 e
    rw[decide_eq_true this.2.1,decide_eq_true this.2.2]at f4;cases f4
   have f4:q.2.2.g=x.2.g/\hv val q.2.2=hv v x.2:=by simpa using f4
   rw[zQd (by omega) (by omega)]
   refine hJ _ _ fh ⟨by omega,λj q' hj hq'=>?_,(aQ.trans ar).trans aB⟩
   by_cases ej:j=n
   ·subst ej
    rw[hq]at hq';cases hq'
    exact⟨x,hgx,zK0.2 ⟨f3,f4⟩⟩
   ·exact hE j q' (by omega) hq'
 ·have fh:n=(d.ch u).length:=by have:=zQh f1;omega
  subst fh
  have hM:EqM (yJR val v) (d.ch u) (c.ch u):=⟨by omega,λq hq=>by
   obtain⟨i,hi⟩:=List.mem_iff_getElem?.1 hq
   exact hE i q (List.getElem?_eq_some_iff.1 hi).1 hi⟩
  have hCh:=(yXw hI kI hu).2 hM
  refine zQ1 (d.ah u).length (λn s w'=>s=(n:Int)/\((zQa d val).us u).ap.take n=((zQa c v).us u).ap.take n/\Pu w w') ⟨rfl,by simp,al⟩ ?_
  rintro n J s w3 hn ⟨hs,he,am⟩ hJ
  obtain rfl:s=(n:Int):=hs
  have b73:=am.blk b7
  show zQi (some (⟨r7,0,none⟩:Addr)) _
  simp only[zQn]
  refine⟨d.asv u,cl b73 3,Br.of (λf2=>zQf λw4 ar _=>?_) (λf2=>?_)⟩
  ·have fh:n<(d.ah u).length:=by have:=zQm f2;omega
   have c8:=am.trans ar
   obtain⟨x,hx⟩:=zXe (l:=((zQa d val).us u).ap) (k:=n) (by omega)
   obtain⟨y,hy⟩:=zXe (l:=((zQa c v).us u).ap) (k:=n) (by omega)
   obtain⟨p,sx,hpa,x0,x1,vx⟩:=((h.pu c8).bd.rdA hu len1).get n x hx
   obtain⟨q,sy,hqa,y0,y1,vy⟩:=((k.pu c8).bd.rdA hu len2).get n y hy
   refine⟨d.asv u,cl (c8.blk b7) 3,p,hpa,by omega,by omega,_,by rw[zQI];exact x0,sx,by rw[zQI];exact x1,c.asv u,cl (c8.blk b8) 3,q,hqa,by omega,by omega,_,by rw[zQI];exact y0,sy,by rw[zQI];exact y1,(zZ1 vx vy).mono ?_⟩
   rintro e w5 ⟨rfl,aB⟩
   refine⟨_,rfl,Br.of (λf3=>no (c8.trans aB) λe=>?_) (λf3=>?_)⟩
   ·have exy:x=y:=by rw[e.ap,hy]at hx;exact(Option.some.inj hx).symm
    subst exy;simp at f3
   ·have f3:x.gone=y.gone/\x.v=y.v:=by simpa using f3
    rw[zQd (by omega) (by omega)]
    exact hJ _ _ fh ⟨by omega,zXW he hx hy (zVz.2 f3),c8.trans aB⟩
  ·have fh:n=(d.ah u).length:=by have:=zQh f2;omega
   subst fh
   rw[List.take_of_length_le (by omega),List.take_of_length_le (by omega)]at he
   exact⟨true,rfl,⟨λ_=>⟨d1,d2,he,hCh⟩,λ_=>rfl⟩,hp.trans am⟩
theorem yXl (h:zQr w d val) (hI:Inv (zQa d val)) (k:zQr w c v) (kI:Inv (zQa c v)) {u:Nat} (hu:u<4) :
  Calls prog 90 #[d.ptr,c.ptr,.int .i64 (u:Int)] w λe w'=>∃b:Bool,e=.returned (.bool b)/\(b=true ↔ Eu ((zQa d val).us u) ((zQa c v).us u))/\Pu w w':=by
 refine yVf _ _ _ w _ (zQf λw1 al _=>⟨λy=>Pu w1 y,Pu.refl _,?_⟩)
 have h1:=h.pu al
 have k1:=k.pu al
 show zQi (some (⟨d.S,0,none⟩:Addr)) _
 rw[zQn]
 refine⟨(u4 hu).1,(u4 hu).2,d.mode u,λy hy=>by rw[zKk];exact(h1.pu hy).uMode hu,d.at_ u,λy hy=>(h1.pu hy).uAt hu,d.cs u,λy hy=>(h1.pu hy).uCs hu,d.asv u,λy hy=>(h1.pu hy).uAp hu,?_⟩
 show zQi (some (⟨c.S,0,none⟩:Addr)) _
 rw[zQn]
 refine⟨(u4 hu).1,(u4 hu).2,c.mode u,λy hy=>by rw[zKk];exact(k1.pu hy).uMode hu,c.at_ u,λy hy=>(k1.pu hy).uAt hu,c.cs u,λy hy=>(k1.pu hy).uCs hu,c.asv u,λy hy=>(k1.pu hy).uAp hu,?_,?_⟩
 ·refine alB λw2 aj ag=>⟨aj,alB λw3 am aH=>⟨aj.trans am,zQj (am.blk ag) yQj.symm rfl rfl λw4 aZ bp _=>?_⟩⟩
  have l1:w1.heap.size<w2.heap.size:=zQy ag
  have dq:Pu w1 w4:=(aj.trans am).andNew bp λi hi=>by rw[show i=w1.heap.size from hi];exact Nat.le_refl _
  refine⟨dq,zQj (bp.blk aH (by omega)) yQj.symm rfl rfl λw5 aP bT _=>?_⟩
  have aT:Pu w1 w5:=dq.andNew bT λi hi=>by rw[show i=w2.heap.size from hi];omega
  exact rsu9 (al.trans aT) (h1.pu aT) hI (k1.pu aT) kI hu (bT.blk aZ (by omega)) aP
 ·refine alB λw2 aj ag=>⟨aj,alB λw3 am aH=>⟨aj.trans am,zQj aH yQj.symm rfl rfl λw4 aZ bp _=>?_⟩⟩
  have l1:w1.heap.size<w2.heap.size:=zQy ag
  have dq:Pu w1 w4:=(aj.trans am).andNew bp λi hi=>by rw[show i=w2.heap.size from hi];omega
  refine⟨dq,zQj (bp.blk (am.blk ag) (by omega)) yQj.symm rfl rfl λw5 aP bT _=>?_⟩
  have aT:Pu w1 w5:=dq.andNew bT λi hi=>by rw[show i=w1.heap.size from hi];exact Nat.le_refl _
  exact rsu9 (al.trans aT) (h1.pu aT) hI (k1.pu aT) kI hu (bT.blk aZ (by omega)) aP
theorem zQr.rdT (h:zQr w d val) (hI:Inv (zQa d val)):RdT w (zQa d val).tbl d.fs d.rs:=by
 have f16:d.flds.length<=16:=hI.f16
 exact⟨yQF h.bd.fl (by show d.flds.length<=_;omega),h.rdR hI⟩
theorem xKc (h:zQr w d val) (hI:Inv (zQa d val)) (k:zQr w c v) (kI:Inv (zQa c v)) :
  Calls prog 35 #[d.ptr,c.ptr] w λe w'=>∃b:Bool,e=.returned (.bool b)/\(b=true ↔ Eq4 (zQa d val) (zQa c v))/\Pu w w':=by
 refine yKh _ _ w _ (zQf λw1 al _=>?_)
 have h1:=h.pu al
 have k1:=k.pu al
 have no:∀{w':World},Pu w w'->¬Eq4 (zQa d val) (zQa c v)->∃b:Bool,Ending.returned (.bool false)=.returned (.bool b)/\(b=true ↔ Eq4 (zQa d val) (zQa c v))/\Pu w w':=λhp' hn=>⟨false,rfl,⟨λh=>(by cases h),λh=>absurd h hn⟩,hp'⟩
 have jM:=hI.r300
 have hrl:=h.rs_len
 have uK:d.rh.length<=300:=hI.rh
 show zQi (some (⟨d.S,0,none⟩:Addr)) _
 rw[zQn]
 refine⟨d.page,by rw[zKk];exact h1.page,d.fs,h1.flds,d.rs,h1.recs,?_⟩
 show zQi (some (⟨c.S,0,none⟩:Addr)) _
 rw[zQn]
 refine⟨c.page,by rw[zKk];exact k1.page,c.fs,k1.flds,c.rs,k1.recs,(yWo (h1.rdT hI) (k1.rdT kI) (by show(zQa d val).recs.length<=_;omega)).mono ?_⟩
 rintro e w2 ⟨rfl,aj⟩
 have aG:=al.trans aj
 have tblE:Eq4 (zQa d val) (zQa c v)->(zQa d val).tbl=(zQa c v).tbl:=λe=>by unfold Dsk.tbl;rw[e.pg,e.fl,e.rc]
 refine⟨_,rfl,Br.of (λd1=>no aG λe=>by rw[decide_eq_true (tblE e)]at d1;cases d1) (λd1=>?_)⟩
 have hT:(zQa d val).tbl=(zQa c v).tbl:=by simpa using d1
 have t1:d.page=c.page:=congrArg Tbl.page hT
 have t2:d.flds=c.flds:=congrArg Tbl.fields hT
 have t3:(zQa d val).recs=(zQa c v).recs:=congrArg Tbl.recs hT
 have t4:(zQa d val).recs.length=d.rh.length:=by simp[zQa]
 refine zQ1 d.rh.length (λn s w'=>s=(n:Int)+1/\(∀x:Int,1<=x->x<=(n:Int)->d.lk x=c.lk x)/\Pu w w') ⟨rfl,λx h1 h2=>absurd h2 (by omega),aG⟩ ?_
 rintro n J s w3 hn ⟨hs,hE,am⟩ hJ
 obtain rfl:s=(n:Int)+1:=hs
 show zQi (some (⟨d.S,0,none⟩:Addr)) _
 rw[zQn]
 refine⟨d.rs,(h.pu am).recs,Br.of (λf1=>zQf λw4 ar _=>?_) (λf1=>?_)⟩
 ·have fh:n<d.rh.length:=by have:=zQm f1;omega
  have c8:=am.trans ar
  have h4:=h.pu c8
  have k4:=k.pu c8
  obtain⟨l1,m1,g1⟩:=h4.lm
  obtain⟨l2,m2,g2⟩:=k4.lm
  rw[zQn]
  refine⟨some d.L,h4.locks,_,zZ0 m1 _,?_⟩
  show zQi (some (⟨c.S,0,none⟩:Addr)) _
  rw[zQn]
  refine⟨some c.L,k4.locks,_,zZ0 m2 _,?_⟩
  rw[g1,g2,zQd (by omega) (by omega)]
  have key:((d.lk ((n:Int)+1)).map (· + 1)).getD 0=((c.lk ((n:Int)+1)).map (· + 1)).getD 0 ↔ d.lk ((n:Int)+1)=c.lk ((n:Int)+1):=by
   have i1:=hI.lr ((n:Int)+1)
   have i2:=kI.lr ((n:Int)+1)
   have i1:∀v,d.lk ((n:Int)+1)=some v->0<=v:=λv hv=>(i1 v hv).2.2.1
   have i2:∀x,c.lk ((n:Int)+1)=some x->0<=x:=λx hx=>(i2 x hx).2.2.1
   cases e1:d.lk ((n:Int)+1)with
   | none=>
    cases e2:c.lk ((n:Int)+1)with
    | none=>simp
    | some y=>
     have:=i2 y e2
     simp only[Option.map_none,Option.map_some,Option.getD_none,Option.getD_some,reduceCtorEq,iff_false]
     omega
   | some x=>
    have:=i1 x e1
    cases e2:c.lk ((n:Int)+1)with
    | none=>
     simp only[Option.map_none,Option.map_some,Option.getD_none,Option.getD_some,reduceCtorEq,iff_false]
     omega
    | some y=>
     simp only[Option.map_some,Option.getD_some,Option.some.injEq]
     omega
  refine Br.of (λf2=>no c8 λe=>zQ4 f2 (key.2 (by have:d.lk=c.lk:=e.lk;rw[this]))) (λf2=>?_)
  have f2:=key.1 (zQu f2)
  refine hJ _ _ fh ⟨by omega,λx hx1 hx2=>?_,c8⟩
  by_cases e:x=(n:Int)+1
  ·rw[e];exact f2
  ·exact hE x hx1 (by omega)
 ·have fh:n=d.rh.length:=by have:=zQh f1;omega
  subst fh
  have hlk:d.lk=c.lk:=funext λx=>by
   by_cases e:1<=x/\x<=(d.rh.length:Int)
   ·exact hE x e.1 e.2
   ·have e1:d.lk x=none:=by
     cases e1:d.lk x with
     | none=>rfl
     | some y=>have:=hI.lr x y e1;omega
    have e2:c.lk x=none:=by
     cases e2:c.lk x with
     | none=>rfl
     | some y=>have:=kI.lr x y e2;rw[←t3]at this;omega
    rw[e1,e2]
  refine zQ1 4 (λn s w'=>s=(n:Int)/\(∀u,u<n->Eu ((zQa d val).us u) ((zQa c v).us u))/\Pu w w') ⟨rfl,λu hu=>absurd hu (by omega),am⟩ ?_
  rintro n J s w4 hn ⟨hs,hU,ar⟩ hJ
  obtain rfl:s=(n:Int):=hs
  refine Br.of (λf2=>?_) (λf2=>?_)
  ·have fh:n<4:=by have:=zQm f2;omega
   refine(yXl (h.pu ar) hI (k.pu ar) kI fh).mono ?_
   rintro e w5 ⟨b,rfl,hb,aB⟩
   refine⟨b,rfl,Br.of (λf3=>no (ar.trans aB) λe=>?_) (λf3=>?_)⟩
   ·rw[hb.2 (e.us n fh)]at f3;cases f3
   ·have f3:b=true:=by simpa using f3
    rw[zQd (by omega) (by omega)]
    refine hJ _ _ fh ⟨by omega,λu hu=>?_,ar.trans aB⟩
    by_cases e:u=n
    ·rw[e];exact hb.1 f3
    ·exact hU u (by omega)
  ·have fh:n=4:=by have:=zQh f2;omega
   subst fh
   exact⟨true,rfl,⟨λ_=>⟨t1,t2,t3,hlk,hU⟩,λ_=>rfl⟩,ar⟩
end Go.Proofs.YtcihcbfcgjepfaaGreatDoor
/- Desks: acts that are handed in; what is too large. No condition but those stated. -/
namespace Go.Proofs.YtcihcbfcgjepfaaGreatDoor
open Go.Sh Go.RowKit Tryz
structure Act where
 op:Int
 a:Int
 b:Int
 c:Int
 s:ByteArray
 t:ByteArray
def Act.ok(a:Act):Prop:=zJU a.op/\zJU a.a/\zJU a.b/\zJU a.c
def Act.vals(a:Act):List Value:=[.int .i64 a.op,.int .i64 a.a,.int .i64 a.b,.int .i64 a.c,.string a.s,.string a.t]
abbrev actA(a:Act):Value:=.agg #[.int .i64 a.op,.int .i64 a.a,.int .i64 a.b,.int .i64 a.c,.string a.s,.string a.t]
instance:Enc Act where
 sz:=6
 rd _ vs a:=vs=a.vals/\a.ok
 len h:=by rw[h.1];rfl
 pu _ h:=h
instance:Lim Act:=⟨λa=>Lim.ok a.s/\Lim.ok a.t⟩
theorem actAt {w:World} {s:SV} {l:List Act} (h:zXP w s l) {i:Nat} {x:Act} (hx:l[i]?=some x):∃a,s.a=some a/\i<s.len/\x.ok/\w.cell? ((a.add (i * 6)).add 0)=some (.int .i64 x.op)/\w.cell? ((a.add (i * 6)).add 1)=some (.int .i64 x.a)/\
  w.cell? ((a.add (i * 6)).add 2)=some (.int .i64 x.b)/\w.cell? ((a.add (i * 6)).add 3)=some (.int .i64 x.c)/\w.cell? ((a.add (i * 6)).add 4)=some (.string x.s)/\w.cell? ((a.add (i * 6)).add 5)=some (.string x.t):=by
 obtain⟨a,ha,vs,h1,h2⟩:=h.get i x hx
 obtain⟨rfl,hok⟩:vs=x.vals/\x.ok:=h1
 have hi:i<l.length:=(List.getElem?_eq_some_iff.1 hx).1
 have h2:zZ7 w (a.add (i * 6)) x.vals:=h2
 exact⟨a,ha,by rw[h.len];exact hi,hok,h2 0 _ rfl,h2 1 _ rfl,h2 2 _ rfl,h2 3 _ rfl,h2 4 _ rfl,h2 5 _ rfl⟩
open Go.ChangeShapes Go.WideShapes Go.ChangeAt in
theorem yQg:zKl prog 51 Act:=λH enc w base sp held fuel cs x h hr=>by
 obtain⟨hl,hF⟩:=zZv (P:=prog) (t:=51) (ts:=[(3,0),(3,1),(3,2),(3,3),(9,4),(9,5)]) (by kernel_rfl) (by rfl) (λp hp=>by
  simp only[List.mem_cons,List.not_mem_nil,or_false]at hp
  rcases hp with rfl|rfl|rfl|rfl|rfl|rfl <;> kernel_rfl) (by kernel_rfl) h
 obtain⟨n0,v0,d0,c0,t0,w0⟩:=hF 0 _ rfl
 obtain⟨n1,v1,d1,c1,t1,w1⟩:=hF 1 _ rfl
 obtain⟨n2,v2,d2,c2,t2,w2⟩:=hF 2 _ rfl
 obtain⟨n3,v3,d3,c3,t3,w3⟩:=hF 3 _ rfl
 obtain⟨n4,v4,d4,c4,t4,w4⟩:=hF 4 _ rfl
 obtain⟨n5,v5,d5,c5,t5,w5⟩:=hF 5 _ rfl
 obtain⟨x0,r0,l0⟩:=zXd (zXN (by kernel_rfl)) t0 λm hm=>hr m (w0 m hm)
 obtain⟨x1,r1,l1⟩:=zXd (zXN (by kernel_rfl)) t1 λm hm=>hr m (w1 m hm)
 obtain⟨x2,r2,l2⟩:=zXd (zXN (by kernel_rfl)) t2 λm hm=>hr m (w2 m hm)
 obtain⟨x3,r3,l3⟩:=zXd (zXN (by kernel_rfl)) t3 λm hm=>hr m (w3 m hm)
 obtain⟨x4,r4,l4⟩:=zXd (zKy (by kernel_rfl)) t4 λm hm=>hr m (w4 m hm)
 obtain⟨x5,r5,l5⟩:=zXd (zKy (by kernel_rfl)) t5 λm hm=>hr m (w5 m hm)
 obtain⟨r0,b0⟩:=r0
 obtain⟨r1,b1⟩:=r1
 obtain⟨r2,b2⟩:=r2
 obtain⟨r3,b3⟩:=r3
 have r4:[v4]=[.string x4]:=r4
 have r5:[v5]=[.string x5]:=r5
 simp only[List.cons.injEq,and_true]at r0 r1 r2 r3 r4 r5
 subst r0 r1 r2 r3 r4 r5
 refine⟨⟨x0,x1,x2,x3,x4,x5⟩,⟨?_,b0,b1,b2,b3⟩,⟨l4,l5⟩⟩
 have hl:cs.length=6:=hl
 apply List.ext_getElem?
 intro i
 match i with
 | 0=>exact c0
 | 1=>exact c1
 | 2=>exact c2
 | 3=>exact c3
 | 4=>exact c4
 | 5=>exact c5
 | k+6=>rw[List.getElem?_eq_none (by omega)];rfl
def actV(x:Act):Val:=⟨x.c,x.b,x.t⟩
theorem xQA(x:Act)(w:World):Calls prog 21 #[actA x] w λe w'=>e=.returned (zZh (actV x))/\Pu w w':=by
 refine yKa _ _ _ _ _ _ w _ (alB λw1 al ay=>alB λw2 aj ag=>?_)
 have q1:=aj.blk ay
 refine⟨_,cl q1 3,_,cl q1 2,_,cl q1 5,zQj ag zWp.symm rfl rfl λw3 aH bP _=>⟨_,cl aH 0,_,cl aH 1,_,cl aH 2,rfl,(al.trans aj).andNew bP λi hi=>by rw[show i=w1.heap.size from hi];exact al.size⟩⟩
theorem xXi{w:World}{t:Tbl}{f r s:SV}{l:List Act}(h:zJG w t f r)(hl:zXP w s l):Calls prog 9 #[zY2 t f r,.slice s.a s.len s.cap] w λe w'=>∃b:Bool,e=.returned (.bool b)/\Pu w w'/\(b=false->l.length<=200):=by
 refine xQi _ _ _ _ w _ (alB λw1 al ay=>⟨_,cl ay 0,_,cl ay 1,_,cl ay 2,(yYX (h.pu al)).mono ?_⟩)
 rintro e w2 ⟨n,rfl,aj⟩
 have hp:=al.trans aj
 have hlen:=hl.len
 have hlim:=hl.lim
 refine⟨n,rfl,?_⟩
 refine zQ1 l.length (λk t w'=>t.2=(k:Int)/\Pu w w') ⟨rfl,hp⟩ ?_
 rintro k J ⟨n3,m⟩ w3 hk ⟨hm,am⟩ hJ
 obtain rfl:m=(k:Int):=hm
 dsimp only
 refine Br.of (λd1=>zQf λw4 ar _=>?_) (λd1=>?_)
 ·have ak:k<l.length:=by have:=zQm d1;omega
  obtain⟨x,hx⟩:=zXe ak
  obtain⟨a,ha,hi,hok,_,_,_,_,c4,c5⟩:=actAt ((hl.pu am).pu ar) hx
  refine⟨a,ha,by omega,by omega,x.s,c4,a,ha,by omega,by omega,x.t,c5,?_⟩
  rw[zQd (n:=(k:Int)+1) (by omega) (by omega)]
  exact hJ _ _ ak ⟨by dsimp only;omega,am.trans ar⟩
 ·refine Br.of (λd2=>⟨true,rfl,am,λe=>by cases e⟩) (λd2=>⟨_,rfl,am,λe=>?_⟩)
  have:=zQh e;omega
end Go.Proofs.YtcihcbfcgjepfaaGreatDoor
