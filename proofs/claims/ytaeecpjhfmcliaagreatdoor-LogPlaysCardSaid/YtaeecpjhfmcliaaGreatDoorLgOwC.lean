import Derived.Test.YtaeecpjhfmcliaaGreatDoorLgOwB
import Derived.Test.YtaeecpjhfmcliaaGreatDoorLgPrA
import Derived.Lib.SlBytesRow
import Derived.Lib.BufferRead
import Derived.Test.YtaeecpjhfmcliaaGreatDoorShTwentyThree
import Derived.Test.YtaeecpjhfmcliaaGreatDoorLgOwA
/- Table: the program's row of a record. No condition. -/
set_option maxRecDepth 100000
set_option linter.unusedVariables false
set_option linter.unusedSimpArgs false
namespace Go.Proofs.YtaeecpjhfmcliaaGreatDoor
open Go.Sh Go.RowKit Tryz
def yJi (J1:(Int × Int)->World->Prop) (du cq:Nat) (p7:Option Addr) (n8 de:Int) (aU:World):Prop:=
 ∃oC:Int,aU.cell? (⟨cq,0,none⟩:Addr)=some (.int .i64 oC)/\
 Br (oC == 0) (
 ∃kP:Int,aU.cell? ((⟨du,0,none⟩:Addr).add 2)=some (.int .i64 kP)/\
 Calls prog 155 #[.string (⟨#[32]⟩:ByteArray),.int .i64 kP] aU λe eg=>
 ∃oU:ByteArray,e=.returned (.string oU)/\
 Calls prog 199 #[.pointer p7,.string oU] eg λe fm=>
 ∃j3:Int,∃j4:Value,e=.returned (.tuple #[.int .i64 j3,j4])/\
 J1 (n8,(IntKind.i64.wrap (de+1))) fm) (
 dwE aU λir=>
 ∃S6:World->Prop,S6 ir/\
 ∃qH:Int,(∀w',S6 w'->w'.cell? ((⟨du,0,none⟩:Addr).add 1)=some (.int .i64 qH))/\
 ∃gz:ByteArray,(∀w',S6 w'->w'.cell? ((⟨du,0,none⟩:Addr).add 0)=some (.string gz))/\
 ∃gA:Int,(∀w',S6 w'->w'.cell? ((⟨du,0,none⟩:Addr).add 1)=some (.int .i64 gA))/\
 ∃gB:Int,(∀w',S6 w'->w'.cell? ((⟨du,0,none⟩:Addr).add 2)=some (.int .i64 gB))/\
 ∃gC:Bool,(∀w',S6 w'->w'.cell? ((⟨du,0,none⟩:Addr).add 3)=some (.bool gC))/\
 ∃dM:Int,(∀w',S6 w'->w'.cell? ((⟨cq,0,none⟩:Addr).add 0)=some (.int .i64 dM))/\
 ∃gD:Int,(∀w',S6 w'->w'.cell? ((⟨cq,0,none⟩:Addr).add 1)=some (.int .i64 gD))/\
 ∃gE:ByteArray,(∀w',S6 w'->w'.cell? ((⟨cq,0,none⟩:Addr).add 2)=some (.string gE))/\
 Calls prog 145 #[] ir λe gu=>
 ∃qI:Option Nat,e=.returned (.map qI)/\
 ∃S7:World->Prop,S7 gu/\(∀u,S7 u->S6 u)/\
 ∃j5:Int,∃iu:Int,∃iv:Int,∃gF:Value,∃j6:Value,(∀w',S7 w'->(Instr.lookup 176 (.map qI) (.int .i64 qH) false).run prog w'=.ok (.agg #[.int .u8 j5,.int .i64 iu,.int .i64 iv,gF,j6]) w')/\
 fnE gF λf63 first63 j7=>
 zQ5 prog f63=true/\Calls prog f63 (first63.toList ++ (([.agg #[.string gz,.int .i64 gA,.int .i64 gB,.bool gC],.agg #[.int .i64 dM,.int .i64 gD,.string gE]]:List Value) ++ j7.toList)).toArray gu λe gd=>
 ∃qJ:ByteArray,e=.returned (.string qJ)/\
 Calls prog 199 #[.pointer p7,.string qJ] gd λe fU=>
 ∃j8:Int,∃j9:Value,e=.returned (.tuple #[.int .i64 j8,j9])/\
 J1 (n8,(IntKind.i64.wrap (de+1))) fU)
theorem xJm{B:Nat}{w w':World}(h:Below B w w'):Fr (B<=·) w w':=⟨h.os,h.tape,h.output,h.size,λk _ hk=>h.block k (by omega)⟩
theorem yK0{T e:TypeId}{B b:Nat}{xs:List Value}{Bs:Nat->Prop}{w w':World}(h:Lib.IsBuilderF T e B b xs w)(hf:Fr Bs w w')(hn:∀i,B<=i->¬Bs i):Lib.IsBuilderF T e B b xs w':=by
 have one:∀{p},Lib.BuilderAtF T e B b p xs w->Lib.BuilderAtF T e B b p xs w':=by
  rintro p ⟨hB,v,hb,⟨hl,ho⟩,hne⟩
  refine⟨hB,v,hf.blk hb (hn b hB),⟨hl,?_⟩,hne⟩
  rcases ho with ho|⟨g,cap,cur,fz,h1,h2,h3,h4⟩
  ·exact .inl ho
  ·exact .inr ⟨g,cap,cur,fz,h1,h2,hf.blk h3 (hn g h2),h4⟩
 exact h.elim (λh=>.inl (one h)) (λh=>.inr (one h))
theorem xYp {w:World} {b:Nat} (hb:w.heap[b]?=some (.cells #[.pointer none,.slice none 0 0] 220)):Lib.IsBuilderF 220 5 b b (Lib.byteCells []) w:=
 .inl ⟨Nat.le_refl _,.slice none 0 0,hb,⟨rfl,.inl ⟨rfl,rfl⟩⟩,by simp[Value.ownBlock]⟩
theorem zW1 {w:World} {B b:Nat} {acc:List UInt8} (s:List UInt8) (h:Lib.IsBuilderF 220 5 B b (Lib.byteCells acc) w) (hl:acc.length+s.length<=140737488355328) (hB:B<=w.heap.size) :
  Calls prog 199 #[.pointer (some ⟨b,0,none⟩),.string (bs s)] w λe w'=>e=.returned (.tuple #[.int .i64 (s.length:Nat),.nilIface])/\Lib.IsBuilderF 220 5 B b (Lib.byteCells (acc ++ s)) w'/\Below B w w':=by
 refine(Any.Builder_WriteString_k Tryz.lays166 Tryz.Builder_Extra_105 B b (Lib.byteCells acc) (bs s) w h (by rw[Lib.byteCells_length,zQ8];exact hl) hB).mono ?_
 rintro e w' ⟨rfl,h1,h2,_⟩
 refine⟨by rw[zQ8],?_,h2⟩
 have e1:Lib.byteCells (acc ++ s)=Lib.byteCells acc ++ Lib.strCells (bs s):=by
  unfold Lib.byteCells Lib.strCells;rw[List.map_append,zQN]
 rw[e1]
 exact .inr h1
theorem u157:prog.underlying 243=some (.pointer 5):=by kernel_rfl
theorem xXN(w:World)(g n:Nat):Fr (·=g) w (w.freeze ⟨g,0,none⟩ n):=by
 unfold World.freeze
 split
 ·exact Fr.refl _ _
 ·refine⟨rfl,rfl,rfl,by simp,λk _ hk=>?_⟩
  have hk:¬g=k:=λe=>hk e.symm
  simp only[Array.getElem?_modify,hk,if_false]
theorem zK3 {w:World} {B b:Nat} {acc:List UInt8} (h:Lib.IsBuilderF 220 5 B b (Lib.byteCells acc) w) (h0:acc ≠ []):∃g cap,B<=g/\w.cell? ⟨b,1,none⟩=some (.slice (some ⟨g,0,none⟩) acc.length cap)/\g<w.heap.size/\
  Calls prog 201 #[.pointer (some ⟨b,0,none⟩)] w λe w'=>e=.returned (.string (bs acc))/\Fr (·=g) w w':=by
 obtain⟨p,hB,v,hb,⟨hl,ho⟩,hne⟩:∃p,Lib.BuilderAtF 220 5 B b p (Lib.byteCells acc) w:=h.elim (λh=>⟨_,h⟩) (λh=>⟨_,h⟩)
 rw[Lib.byteCells_length]at ho
 have hpos:0<acc.length:=List.length_pos_iff.2 h0
 rcases ho with⟨_,hz⟩|⟨g,cap,cur,fz,rfl,hg,hgb,hfz,hcap,hmx,hcs,htk⟩
 ·omega
 rw[Nat.mul_one]at hcs htk
 refine⟨g,cap,hg,by rw[zQE hb];rfl,zQy hgb,?_⟩
 refine yWT _ w _ (zQc λw1 ar hh1=>?_)
 have aA:w1.heap[b]?=some (.cells #[p,.slice (some ⟨g,0,none⟩) acc.length cap] 220 (0,0)):=ar.blk hb
 have hg1:w1.heap[g]?=some (.cells cur 5 fz):=ar.blk hgb
 refine⟨λu=>u=w1,rfl,⟨some ⟨g,0,none⟩,acc.length,cap⟩,λu hu=>by subst hu;exact cl aA 1,⟨some ⟨g,0,none⟩,acc.length,cap⟩,λu hu=>by subst hu;exact cl aA 1,some ⟨g,0,none⟩,w1,Lib.run_unsafeSliceData_row _ _ _ _ _ _ (show cap ≠ 0 by omega),rfl,bs acc,w1.freeze ⟨g,0,none⟩ acc.length,?_,rfl,?_⟩
 ·refine Lib.run_unsafeString_row w1 243 3 9 5 u157 (by kernel_rfl) g cur.size (by simp[World.shape?,hg1]) acc h0 (by omega) (by unfold maxLen at hmx;omega) λj x hx=>?_
  rw[zQs,zQE hg1,Nat.zero_add]
  have h1:(cur.toList.take acc.length)[j]?=some (.int .u8 x.toNat):=by rw[htk];simp[Lib.byteCells,hx]
  rw[List.getElem?_take]at h1
  split at h1
  ·simpa using h1
  ·cases h1
 ·exact(Fr.pu ar:Fr (·=g) w w1).trans (xXN w1 g _) λ_ h _=>h
theorem zQi.str{w0 w:World}{s:SV}{l:List UInt8}(h:zQi w0 w s l)(hz:w0.heap.size<=w.heap.size)(news:List UInt8)(hb:l.length+news.length<=70368744177664) :
  ∃(s':SV) (w':World),(Builtin.append_ #[22,9] 22 #[.slice s.a s.len s.cap,.string (bs news)]).run prog w=.ok (.slice s'.a s'.len s'.cap) w'/\zQi w0 w' s' (l ++ news)/\Fr (· ∈ zQe s) w w':=by
 have h1:=h.len
 have hi:=yVe
 obtain⟨i,h2,h3,h4,h5⟩:=info_parts hi
 have own:w.ownsRow 0 5 1 (.slice s.a s.len s.cap) s.len (l.map u8V):=h.1.owns
 have su:w.ownsRow w0.heap.size 5 1 (.slice s.a s.len s.cap) s.len (l.map u8V):=by
  obtain⟨q1,q2⟩:=own
  refine⟨q1,?_⟩
  rcases q2 with q2|⟨g,cap,cur,q3,_,q4⟩
  ·exact .inl q2
  ·refine .inr ⟨g,cap,cur,q3,h.2 g ?_,q4⟩
   simp only[Value.slice.injEq]at q3
   simp[zQe,q3.1]
 obtain⟨v2,w2,jg,vQ,hg,_⟩:=Lib.run_append_own_string (P:=prog) w w0.heap.size 22 9 22 5 i u37 u9 h2 h3 h4 h5 _ _ _ su (bs news) (by rw[zQ8];unfold maxLen;omega) (by rw[zQ8];omega) hz
 have hs:Lib.strCells (bs news)=news.map u8V:=by unfold Lib.strCells;rw[zQN];rfl
 rw[hs,←List.map_append]at vQ
 have hfr:Fr (· ∈ zQe s) w w2:=⟨hg.os,hg.tape,hg.output,hg.size,λk hk hn=>hg.block k hk (λe=>hn (by
  cases ha:s.a with
  | none=>rw[ha]at e;simp[Value.ownBlock]at e
  | some a=>rw[ha]at e;simp only[Value.ownBlock,Option.some.injEq]at e;simp[zQe,ha,e]))⟩
 obtain⟨q1,q2⟩:=vQ
 rcases q2 with⟨q2,q3⟩|⟨g,cap,cur,q2,q3,q4,q5,q6,q7,q8⟩
 ·refine⟨⟨none,0,0⟩,w2,by rw[jg,q2],⟨⟨by rw[q1,q3],.inl rfl⟩,by simp[zQe]⟩,hfr⟩
 ·exact⟨⟨some ⟨g,0,none⟩,s.len+(bs news).size,cap⟩,w2,by rw[jg,q2],⟨⟨q1,.inr ⟨g,cur,rfl,q4,q5,q6,q7,q8⟩⟩,λb hb=>by simp[zQe]at hb;omega⟩,hfr⟩
theorem zQi.app' {w0 w:World} {s m:SV} {l news:List UInt8} (h:zQi w0 w s l) (hz:w0.heap.size<=w.heap.size) (hl:m.len=news.length) (hn:∀(j:Nat) (b:UInt8),news[j]?=some b->∃a,m.a=some a/\w.cell? (a.add j)=some (u8V b)) (hb:l.length+news.length<=70368744177664) :
  ∃(s':SV) (w':World),(Builtin.append_ #[22,22] 22 #[.slice s.a s.len s.cap,.slice m.a m.len m.cap]).run prog w=.ok (.slice s'.a s'.len s'.cap) w'/\zQi w0 w' s' (l ++ news)/\Fr (· ∈ zQe s) w w'/\∀k ∈ zQe s',k ∈ zQe s∨w.heap.size<=k:=by
 have h1:=h.len
 obtain⟨s',w',hr,hrow,hf,hblk,_⟩:=zK5 (P:=prog) (ty:=22) u37 yVe rfl h.1 (m:=m) (news:=news.map u8V) (by simpa using hl) (λj u hu=>by
  obtain⟨b,hb,rfl⟩:∃b,news[j]?=some b/\u8V b=u:=by simpa using hu
  exact hn j b hb) (λu hu=>by simp at hu;obtain⟨x,_,rfl⟩:=hu;rfl) (by omega)
 refine⟨s',w',hr,⟨by rw[List.map_append];exact hrow,λb hb=>?_⟩,hf,hblk⟩
 rcases hblk b hb with h2|h2
 ·exact h.2 b h2
 ·omega
def zY0(sh:Fld->Val->List UInt8)(f:Fld)(v:Val):List UInt8:=if v.kind=0 then List.replicate f.width.toNat 32 else sh f v
def yJH(sh:Fld->Val->List UInt8)(l:List Fld)(vs:List Val):Prop:=∀(i:Nat) f v,l[i]?=some f->vs[i]?=some v->v.kind ≠ 0->(sh f v).length<=1000/\∃K,zXb f.kind=some K/\zQ5 prog K.wr=true/\
 ∀w,Calls prog K.wr #[zYY f,zJ5 v] w λe w'=>e=.returned (.string (bs (sh f v)))/\Pu w w'
theorem xZa {sh:Fld->Val->List UInt8} {w:World} {du cq b:Nat} {f:Fld} {v:Val} {acc:List UInt8} {nb de:Int} {J:(Int × Int)->World->Prop} (hw:0<=f.width/\f.width<=1000)
  (hW:v.kind ≠ 0->(sh f v).length<=1000/\∃K,zXb f.kind=some K/\zQ5 prog K.wr=true/\∀w,Calls prog K.wr #[zYY f,zJ5 v] w λe w'=>e=.returned (.string (bs (sh f v)))/\Pu w w')
  (iA:w.heap[du]?=some (.cells #[.string f.name,.int .i64 f.kind,.int .i64 f.width,.bool f.null] 129)) (il:w.heap[cq]?=some (.cells #[.int .i64 v.kind,.int .i64 v.n,.string v.s] 73))
  (hB:Lib.IsBuilderF 220 5 b b (Lib.byteCells acc) w) (hbs:b<w.heap.size) (ha:acc.length<=1000000)
  (hJ:∀w',Lib.IsBuilderF 220 5 b b (Lib.byteCells (acc ++ zY0 sh f v)) w'->Below b w w'->J (nb,IntKind.i64.wrap (de+1)) w') :
  yJi J du cq (some ⟨b,0,none⟩) nb de w:=by
 have pub:∀{w'},Pu w w'->Below b w w':=λh=>Below.mono h (by omega)
 refine⟨_,cl0 il,Br.of (λd=>⟨_,cl iA 2,?_⟩) (λd=>?_)⟩
 ·have ew:f.width=((f.width.toNat:Nat):Int):=by omega
  rw[show(Value.int .i64 f.width)=.int .i64 ((f.width.toNat:Nat):Int)by rw[←ew]]
  refine(zKC 32 f.width.toNat (by omega) w).mono ?_
  rintro e w2 ⟨rfl,aq⟩
  refine⟨_,rfl,(zW1 (List.replicate f.width.toNat 32) (yK0 hB (Fr.pu aq:Fr (λ_=>False) w w2) λ_ _ h=>h) (by simp only[List.length_replicate];omega) (by have:=aq.size;omega)).mono ?_⟩
  rintro e w3 ⟨rfl,hB3,hbl⟩
  have:zY0 sh f v=List.replicate f.width.toNat 32:=by unfold zY0;rw[if_pos (zQD d)]
  rw[←this]at hB3
  exact⟨_,_,rfl,hJ w3 hB3 ((pub aq).trans hbl)⟩
 ·have d:=zQm d
  obtain⟨hlen,K,hK,hbody,hcall⟩:=hW d
  refine zQc λw2 aq hh2=>⟨λu=>Pu w2 u,Pu.refl _,f.kind,λu hu=>cl (hu.blk (aq.blk iA)) 1,f.name,λu hu=>cl (hu.blk (aq.blk iA)) 0,f.kind,λu hu=>cl (hu.blk (aq.blk iA)) 1,f.width,λu hu=>cl (hu.blk (aq.blk iA)) 2,f.null,λu hu=>cl (hu.blk (aq.blk iA)) 3,
   v.kind,λu hu=>cl (hu.blk (aq.blk il)) 0,v.n,λu hu=>cl (hu.blk (aq.blk il)) 1,v.s,λu hu=>cl (hu.blk (aq.blk il)) 2,(zVf w2).mono ?_⟩
  rintro e w3 ⟨m,rfl,hm,_,au⟩
  refine⟨some m,rfl,λu=>Pu w3 u,Pu.refl _,λu hu=>au.trans hu,K.letter,K.least,K.most,.func (.func K.wr) #[] #[],.func (.func K.rd) #[] #[],λu hu=>?_,hbody,?_⟩
  ·have:=zW4 (hm.pu hu) f.kind false
   rw[hK]at this;exact this
  refine(hcall w3).mono ?_
  rintro e w4 ⟨rfl,aK⟩
  have fT:=(aq.trans au).trans aK
  refine⟨_,rfl,(zW1 (sh f v) (yK0 hB (Fr.pu fT:Fr (λ_=>False) w w4) λ_ _ h=>h) (by omega) (by have:=fT.size;omega)).mono ?_⟩
  rintro e w5 ⟨rfl,hB5,hbl⟩
  have:zY0 sh f v=sh f v:=by unfold zY0;rw[if_neg d]
  rw[←this]at hB5
  exact⟨_,_,rfl,hJ w5 hB5 ((pub fT).trans hbl)⟩
end Go.Proofs.YtaeecpjhfmcliaaGreatDoor
/- Table: the program's row of a record, walked. No condition. -/
namespace Go.Proofs.YtaeecpjhfmcliaaGreatDoor
open Go.Sh Go.RowKit Tryz
def yZ9(b:Bool):UInt8:=if b then 42 else 32
def zXL(sh:Fld->Val->List UInt8)(l:List Fld)(vs:List Val):List UInt8:=(l.zip vs).flatMap λx=>zY0 sh x.1 x.2
def zJI(sh:Fld->Val->List UInt8)(l:List Fld)(r:Rec):List UInt8:=[yZ9 r.gone] ++ flN (zXo l) (zXs l r.v) ++ zXL sh l r.v
theorem zKZ {sh:Fld->Val->List UInt8} {l:List Fld} {vs:List Val} {k:Nat} {f:Fld} {v:Val} (h:l[k]?=some f) (h2:vs[k]?=some v):zXL sh (l.take (k+1)) (vs.take (k+1))=zXL sh (l.take k) (vs.take k) ++ zY0 sh f v:=by
 unfold zXL
 rw[zQC h,zQC h2,List.zip_append (by
  have h1:=(List.getElem?_eq_some_iff.1 h).1
  have h3:=(List.getElem?_eq_some_iff.1 h2).1
  rw[List.length_take,List.length_take];omega),List.flatMap_append]
 simp
theorem xXK {sh:Fld->Val->List UInt8} {f:Fld} {v:Val} (hw:0<=f.width/\f.width<=254) (hs:v.kind ≠ 0->(sh f v).length<=1000):(zY0 sh f v).length<=1000:=by
 unfold zY0
 by_cases h:v.kind=0
 ·rw[if_pos h,List.length_replicate];omega
 ·rw[if_neg h];exact hs h
theorem yQq{sh:Fld->Val->List UInt8}{l:List Fld}{vs:List Val}(hw:WOk l)(hW:yJH sh l vs):∀k,k<=l.length->k<=vs.length->(zXL sh (l.take k) (vs.take k)).length<=1000 * k
 | 0,_,_=>by simp[zXL]
 | k+1,h1,h2=>by
  obtain⟨f,hf⟩:=zQK (show k<l.length by omega)
  obtain⟨v,hv⟩:=zQK (show k<vs.length by omega)
  rw[zKZ hf hv,List.length_append]
  have:=yQq hw hW k (by omega) (by omega)
  have:=xXK (sh:=sh) (v:=v) (hw f (List.mem_of_getElem? hf)) (λh=>(hW k f v hf hv h).1)
  omega
theorem zZy(l:List Fld)(k:Nat):((l.take k).filter (·.null)).length<=(l.filter (·.null)).length:=((List.take_sublist k l).filter _).length_le
structure yJk(w:World)(r3 pF b:Nat)(t l6:SV)(g:Bool)(N:Nat)(bits:List Bool)(acc:List UInt8)(w':World):Prop where
 pu:Pu w w'
 rcd:w'.heap[r3]?=some (.cells #[.bool g,.slice t.a t.len t.cap] 67)
 out:w'.heap[pF]?=some (.cells #[u8V (yZ9 g)] 5)
 fl:zQi w w' l6 (flN N bits)
 bld:Lib.IsBuilderF 220 5 b b (Lib.byteCells acc) w'
 lt:b<w'.heap.size
theorem yJk.below {w:World} {r3 pF b:Nat} {t l6:SV} {g:Bool} {N:Nat} {bits:List Bool} {acc acc':List UInt8} {w' w2:World} (h:yJk w r3 pF b t l6 g N bits acc w') (h3:r3<b) (mT:pF<b) (h6:∀k ∈ zQe l6,k<b) (hb:w.heap.size<=b) (hB:Below b w' w2) (hbld:Lib.IsBuilderF 220 5 b b (Lib.byteCells acc') w2):yJk w r3 pF b t l6 g N bits acc' w2:=
 ⟨Below.trans h.pu (hB.mono hb),by rw[hB.block _ h3];exact h.rcd,by rw[hB.block _ mT];exact h.out,h.fl.fr (xJm hB) λk hk e=>by have:=h6 k hk;have e:b<=k:=e;omega,hbld,Nat.lt_of_lt_of_le h.lt hB.size⟩
theorem row_c {w:World} {sh:Fld->Val->List UInt8} {l:List Fld} {s t:SV} {r:Rec} (h:zX3 w s l) (hr:zX3 w t r.v) (hl:r.v.length=l.length) (iP:l.length<=16) (hwid:WOk l) (hW:yJH sh l r.v) (hne:zXL sh l r.v ≠ []) :
  Calls prog 158 #[.slice s.a s.len s.cap,.agg #[.bool r.gone,.slice t.a t.len t.cap]] w λe w'=>∃q:SV,e=.returned (.slice q.a q.len q.cap)/\zQi w w' q (zJI sh l r)/\Pu w w':=by
 refine yV5 _ _ _ w _ ?_
 have hsl:=h.len
 have htl:=hr.len
 have hnl:=zYc l
 have hN0:(zXo l)=((l.filter (·.null)).length+7) / 8:=rfl
 refine alB λw1 ar aA=>alB λw2 aq aN=>⟨_,cl0 (aq.blk aA),?_⟩
 have l1:w.heap.size<w1.heap.size:=zQy aA
 have l2:w1.heap.size<w2.heap.size:=zQy aN
 have aE:=ar.trans aq
 -- behind the first byte
 have main:∀{w3:World},Pu w w3->w3.heap[w.heap.size]?=some (.cells #[.bool r.gone,.slice t.a t.len t.cap] 67)->w3.heap[w1.heap.size]?=some (.cells #[u8V (yZ9 r.gone)] 5)->
   Calls prog 203 #[.slice s.a s.len s.cap] w3 λe na=>∃iC:Int,e=.returned (.int .i64 iC)/\∃cH:SV,∃jU:World,(Instr.makeSlice 22 (.int .i64 iC) (.int .i64 iC)).run prog na=.ok (.slice cH.a cH.len cH.cap) jU/\
    alE (.cells #[.pointer none,.slice none 0 0] 220) jU λr7 qG=>
    yJV (λe w'=>∃q:SV,e=.returned (.slice q.a q.len q.cap)/\zQi w w' q (zJI sh l r)/\Pu w w') (some (⟨w.heap.size,0,none⟩:Addr)) ⟨(some ⟨w1.heap.size,0,none⟩),1,1⟩ cH (some (⟨r7,0,none⟩:Addr)) 0 s ((s.len:Nat):Int) 0 [] qG:=λ{w3} au bo zY=>by
  refine(zWu (h.pu au)).mono ?_
  rintro e w4 ⟨rfl,aK⟩
  obtain⟨i,i1,i2,i3,i4⟩:=info_parts yVe
  obtain⟨w5,e5,zZ,aT,s5⟩:=yXu (P:=prog) (w:=w4) u37 i1 i2 i3 .i64 .i64 (zXo l) (by rw[i4];omega) (by omega)
  refine⟨_,rfl,⟨some ⟨w4.heap.size,0,none⟩,zXo l,zXo l⟩,w5,e5,alB λw6 bE gh=>?_⟩
  have l3:w1.heap.size<w3.heap.size:=zQy zY
  have z4:w3.heap.size<=w4.heap.size:=aK.size
  have fl6:zQi w w6 ⟨some ⟨w4.heap.size,0,none⟩,zXo l,zXo l⟩ (flN (zXo l) []):=by
   refine⟨(?_:zQl w5 5 1 _ _).pu bE,λb hb=>by simp[zQe]at hb;have:=au.size;omega⟩
   rw[xYB,List.map_replicate]
   rw[show(Value.int IntKind.u8 0).cells=#[.int .u8 0]from rfl,toList_madeCells_one,Nat.mul_one]at zZ
   exact zZ
  have xB:yJk w w.heap.size w1.heap.size w5.heap.size t ⟨some ⟨w4.heap.size,0,none⟩,zXo l,zXo l⟩ r.gone (zXo l) [] [] w6:=
   ⟨((au.trans aK).trans aT).trans bE,((aK.trans aT).trans bE).blk bo,((aK.trans aT).trans bE).blk zY,fl6,xYp gh,zQy gh⟩
  have c3:w.heap.size<w5.heap.size:=by omega
  have c12:w1.heap.size<w5.heap.size:=by omega
  have c6:∀k ∈ zQe (⟨some ⟨w4.heap.size,0,none⟩,zXo l,zXo l⟩:SV),k<w5.heap.size:=λk hk=>by simp[zQe]at hk;omega
  have sO:w.heap.size<=w5.heap.size:=by omega
  generalize sv:(⟨some ⟨w4.heap.size,0,none⟩,zXo l,zXo l⟩:SV)=l6 at *
  have hl6len:l6.len=zXo l:=by rw[←sv]
  refine zQx l.length (λk u w'=>u.2=(k:Int)/\u.1=((zXs (l.take k) (r.v.take k)).length:Nat)/\yJk w w.heap.size w1.heap.size w5.heap.size t l6 r.gone (zXo l) (zXs (l.take k) (r.v.take k)) (zXL sh (l.take k) (r.v.take k)) w') ⟨rfl,rfl,xB⟩ ?_
  rintro k J ⟨u1,u2⟩ w7 hk ⟨z7,hu1,st⟩ hJ
  obtain rfl:u2=(k:Int):=z7
  obtain rfl:u1=((zXs (l.take k) (r.v.take k)).length:Nat):=hu1
  have hcl:=yQq hwid hW k hk (by omega)
  dsimp only
  refine Br.of (λd=>?_) (λd=>?_)
  ·have aH:k<l.length:=by have:=zQj d;omega
   obtain⟨f,hf⟩:=zQK aH
   obtain⟨v,hv⟩:=zQK (show k<r.v.length by omega)
   obtain⟨a,ha,hi,_,_,_,k0,k1,k2,k3⟩:=zJi (h.pu st.pu) hf
   refine⟨a,ha,by omega,by omega,_,k0,_,k1,_,k2,_,k3,yQr rfl s23.symm rfl λw8 bW hs8 kw=>?_⟩
   obtain⟨m,hm,hmi,_,_,v0,v1,v2⟩:=yVs (hr.pu (st.pu.trans bW)) hv
   refine⟨t,cl (bW.blk st.rcd) 1,m,hm,by omega,by omega,_,v0,_,v1,_,v2,yQr rfl s25.symm rfl λw9 cE hs9 nU=>?_⟩
   have sw:=cE.blk kw
   have oL:=bW.trans cE
   have hlt:=st.lt
   have z79:=oL.size
   have up:∀{w':World} {B:Nat->Prop} {bits:List Bool},Fr B w7 w'->(∀i,B i->i<w5.heap.size)->(¬B w.heap.size)->(¬B w1.heap.size)->(∀i,B i->w.heap.size<=i)->zQi w w' l6 (flN (zXo l) bits)->yJk w w.heap.size w1.heap.size w5.heap.size t l6 r.gone (zXo l) bits (zXL sh (l.take k) (r.v.take k)) w':=λ{w' B bits} hf q1 q2 q3 q4 q5=>
    ⟨st.pu.andNew hf q4,hf.blk st.rcd q2,hf.blk st.out q3,q5,yK0 st.bld hf λi hi hB=>by have:=q1 i hB;omega,Nat.lt_of_lt_of_le hlt hf.size⟩
   -- the end of the round
   have rest:∀{wz:World} {bits:List Bool},yJk w w.heap.size w1.heap.size w5.heap.size t l6 r.gone (zXo l) bits (zXL sh (l.take k) (r.v.take k)) wz->wz.heap[w7.heap.size]?=some (.cells #[.string f.name,.int .i64 f.kind,.int .i64 f.width,.bool f.null] 129)->wz.heap[w8.heap.size]?=some (.cells #[.int .i64 v.kind,.int .i64 v.n,.string v.s] 73)->
     bits=zXs (l.take (k+1)) (r.v.take (k+1))->∀{nb:Int},nb=(bits.length:Nat)->yJi J w7.heap.size w8.heap.size (some ⟨w5.heap.size,0,none⟩) nb (k:Int) wz:=λ{wz bits} q1 q2 q3 q4 {nb} q5=>by
    refine xZa (sh:=sh) (by have:=hwid f (List.mem_of_getElem? hf);omega) (hW k f v hf hv) q2 q3 q1.bld q1.lt (by omega) λw' hb' hbl=>?_
    rw[zQa (by omega) (by omega)]
    refine hJ _ _ aH ⟨by dsimp only;omega,by rw[q5,q4],?_⟩
    rw[←q4,zKZ hf hv]
    exact q1.below c3 c12 c6 sO hbl hb'
   have hns:=yQx hf hv
   refine⟨_,cl sw 3,Br.of (λd1=>⟨_,cl0 nU,Br.of (λd2=>?_) (λd2=>?_)⟩) (λd1=>?_)⟩
   ·
    rw[if_pos d1,decide_eq_true (zQD d2)]at hns
    generalize hbits:zXs (l.take k) (r.v.take k)=bits at *
    have hm1:bits.length+1<=(l.filter (·.null)).length:=by
     have h1:=zW8 (l.take (k+1)) (r.v.take (k+1))
     have h2:=zZy l (k+1)
     rw[hns]at h1;simp only[List.length_append,List.length_singleton]at h1;omega
    obtain⟨q,ρ,hqr,hρ⟩:∃q ρ,bits.length=8 * q+ρ/\ρ<8:=⟨bits.length / 8,bits.length % 8,by omega,by omega⟩
    have hqN:q<zXo l:=by omega
    have e1:((bits.length:Nat):Int).tdiv 8=(q:Int):=by rw[Int.tdiv_eq_ediv_of_nonneg (by omega)];omega
    have e2:((bits.length:Nat):Int).tmod 8=(ρ:Int):=by rw[Int.tmod_eq_emod_of_nonneg (by omega)];omega
    rw[e1,e2,zQa (n:=(q:Int)) (by omega) (by omega),zQa (n:=((bits.length:Nat):Int)+1) (by have:=List.length_filter_le (·.null) l;omega) (by have:=List.length_filter_le (·.null) l;omega)]
    refine zQc λaP dr hh10=>?_
    have fl10:zQi w aP l6 (flN (zXo l) bits):=(st.fl.pu oL).pu dr
    have hbl:=xXJ hqr hρ
    have hpow:2 ^ ρ<=128:=by
     rcases(by omega:ρ=0∨ρ=1∨ρ=2∨ρ=3∨ρ=4∨ρ=5∨ρ=6∨ρ=7)with rfl|rfl|rfl|rfl|rfl|rfl|rfl|rfl <;> decide
    obtain⟨a6,ha6,hc6⟩:=fl10.cell (xWG hqN)
    have ebyte:u8V (UInt8.ofNat (zZm bits q))=.int .u8 ((zZm bits q:Nat):Int):=by
     unfold u8V;congr 2;simp;omega
    rw[ebyte]at hc6
    refine⟨rfl,by omega,a6,ha6,by omega,by omega,_,by rw[zXn,Nat.mul_one];exact hc6,rfl,by omega,by omega,?_⟩
    rw[zXn,zXn,Nat.mul_one,or_bit ρ hρ _ hbl,zJ3]
    have ev:zZ6 ((zZm bits q+2 ^ ρ:Nat):Int)=UInt8.ofNat (zZm bits q+2 ^ ρ):=by rw[zYO];congr 1;omega
    rw[ev]
    obtain⟨a7,ha7,hst⟩:=fl10.1.st1 (j:=q) (by simp[zVd];exact hqN) (u8V (UInt8.ofNat (zZm bits q+2 ^ ρ))) (K:=λbm=>yJi J w7.heap.size w8.heap.size (some ⟨w5.heap.size,0,none⟩) (((bits.length:Nat):Int)+1) (k:Int) bm) λaU rC mR hs11=>by
     rw[←List.map_set,←xJe hqr hρ hqN]at rC
     have hfa:Fr (· ∈ zQe l6) w7 aU:=(Fr.pu (oL.trans dr):Fr (· ∈ zQe l6) w7 aP).trans mR λ_ h _=>h
     refine rest (up hfa c6 (λhc=>?_) (λhc=>?_) (λi hi=>st.fl.2 i hi) ⟨rC,st.fl.2⟩) (mR.blk (dr.blk sw) λhc=>by have:=c6 _ hc;omega) (mR.blk (dr.blk nU) λhc=>by have:=c6 _ hc;have:=bW.size;omega) hns.symm (by simp)
     ·rw[←sv]at hc;simp[zQe]at hc;omega
     ·rw[←sv]at hc;simp[zQe]at hc;omega
    exact⟨a7,ha7,by omega,by omega,hst⟩
   ·rw[if_pos d1,decide_eq_false (zQm d2)]at hns
    rw[zQa (n:=((zXs (l.take k) (r.v.take k)).length:Int)+1) (by have:=zW8 (l.take k) (r.v.take k);have:=zZy l k;have:=List.length_filter_le (·.null) l;omega) (by have:=zW8 (l.take k) (r.v.take k);have:=zZy l k;have:=List.length_filter_le (·.null) l;omega)]
    refine rest (bits:=zXs (l.take k) (r.v.take k) ++ [false]) (up (B:=λ_=>False) (Fr.pu oL) (λ_ h=>h.elim) (λh=>h) (λh=>h) (λ_ h=>h.elim) ?_) sw nU hns.symm (by simp)
    rw[xQj];exact st.fl.pu oL
   ·rw[if_neg (by rw[d1];simp),List.append_nil]at hns
    exact rest (up (B:=λ_=>False) (Fr.pu oL) (λ_ h=>h.elim) (λh=>h) (λh=>h) (λ_ h=>h.elim) (st.fl.pu oL)) sw nU hns.symm rfl
  ·have aH:k=l.length:=by have:=zQd d;omega
   subst aH
   rw[List.take_length,List.take_of_length_le (show r.v.length<=l.length by omega)]at *
   have hlt:=st.lt
   have out:zQi w w7 ⟨some ⟨w1.heap.size,0,none⟩,1,1⟩ [yZ9 r.gone]:=zQi.box (l:=[yZ9 r.gone]) st.out (by omega) (by simp)
   obtain⟨se,w8,e8,r8,f8,blk8⟩:=out.app' st.pu.size (m:=l6) (news:=flN (zXo l) (zXs l r.v)) st.fl.len (λj b hj=>st.fl.cell hj) (by simp only[List.length_singleton,zVd];omega)
   have hbld8:=yK0 st.bld f8 λi hi hB=>by simp[zQe]at hB;omega
   have z8:=f8.size
   have bW:Pu w w8:=st.pu.andNew f8 λi hi=>out.2 i hi
   obtain⟨g,cap,hbg,hcell,hgl,hcall⟩:=zK3 hbld8 hne
   have hg7:g<w7.heap.size:=by
    obtain⟨g',cap',_,hcell',hgl',_⟩:=zK3 st.bld hne
    have e1:w8.heap[w5.heap.size]?=w7.heap[w5.heap.size]?:=f8.block _ hlt (by simp[zQe];omega)
    have e2:w8.cell? ⟨w5.heap.size,1,none⟩=w7.cell? ⟨w5.heap.size,1,none⟩:=World.cell?_of_block e1
    rw[e2,hcell']at hcell
    simp only[Option.some.injEq,Value.slice.injEq,Addr.mk.injEq]at hcell
    omega
   refine⟨se,w8,e8,hcall.mono ?_⟩
   rintro e w9 ⟨rfl,hfg⟩
   have r9:zQi w w9 se ([yZ9 r.gone] ++ flN (zXo l) (zXs l r.v)):=r8.fr hfg λb hb e=>by
    have e:b=g:=e
    rcases blk8 b hb with h1|h1
    ·simp[zQe]at h1;omega
    ·omega
   have hbl:Fr (w5.heap.size<=·) w8 w9:=⟨hfg.os,hfg.tape,hfg.output,hfg.size,λi hi hn=>hfg.block i hi (λe=>hn (by have e:i=g:=e;omega))⟩
   have cE:Pu w w9:=bW.andNew hbl λi hi=>Nat.le_trans sO hi
   obtain⟨q,aP,e10,du,f10⟩:=r9.str cE.size (zXL sh l r.v) (by simp only[List.length_append,List.length_singleton,zVd];omega)
   exact⟨_,rfl,q,aP,e10,q,rfl,du,cE.andNew f10 λi hi=>r9.2 i hi⟩
 refine Br.of (λd=>⟨_,rfl,by omega,by omega,?_⟩) (λd=>main aE (aq.blk aA) (by rw[d];exact aN))
 show st1 ((⟨w1.heap.size,0,none⟩:Addr).add 0) _ w2 _
 rw[zQs]
 refine zQu aN (by decide) λw3 sA bo=>main ?_ ?_ (by rw[d];exact bo)
 ·exact aE.andNew (B:=(·=w1.heap.size)) (by rw[sA];exact Fr.cell w2 _ 0 _) λi hi=>by omega
 ·exact(by rw[sA];exact Fr.cell w2 _ 0 _:Fr (·=w1.heap.size) w2 w3).blk (aq.blk aA) (by omega)
end Go.Proofs.YtaeecpjhfmcliaaGreatDoor
/- Table: the row with its code; the table that each law looks at. No condition. -/
namespace Go.Proofs.YtaeecpjhfmcliaaGreatDoor
open Go.Sh Go.RowKit Tryz
def yQD(f:Fld)(v:Val):List UInt8:=v.s.data.toList ++ List.replicate (f.width.toNat - v.s.size) 32
theorem yZU (f:Fld) (v:Val) (hw:(v.s.size:Int)<=f.width/\f.width<=1000) (w:World):Calls prog 186 #[zYY f,zJ5 v] w λe w'=>e=.returned (.string (bs (yQD f v)))/\Pu w w':=by
 refine yWK _ _ _ _ _ _ _ w _ ?_
 refine alB λw1 ar aA=>alB λw2 aq aN=>zQc λw3 au _=>?_
 have bj:=aq.trans au
 refine⟨λu=>Pu w3 u,Pu.refl _,v.s,λu hu=>cl (hu.blk (au.blk aN)) 2,f.width,λu hu=>cl (hu.blk (bj.blk aA)) 2,v.s,λu hu=>cl (hu.blk (au.blk aN)) 2,?_⟩
 rw[zQa (by omega) (by omega)]
 have e1:f.width - ((v.s.size:Nat):Int)=((f.width.toNat - v.s.size:Nat):Int):=by omega
 rw[e1]
 refine(zKC 32 _ (by omega) w3).mono ?_
 rintro e w4 ⟨rfl,aK⟩
 refine⟨_,rfl,aK,?_,?_,(ar.trans bj).trans aK⟩
 ·have e4:=zQ8 (List.replicate (f.width.toNat - v.s.size) 32);rw[List.length_replicate]at e4;omega
 ·rw[zJA,zQN];rfl
def zJq(t:Tbl)(k:Int):Int:=if zQh t ≠ 0 then zQh t else if k<1∨(t.recs.length:Int)<k then 4 else 0
def yQv(sh:Fld->Val->List UInt8)(t:Tbl)(k:Int):List UInt8:=if zJq t k=0 then(match t.recs[(k - 1).toNat]? with|some x=>zJI sh t.fields x|none=>[])else []
theorem zYS{l:List Fld}{p:Int}{r:Rec}(h:zQ1 l p r=0):r.v.length=l.length/\zK6 l p r.v=true:=by
 by_cases h1:r.v.length=l.length
 ·rw[zJx h1]at h
  refine⟨h1,?_⟩
  cases hx:zK6 l p r.v
  ·rw[hx]at h;simp at h
  ·rfl
 ·rw[zVn h1]at h;omega
theorem zJl{l:List Fld}{p:Int}:∀{rs:List Rec},zXu l p rs=0->∀x ∈ rs,zQ1 l p x=0
 | [],_,_,hx=>by cases hx
 | a :: rs,h,x,hx=>by
  unfold zXu at h
  by_cases h1:zQ1 l p a ≠ 0
  ·rw[if_pos h1]at h;exact absurd h h1
  ·rw[if_neg h1]at h
   rcases List.mem_cons.1 hx with rfl|hx
   ·simpa using h1
   ·exact zJl h x hx
theorem rowE_c {w:World} {t:Tbl} {f r:SV} {sh:Fld->Val->List UInt8} (h:zXi w t f r) (hl:Lim.ok t.fields) (k:Int) (hk:zJe k) (hW:zQh t=0->∀x ∈ t.recs,yJH sh t.fields x.v/\zXL sh t.fields x.v ≠ []) :
  Calls prog 144 #[zKQ t f r,.int .i64 k] w λe w'=>∃q:SV,e=.returned (.tuple #[.slice q.a q.len q.cap,.int .i64 (zJq t k)])/\zQi w w' q (yQv sh t k)/\Pu w w':=by
 refine yKR _ _ _ _ w _ ?_
 refine alB λw1 ar aA=>⟨_,cl aA 0,_,cl aA 1,_,cl aA 2,(zZq (h.pu ar) hl).mono ?_⟩
 rintro e w2 ⟨rfl,aq⟩
 have dO:=ar.trans aq
 have hrl:=h.recs.len
 have no:∀{c:Int},c ≠ 0->zJq t k=c->∃q:SV,Ending.returned (.tuple #[.slice none 0 0,.int .i64 c])=.returned (.tuple #[.slice q.a q.len q.cap,.int .i64 (zJq t k)])/\zQi w w2 q (yQv sh t k)/\Pu w w2:=λh1 h2=>
  ⟨⟨none,0,0⟩,by rw[h2],by unfold yQv;rw[if_neg (by rw[h2];exact h1)];exact zQi.nil w w2,dO⟩
 refine⟨_,rfl,Br.of (λd=>no (zQw d) (by unfold zJq;rw[if_pos (zQw d)])) (λd=>Br.of (λd1=>no (c:=4) (by decide) ?_) (λd1=>⟨_,cl (aq.blk aA) 2,Br.of (λd2=>no (c:=4) (by decide) ?_) (λd2=>?_)⟩))⟩
 ·unfold zJq;rw[if_neg (by rw[zQq d];simp),if_pos (.inl (zQj d1))]
 ·unfold zJq;rw[if_neg (by rw[zQq d];simp),if_pos (.inr (by have:=zQj d2;omega))]
 have hv:=zQq d
 have d1:=zQd d1
 have d2:=zQd d2
 obtain⟨hpg,hvf,cJ,hfb⟩:=zKU hv
 obtain⟨_,hall,_,iP,_⟩:=zXl hvf
 have hki:(k - 1).toNat<t.recs.length:=by omega
 obtain⟨x,hx⟩:=zQK hki
 have hxm:=List.mem_of_getElem? hx
 obtain⟨hxl,_⟩:=zYS (zJl hfb x hxm)
 have hc:zJq t k=0:=by unfold zJq;rw[if_neg (by rw[hv];simp),if_neg (by omega)]
 refine zQc λw3 au _=>?_
 have bj:=aq.trans au
 have aV:=ar.trans bj
 rw[zQa (by omega) (by have:=h.recs.lim;omega)]
 obtain⟨a,q,ha,hi,hq,c0,c1⟩:=zKn (h.recs.pu aV) hx
 refine⟨_,cl (bj.blk aA) 1,_,cl (bj.blk aA) 2,a,ha,by omega,by omega,_,c0,_,c1,(row_c (sh:=sh) (h.fields.pu aV) hq hxl iP (WOk.of hall) (hW hv x hxm).1 (hW hv x hxm).2).mono ?_⟩
 rintro e w4 ⟨o,rfl,ho,aK⟩
 refine⟨o,rfl,o,by rw[hc],?_,aV.trans aK⟩
 unfold yQv;rw[if_pos hc,hx];exact ho.low aV.size
theorem xZH{w0 w:World}{s:SV}{l:List UInt8}(h:zQi w0 w s l):(convert 22 9 (.slice s.a s.len s.cap)).run prog w=.ok (.string (bs l)) w:=by
 obtain⟨⟨hl,ho⟩,_⟩:=h
 rcases ho with rfl|⟨g,cur,h3,h4,h5,h6,h7,h8⟩
 ·have:l=[]:=by simpa using hl
  subst this
  exact Lib.run_convert_nil_bytes w 22 9 5 0 u37 u5 u9
 ·have hsl:s.len=(bs l).size:=by rw[zQ8];simp at hl;omega
  rw[h3,hsl]
  refine Lib.run_convert_whole w 22 5 9 u37 u5 u9 g 0 (bs l) (λi hi=>?_) s.cap
  rw[Nat.zero_add,zQE h4]
  have hi':i<l.length:=by rw[zQ8]at hi;exact hi
  have h1:(cur.toList.take (s.len * 1))[i]?=some (u8V (l[i])):=by rw[h8];simp[hi']
  rw[List.getElem?_take]at h1
  split at h1
  ·have h2:cur[i]?=some (u8V l[i]):=by simpa using h1
   rw[h2];rfl
  ·cases h1
end Go.Proofs.YtaeecpjhfmcliaaGreatDoor
/- Table: lengths and offsets; how large a table is; the law on which tables there are. No condition. -/
namespace Go.Proofs.YtaeecpjhfmcliaaGreatDoor
open Go.Sh Go.RowKit Tryz
theorem zVo{w:World}{s:SV}{l:List Val}(h:zX3 w s l):Calls prog 58 #[.slice s.a s.len s.cap] w λe w'=>∃n:Int,e=.returned (.int .i64 n)/\Pu w w':=by
 refine yYo _ w _ ?_
 have hlen:=h.len
 have hlim:=h.lim
 refine zQx l.length (λk t w'=>t.2=(k:Int)/\Pu w w') ⟨rfl,Pu.refl _⟩ ?_
 rintro k J ⟨t1,t2⟩ w2 hk ⟨ht,hp⟩ hJ
 obtain rfl:t2=(k:Int):=ht
 dsimp only
 refine Br.of (λd=>?_) (λd=>⟨_,rfl,hp⟩)
 have aH:k<l.length:=by have:=zQj d;omega
 obtain⟨v,hv⟩:=zQK aH
 obtain⟨a,ha,hi,_,_,c0,c1,c2⟩:=yVs (h.pu hp) hv
 refine⟨a,ha,by omega,by omega,_,c2,?_⟩
 rw[zQa (n:=(k:Int)+1) (by omega) (by omega)]
 exact hJ _ _ aH ⟨by dsimp only;omega,hp⟩
theorem xZI{w:World}{t:Tbl}{f r:SV}(h:zXi w t f r):Calls prog 57 #[zKQ t f r] w λe w'=>∃n:Int,e=.returned (.int .i64 n)/\Pu w w':=by
 refine xQK _ _ _ w _ (alB λw1 ar aA=>⟨_,cl aA 1,?_⟩)
 have hfl:=h.fields.len
 have hfm:=h.fields.lim
 have hrl:=h.recs.len
 have hrm:=h.recs.lim
 refine zQx t.fields.length (λk u w'=>u.2=(k:Int)/\Pu w1 w') ⟨rfl,Pu.refl _⟩ ?_
 rintro k J ⟨u1,u2⟩ w2 hk ⟨hu,hp⟩ hJ
 obtain rfl:u2=(k:Int):=hu
 dsimp only
 refine⟨_,cl (hp.blk aA) 1,Br.of (λd=>?_) (λd=>?_)⟩
 ·have aH:k<t.fields.length:=by have:=zQj d;omega
  obtain⟨x,hx⟩:=zQK aH
  obtain⟨a,ha,hi,_,_,c,_⟩:=zJi (h.fields.pu (ar.trans hp)) hx
  refine⟨_,cl (hp.blk aA) 1,a,ha,by omega,by omega,_,c,?_⟩
  rw[zQa (n:=(k:Int)+1) (by omega) (by omega)]
  exact hJ _ _ aH ⟨by dsimp only;omega,hp⟩
 clear hJ J
 refine zQx t.recs.length (λk u w'=>u.2=(k:Int)/\Pu w1 w') ⟨rfl,hp⟩ ?_
 rintro k J ⟨u1,u2⟩ w2 hk ⟨hu,hp⟩ hJ
 obtain rfl:u2=(k:Int):=hu
 dsimp only
 refine⟨_,cl (hp.blk aA) 2,Br.of (λd=>?_) (λd=>⟨_,rfl,ar.trans hp⟩)⟩
 have aH:k<t.recs.length:=by have:=zQj d;omega
 obtain⟨x,hx⟩:=zQK aH
 obtain⟨a,q,ha,hi,hq,c0,c1⟩:=zKn (h.recs.pu (ar.trans hp)) hx
 refine⟨_,cl (hp.blk aA) 2,a,ha,by omega,by omega,_,c1,(zVo hq).mono ?_⟩
 rintro e w3 ⟨n,rfl,au⟩
 refine⟨n,rfl,?_⟩
 rw[zQa (n:=(k:Int)+1) (by omega) (by omega)]
 exact hJ _ _ aH ⟨by dsimp only;omega,hp.trans au⟩
theorem u55:prog.underlying 52=some (.slice 3):=by kernel_rfl
theorem info3:(prog.info? 3).map (λi=>(i.zero,i.size,i.bytes))=some (some (.int .i64 0),1,8):=by kernel_rfl
def zJD(w0 w:World)(s:SV)(l:List Int):Prop:=zQl w 3 1 s (l.map yJv)/\∀b ∈ zQe s,w0.heap.size<=b
theorem zJD.len{w0 w:World}{s:SV}{l:List Int}(h:zJD w0 w s l):s.len=l.length:=by have:=h.1.1;simp at this;omega
theorem zJD.pu{w0 w w':World}{s:SV}{l:List Int}(h:zJD w0 w s l)(hp:Pu w w'):zJD w0 w' s l:=⟨h.1.pu hp,h.2⟩
theorem zJD.nil(w0 w:World):zJD w0 w ⟨none,0,0⟩ []:=⟨zQl.nil w 3 1,by simp[zQe]⟩
theorem zJD.low{w0 w1 w:World}{s:SV}{l:List Int}(h:zJD w1 w s l)(hz:w0.heap.size<=w1.heap.size):zJD w0 w s l:=⟨h.1,λb hb=>Nat.le_trans hz (h.2 b hb)⟩
theorem zJD.push {w0 w:World} {s:SV} {l:List Int} (h:zJD w0 w s l) (hz:w0.heap.size<=w.heap.size) {r:Nat} {n:Int} (hr:w.heap[r]?=some (.cells #[.int .i64 n] 3)) (hb:l.length<=1000000) :
  ∃(s':SV) (w':World),(Builtin.append_ #[52,52] 52 #[.slice s.a s.len s.cap,.slice (some ⟨r,0,none⟩) 1 1]).run prog w=.ok (.slice s'.a s'.len s'.cap) w'/\zJD w0 w' s' (l ++ [n])/\Fr (· ∈ zQe s) w w':=by
 have h1:=h.len
 obtain⟨s',w',hra,hrow,hf,hblk,_⟩:=xJb (P:=prog) (ty:=52) u55 info3 rfl h.1 (a:=⟨r,0,none⟩) (u:=.int .i64 n) (by rw[zQE hr];rfl) rfl (by omega)
 refine⟨s',w',hra,⟨by simpa using hrow,λb hb=>?_⟩,hf⟩
 rcases hblk b hb with h2|h2
 ·exact h.2 b h2
 ·omega
theorem yWc{w w0 w1:World}{a b:SV}{l:List Int}(ha:zJD w0 w a l)(hb:zJD w1 w b l):Calls prog 24 #[.slice a.a a.len a.cap,.slice b.a b.len b.cap] w λe w'=>e=.returned (.bool true)/\Pu w w':=by
 refine yY6 _ _ w _ ?_
 have hla:=ha.len
 have hlb:=hb.len
 have hc:=ha.1.le_cap
 have hm:maxLen=9223372036854775807:=by unfold maxLen;omega
 refine Br.of (λd=>absurd (zQw d) (by omega)) (λ_=>zQx l.length (λk t w'=>t=(k:Int)/\Pu w w') ⟨rfl,Pu.refl _⟩ ?_)
 rintro k J t w2 hk ⟨ht,hp⟩ hJ
 obtain rfl:t=(k:Int):=ht
 refine Br.of (λd=>zQc λw3 au _=>?_) (λd=>⟨rfl,hp⟩)
 have aH:k<l.length:=by have:=zQj d;omega
 obtain⟨n,hn⟩:=zQK aH
 obtain⟨x,hx,hcx,_⟩:=((ha.pu hp).pu au).1.cell (j:=k) (v:=yJv n) (by rw[List.getElem?_map,hn];rfl)
 obtain⟨y,hy,hcy,_⟩:=((hb.pu hp).pu au).1.cell (j:=k) (v:=yJv n) (by rw[List.getElem?_map,hn];rfl)
 refine⟨x,hx,by omega,by omega,n,by rw[zXn,Nat.mul_one];exact hcx,y,hy,by omega,by omega,n,by rw[zXn,Nat.mul_one];exact hcy,Br.of (λd1=>absurd rfl (zQw d1)) (λ_=>?_)⟩
 rw[zQa (by omega) (by omega)]
 exact hJ _ _ aH ⟨by omega,hp.trans au⟩
theorem yYG{w:World}{s:SV}{l:List Fld}(h:zX3 w s l)(hl:Lim.ok l):Calls prog 128 #[.slice s.a s.len s.cap] w λe w'=>e=.returned (.tuple #[.int .i64 (if zQT l=0 then zXG l else 0),.int .i64 (zQT l)])/\Pu w w':=by
 refine yV9 _ w _ ((zZI h hl).mono ?_)
 rintro e w1 ⟨rfl,ar⟩
 refine⟨_,rfl,Br.of (λd=>⟨by rw[if_neg (zQw d)],ar⟩) (λd=>(zVQ (h.pu ar) (WOk.of (zXl (zQq d)).2.1)).mono ?_)⟩
 rintro e w2 ⟨rfl,aq⟩
 exact⟨_,rfl,by rw[zQq d];rfl,ar.trans aq⟩
end Go.Proofs.YtaeecpjhfmcliaaGreatDoor
/- Table: the law on what a value becomes in a field. No condition. -/
namespace Go.Proofs.YtaeecpjhfmcliaaGreatDoor
open Go.Sh Go.RowKit Tryz
theorem zKW{α:Type}(p:α->Bool):∀l:List α,(l.dropWhile p).dropWhile p=l.dropWhile p
 | []=>rfl
 | a :: l=>by
  by_cases h:p a=true
  ·rw[List.dropWhile_cons,if_pos h];exact zKW p l
  ·rw[List.dropWhile_cons,if_neg h,List.dropWhile_cons,if_neg h]
theorem xXz(l:List UInt8):zZs (zZs l)=zZs l:=by
 unfold zZs;rw[List.reverse_reverse,zKW]
theorem yZY(a b:Val)(w:World):Calls prog 140 #[zJ5 a,zJ5 b] w λe w'=>e=.returned (.bool (decide (a=b)))/\Pu w w':=by
 refine yWF _ _ _ _ _ _ w _ ?_
 refine alB λw1 ar aA=>alB λw2 aq aN=>?_
 have hp:=ar.trans aq
 have q1:=aq.blk aA
 refine⟨_,cl0 q1,_,cl0 aN,Br.of (λd=>⟨_,cl q1 1,_,cl aN 1,Br.of (λd1=>⟨_,cl q1 2,_,cl aN 2,?_,hp⟩) (λd1=>⟨?_,hp⟩)⟩) (λd=>⟨?_,hp⟩)⟩
 ·rw[zX5]
  congr 2
  have e1:a.kind=b.kind:=zQD d
  have e2:a.n=b.n:=zQD d1
  refine zZ5 ⟨λe3=>?_,λe=>by rw[e]⟩
  obtain⟨a1,a2,a3⟩:=a;obtain⟨b1,b2,b3⟩:=b
  simp only at e1 e2 e3
  subst e1 e2 e3;rfl
 ·rw[decide_eq_false (λe=>zQm d1 (by rw[e]))]
 ·rw[decide_eq_false (λe=>zQm d (by rw[e]))]
end Go.Proofs.YtaeecpjhfmcliaaGreatDoor
/- Table: records of empty values, places of names; the law on them. No condition. -/
namespace Go.Proofs.YtaeecpjhfmcliaaGreatDoor
open Go.Sh Go.RowKit Tryz
theorem u44:prog.underlying 38=some (.slice 73):=by kernel_rfl
theorem info25:(prog.info? 73).map (λi=>(i.zero,i.size,i.bytes))=some (some (.agg #[.int .i64 0,.int .i64 0,.string ⟨#[]⟩]),3,32):=by kernel_rfl
theorem s46:zX8 prog 67=2:=by kernel_rfl
theorem zX6(v:Val):(zVt v).length=3:=rfl
def zJH(w0 w:World)(s:SV)(l:List Val):Prop:=zQl w 73 3 s (l.flatMap zVt)/\∀b ∈ zQe s,w0.heap.size<=b
theorem zJH.len{w0 w:World}{s:SV}{l:List Val}(h:zJH w0 w s l):s.len=l.length:=h.1.len zX6 (by decide)
theorem zJH.pu{w0 w w':World}{s:SV}{l:List Val}(h:zJH w0 w s l)(hp:Pu w w'):zJH w0 w' s l:=⟨h.1.pu hp,h.2⟩
theorem zJH.fr{B:Nat->Prop}{w0 w w':World}{s:SV}{l:List Val}(h:zJH w0 w s l)(hf:Fr B w w')(hn:∀k ∈ zQe s,¬B k):zJH w0 w' s l:=⟨h.1.fr hf hn,h.2⟩
theorem zJH.nil(w0 w:World):zJH w0 w ⟨none,0,0⟩ []:=⟨zQl.nil w 73 3,by simp[zQe]⟩
theorem zJH.low{w0 w1 w:World}{s:SV}{l:List Val}(h:zJH w1 w s l)(hz:w0.heap.size<=w1.heap.size):zJH w0 w s l:=⟨h.1,λb hb=>Nat.le_trans hz (h.2 b hb)⟩
theorem zJH.push {w0 w:World} {s:SV} {l:List Val} (h:zJH w0 w s l) (hz:w0.heap.size<=w.heap.size) {r:Nat} {v:Val} {c:Array Value} (hr:w.heap[r]?=some (.cells c 73)) (hc:c=#[.int .i64 v.kind,.int .i64 v.n,.string v.s]) (hb:l.length<=1000000) :
  ∃(s':SV) (w':World),(Builtin.append_ #[38,38] 38 #[.slice s.a s.len s.cap,.slice (some ⟨r,0,none⟩) 1 1]).run prog w=.ok (.slice s'.a s'.len s'.cap) w'/\zJH w0 w' s' (l ++ [v])/\Fr (· ∈ zQe s) w w':=by
 subst hc
 have h1:=h.len
 obtain⟨s',w',hra,hrow,hf,hblk,_⟩:=zQz (P:=prog) (ty:=38) u44 info25 rfl (by decide) h.1 (A:=some ⟨r,0,none⟩) (m:=1) (c:=1) (news:=zVt v) rfl (λj u hu=>⟨_,rfl,by rw[cl hr];simpa using hu⟩) (λu hu=>by simp[zVt]at hu;rcases hu with rfl|rfl|rfl <;> rfl) (by omega)
 refine⟨s',w',hra,⟨by simpa using hrow,λb hb=>?_⟩,hf⟩
 rcases hblk b hb with h2|h2
 ·exact h.2 b h2
 ·omega
structure RdV(w:World)(s:SV)(l:List Val):Prop where
 len:s.len=l.length
 lim:l.length<=140737488355328
 get:∀i v,l[i]?=some v->∃a,s.a=some a/\w.cell? ((a.add (i * 3)).add 0)=some (.int .i64 v.kind)/\w.cell? ((a.add (i * 3)).add 1)=some (.int .i64 v.n)/\w.cell? ((a.add (i * 3)).add 2)=some (.string v.s)
theorem RdV.pu{w w':World}{s:SV}{l:List Val}(h:RdV w s l)(hp:Pu w w'):RdV w' s l:=⟨h.len,h.lim,λi v hv=>by
 obtain⟨a,h1,h2,h3,h4⟩:=h.get i v hv
 exact⟨a,h1,hp.cell h2,hp.cell h3,hp.cell h4⟩⟩
theorem RdV.of{w:World}{s:SV}{l:List Val}(h:zX3 w s l):RdV w s l:=⟨h.len,by have:=h.lim;have:=h.len;omega,λi v hv=>by
 obtain⟨a,h1,_,_,_,h2,h3,h4⟩:=yVs h hv
 exact⟨a,h1,h2,h3,h4⟩⟩
theorem zJH.rd{w0 w:World}{s:SV}{l:List Val}(h:zJH w0 w s l)(hb:l.length<=140737488355328):RdV w s l:=⟨h.len,hb,λi v hv=>by
 obtain⟨a,h1,_,h2⟩:=h.1.elem zX6 hv (o:=0) rfl
 obtain⟨a',pA,_,h3⟩:=h.1.elem zX6 hv (o:=1) rfl
 obtain⟨a'',h1'',_,h4⟩:=h.1.elem zX6 hv (o:=2) rfl
 rw[h1]at pA h1'';cases pA;cases h1''
 exact⟨a,h1,h2,h3,h4⟩⟩
theorem zJ2 {α:Type} {a b:List α} {k:Nat} (h:a.take k=b.take k) {x y:α} (hx:a[k]?=some x) (hy:b[k]?=some y) (e:x=y):a.take (k+1)=b.take (k+1):=by
 rw[zQC hx,zQC hy,h,e]
theorem yZy{w:World}{s t:SV}{a b:List Val}(ha:RdV w s a)(hb:RdV w t b):Calls prog 105 #[.slice s.a s.len s.cap,.slice t.a t.len t.cap] w λe w'=>e=.returned (.bool (decide (a=b)))/\Pu w w':=by
 refine yWs _ _ w _ ?_
 have hla:=ha.len
 have hlb:=hb.len
 have hlim:=ha.lim
 refine Br.of (λd=>⟨by rw[decide_eq_false (λe=>zQw d (by rw[hla,hlb,e]))],Pu.refl _⟩) (λd=>?_)
 have hab:a.length=b.length:=by have:=zQq d;omega
 refine zQx a.length (λk t w'=>t=(k:Int)/\a.take k=b.take k/\Pu w w') ⟨rfl,by simp,Pu.refl _⟩ ?_
 rintro k J t w2 hk ⟨ht,he,hp⟩ hJ
 obtain rfl:t=(k:Int):=ht
 refine Br.of (λd1=>zQc λw3 au _=>?_) (λd1=>?_)
 ·have aH:k<a.length:=by have:=zQj d1;omega
  obtain⟨x,hx⟩:=zQK aH
  obtain⟨y,hy⟩:=zQK (show k<b.length by omega)
  obtain⟨p,hpa,c0,c1,c2⟩:=((ha.pu hp).pu au).get k x hx
  obtain⟨q,hqa,e0,e1,e2⟩:=((hb.pu hp).pu au).get k y hy
  refine⟨p,hpa,by omega,by omega,_,c0,_,c1,_,c2,q,hqa,by omega,by omega,_,e0,_,e1,_,e2,(yZY x y w3).mono ?_⟩
  rintro e w4 ⟨rfl,aK⟩
  refine⟨_,rfl,Br.of (λd2=>⟨?_,(hp.trans au).trans aK⟩) (λd2=>?_)⟩
  ·rw[decide_eq_false]
   intro e
   subst e
   rw[hx]at hy
   cases hy
   simp at d2
  ·rw[zQa (by omega) (by omega)]
   exact hJ _ _ aH ⟨by omega,zJ2 he hx hy (by simpa using d2),(hp.trans au).trans aK⟩
 ·have aH:k=a.length:=by have:=zQd d1;omega
  subst aH
  rw[List.take_length,hab,List.take_length]at he
  exact⟨by rw[decide_eq_true he],hp⟩
theorem zVA{w:World}{s t:SV}{x y:Bool}{a b:List Val}(ha:RdV w s a)(hb:RdV w t b):Calls prog 70 #[.agg #[.bool x,.slice s.a s.len s.cap],.agg #[.bool y,.slice t.a t.len t.cap]] w λe w'=>e=.returned (.bool (decide (x=y) && decide (a=b)))/\Pu w w':=by
 refine xQ8 _ _ _ _ w _ (alB λw1 ar aA=>alB λw2 aq aN=>?_)
 have hp:=ar.trans aq
 have q1:=aq.blk aA
 refine⟨_,cl0 q1,_,cl0 aN,Br.of (λd=>⟨_,cl q1 1,_,cl aN 1,(yZy (ha.pu hp) (hb.pu hp)).mono ?_⟩) (λd=>⟨?_,hp⟩)⟩
 ·rintro e w3 ⟨rfl,au⟩
  exact⟨_,rfl,by rw[decide_eq_true (p:=x=y) (by simpa using d)];rfl,hp.trans au⟩
 ·rw[decide_eq_false (p:=x=y) (by simpa using d)];rfl
theorem yYs(n:Int)(w:World):Calls prog 45 #[.int .i64 n] w λe w'=>e=.returned (zJ5 ⟨2,n,⟨#[]⟩⟩)/\Pu w w':=by
 refine yYy _ w _ (yQr rfl s25.symm rfl λw1 ar _ aA=>?_)
 exact⟨_,cl aA 0,_,cl aA 1,_,cl aA 2,rfl,ar⟩
def zJm(l:List Fld):List Val:=if zQT l=0 then l.map zXk else []
theorem xX2 {α β:Type} (g:α->β) {l:List α} {k:Nat} {x:α} (h:l[k]?=some x):(l.take (k+1)).map g=(l.take k).map g ++ [g x]:=by
 rw[zQC h,List.map_append];rfl
theorem xY8{w:World}{s:SV}{l:List Fld}(h:zX3 w s l)(hl:Lim.ok l):Calls prog 164 #[.slice s.a s.len s.cap] w λe w'=>∃q:SV,e=.returned (.tuple #[.agg #[.bool false,.slice q.a q.len q.cap],.int .i64 (zQT l)])/\zJH w w' q (zJm l)/\Pu w w':=by
 refine yWH _ w _ (alB λw1 ar aA=>(zZI (h.pu ar) hl).mono ?_)
 rintro e w2 ⟨rfl,aq⟩
 have aN:=aq.blk aA
 refine⟨_,rfl,Br.of (λd=>zQg aN s46.symm rfl rfl λw3 bo fS qn=>⟨_,cl bo 0,⟨none,0,0⟩,cl bo 1,⟨none,0,0⟩,rfl,by unfold zJm;rw[if_neg (zQw d)];exact zJH.nil w w3,(ar.trans aq).andNew fS λi hi=>by omega⟩) (λd=>alB λw3 au bo=>?_)⟩
 have hv:=zQq d
 have iP:=(zXl hv).2.2.2.1
 have hlen:=h.len
 have aV:=(ar.trans aq).trans au
 have z1:=ar.size
 have z2:=aq.size
 have z3:=au.size
 have lt2:w2.heap.size<w3.heap.size:=zQy bo
 have nX:w.heap.size<w1.heap.size:=zQy aA
 refine zQx l.length (λk t w'=>t=(k:Int)/\∃q:SV,w'.heap[w.heap.size]?=some (.cells #[.bool false,.slice none 0 0] 67)/\w'.heap[w2.heap.size]?=some (.cells #[.bool false,.slice q.a q.len q.cap] 67)/\zJH w3 w' q ((l.take k).map zXk)/\w3.heap.size<=w'.heap.size/\Pu w w') ⟨rfl,⟨none,0,0⟩,au.blk aN,bo,zJH.nil w3 w3,Nat.le_refl _,aV⟩ ?_
 rintro k J t w4 hk ⟨ht,q,a1,a2,a3,a4,hp⟩ hJ
 obtain rfl:t=(k:Int):=ht
 have htl:=List.length_take_le k l
 refine Br.of (λd1=>?_) (λd1=>?_)
 ·have aH:k<l.length:=by have:=zQj d1;omega
  obtain⟨f,hf⟩:=zQK aH
  obtain⟨a,ha,hi,_,_,_,c0,c1,c2,c3⟩:=zJi (h.pu hp) hf
  refine⟨a,ha,by omega,by omega,_,c0,_,c1,_,c2,_,c3,yQr rfl s23.symm rfl λw5 aT ou bq=>zQc λw6 bE _=>?_⟩
  have b6:=(aT.trans bE).blk a2
  refine⟨λu=>Pu w6 u,Pu.refl _,q,λu hu=>cl (hu.blk b6) 1,f.name,λu hu=>cl (hu.blk (bE.blk bq)) 0,f.kind,λu hu=>cl (hu.blk (bE.blk bq)) 1,f.width,λu hu=>cl (hu.blk (bE.blk bq)) 2,f.null,λu hu=>cl (hu.blk (bE.blk bq)) 3,(xZc f w6).mono ?_⟩
  rintro e w7 ⟨rfl,cy⟩
  refine⟨_,_,_,rfl,cy,alB λw8 bW kw=>⟨cy.trans bW,?_⟩⟩
  have oM:=(((aT.trans bE).trans cy).trans bW)
  have z48:=oM.size
  obtain⟨q',w9,e9,r9,f9⟩:=(a3.pu oM).push (by omega) kw rfl (by rw[List.length_map];omega)
  have n2:¬w2.heap.size ∈ zQe q:=λhc=>by have:=a3.2 _ hc;omega
  have n1:¬w.heap.size ∈ zQe q:=λhc=>by have:=a3.2 _ hc;omega
  have nU:=f9.blk (oM.blk a2) n2
  have hb9':=f9.blk (oM.blk a1) n1
  refine⟨q',w9,e9,zQu (o:=1) nU (by simp) λwx ex hbx=>?_⟩
  have fx:Fr (·=w2.heap.size) w9 wx:=by rw[ex];exact Fr.cell w9 _ _ _
  have zx:wx.heap.size=w9.heap.size:=by rw[ex];simp
  have z9:=f9.size
  rw[zQa (by omega) (by omega)]
  refine hJ _ _ aH ⟨by omega,q',fx.blk hb9' (by omega),hbx,by rw[xX2 _ hf];exact r9.fr fx λi hi=>by have:=r9.2 i hi;omega,by omega,?_⟩
  have p9:Pu w w9:=(hp.trans oM).andNew f9 λi hi=>by have:=a3.2 i hi;omega
  exact p9.andNew fx λi hi=>by omega
 ·have aH:k=l.length:=by have:=zQd d1;omega
  subst aH
  rw[List.take_length]at a3
  refine⟨_,cl a2 0,q,cl a2 1,zQg a1 s46.symm rfl rfl λw5 bq dq ou=>⟨_,cl bq 0,q,cl bq 1,q,by rw[hv],?_,hp.andNew dq λi hi=>by omega⟩⟩
  unfold zJm;rw[if_pos hv]
  exact(a3.fr dq λi hi=>by have:=a3.2 i hi;omega).low (by omega)
def yQc(l:List Fld)(s:ByteArray):Option Nat:=l.findIdx? λf=>decide (f.name=s)
def xZK(l:List Fld)(s:ByteArray):Int:=((yQc l s).getD 0:Nat)
theorem xYH{w:World}{s:SV}{l:List Fld}(h:zX3 w s l)(nm:ByteArray):Calls prog 82 #[.slice s.a s.len s.cap,.string nm] w λe w'=>e=.returned (.tuple #[.int .i64 (xZK l nm),.bool (yQc l nm).isSome])/\Pu w w':=by
 refine yVQ _ _ w _ (alB λw1 ar aA=>?_)
 have tells:yKd l 114 #[.pointer (some ⟨w.heap.size,0,none⟩)] (λf=>decide (f.name=nm)) w1:=⟨by kernel_rfl,λf hf w2 aq=>by
  refine yWd _ _ _ _ _ w2 _ (alB λw3 au bo=>⟨_,cl0 bo,_,cl0 ((aq.trans au).blk aA),?_,au⟩)
  rw[zX5]⟩
 refine(zYj (h.pu ar) tells).mono ?_
 rintro e w2 ⟨rfl,aq⟩
 refine⟨_,rfl,_,w2,yYN _ _ _ _ _ _,?_,ar.trans aq⟩
 unfold xZK yQc
 cases l.findIdx? λf=>decide (f.name=nm)with
 | none=>rfl
 | some k=>
  dsimp only
  rw[Int.max_eq_left (by omega),decide_eq_true (by omega)];rfl
theorem xZO{w:World}{s:SV}{l:List Fld}(h:zX3 w s l)(nm:ByteArray):Calls prog 103 #[.slice s.a s.len s.cap,.string nm] w λe w'=>e=.returned (.tuple #[.int .i64 (xZK l nm),.bool (yQc l nm).isSome])/\Pu w w':=by
 refine yWJ _ _ w _ ?_
 have hlen:=h.len
 have hlim:=h.lim
 refine zQx l.length (λk t w'=>t=(k:Int)/\(∀f ∈ l.take k,decide (f.name=nm)=false)/\Pu w w') ⟨rfl,by simp,Pu.refl _⟩ ?_
 rintro k J t w2 hk ⟨ht,hno,hp⟩ hJ
 obtain rfl:t=(k:Int):=ht
 refine Br.of (λd=>?_) (λd=>?_)
 ·have aH:k<l.length:=by have:=zQj d;omega
  obtain⟨f,hf⟩:=zQK aH
  obtain⟨a,ha,hi,_,_,c,_⟩:=zJi (h.pu hp) hf
  refine⟨a,ha,by omega,by omega,_,c,?_⟩
  rw[zX5]
  refine Br.of (λd1=>?_) (λd1=>?_)
  ·have:yQc l nm=some k:=zV5 hno hf d1
   refine⟨?_,hp⟩
   unfold xZK;rw[this];rfl
  ·rw[zQa (by omega) (by omega)]
   refine hJ _ _ aH ⟨by omega,λf' hf'=>?_,hp⟩
   rw[zQC hf,List.mem_append,List.mem_singleton]at hf'
   rcases hf' with hf'|rfl
   ·exact hno f' hf'
   ·exact d1
 ·have aH:k=l.length:=by have:=zQd d;omega
  subst aH
  rw[List.take_length]at hno
  have:yQc l nm=none:=by unfold yQc;rw[List.findIdx?_eq_none_iff];exact λx hx=>by rw[hno x hx]
  refine⟨?_,hp⟩
  unfold xZK;rw[this];rfl
end Go.Proofs.YtaeecpjhfmcliaaGreatDoor
/- Table: in which records two tables differ; the law on it. No condition. -/
namespace Go.Proofs.YtaeecpjhfmcliaaGreatDoor
open Go.Sh Go.RowKit Tryz
theorem xZP:zY5 prog 129 [.str,.int .i64,.int .i64,.bool]=true:=by kernel_rfl
theorem xYa:prog.eqGuardType prog.depth 129=false:=by kernel_rfl
theorem xXM:zY5 prog 73 [.int .i64,.int .i64,.str]=true:=by kernel_rfl
theorem under4:prog.underlying 4=some .bool:=by kernel_rfl
theorem xZN{a b:Fld}(h:zVV a=zVV b):a=b:=by
 obtain⟨a1,a2,a3,a4⟩:=a;obtain⟨b1,b2,b3,b4⟩:=b
 simp[zVV]at h;simp[h]
theorem neFld(x y:Operand)(a b:Fld)(w:World):(eqS .neq 129 x y (zYY a) (zYY b)).run prog w=.ok (.bool (!decide (a=b))) w:=by
 refine yJS (ks:=[.str,.int .i64,.int .i64,.bool]) (xs:=zVV a) (ys:=zVV b) xZP xYa rfl rfl ?_ w
 rw[decide_eq_true_iff]
 exact⟨λh=>by rw[h],xZN⟩
theorem neVal(x y:Operand)(a b:Val)(w:World):(eqS .neq 73 x y (zJ5 a) (zJ5 b)).run prog w=.ok (.bool (!decide (a=b))) w:=by
 refine yJS (ks:=[.int .i64,.int .i64,.str]) (xs:=zVt a) (ys:=zVt b) xXM yY3 rfl rfl ?_ w
 rw[decide_eq_true_iff]
 exact⟨λh=>by rw[h],yKx⟩
structure RdF(w:World)(s:SV)(l:List Fld):Prop where
 len:s.len=l.length
 lim:l.length<=140737488355328
 get:∀i f,l[i]?=some f->∃a,s.a=some a/\w.cell? ((a.add (i * 4)).add 0)=some (.string f.name)/\w.cell? ((a.add (i * 4)).add 1)=some (.int .i64 f.kind)/\w.cell? ((a.add (i * 4)).add 2)=some (.int .i64 f.width)/\w.cell? ((a.add (i * 4)).add 3)=some (.bool f.null)
theorem RdF.pu{w w':World}{s:SV}{l:List Fld}(h:RdF w s l)(hp:Pu w w'):RdF w' s l:=⟨h.len,h.lim,λi v hv=>by
 obtain⟨a,h1,h2,h3,h4,h5⟩:=h.get i v hv
 exact⟨a,h1,hp.cell h2,hp.cell h3,hp.cell h4,hp.cell h5⟩⟩
theorem RdF.of{w:World}{s:SV}{l:List Fld}(h:zX3 w s l):RdF w s l:=⟨h.len,by have:=h.lim;have:=h.len;omega,λi v hv=>by
 obtain⟨a,h1,_,_,_,_,h2,h3,h4,h5⟩:=zJi h hv
 exact⟨a,h1,h2,h3,h4,h5⟩⟩
theorem yXb {α:Type} {a b:List α} {k:Nat} {x y:α} (hx:a[k]?=some x) (hy:b[k]?=some y) (h:x ≠ y):a ≠ b:=λe=>by
 subst e;rw[hx]at hy;cases hy;exact h rfl
theorem xJs{w:World}{s t:SV}{a b:List Fld}(ha:RdF w s a)(hb:RdF w t b):Calls prog 107 #[.slice s.a s.len s.cap,.slice t.a t.len t.cap] w λe w'=>e=.returned (.bool (decide (a=b)))/\Pu w w':=by
 refine yKP _ _ w _ ?_
 have hla:=ha.len
 have hlb:=hb.len
 have hlim:=ha.lim
 refine Br.of (λd=>⟨by rw[decide_eq_false (λe=>zQw d (by rw[hla,hlb,e]))],Pu.refl _⟩) (λd=>?_)
 have hab:a.length=b.length:=by have:=zQq d;omega
 refine zQx a.length (λk t w'=>t=(k:Int)/\a.take k=b.take k/\Pu w w') ⟨rfl,by simp,Pu.refl _⟩ ?_
 rintro k J t w2 hk ⟨ht,he,hp⟩ hJ
 obtain rfl:t=(k:Int):=ht
 refine Br.of (λd1=>zQc λw3 au _=>?_) (λd1=>?_)
 ·have aH:k<a.length:=by have:=zQj d1;omega
  obtain⟨x,hx⟩:=zQK aH
  obtain⟨y,hy⟩:=zQK (show k<b.length by omega)
  obtain⟨p,hpa,c0,c1,c2,c3⟩:=((ha.pu hp).pu au).get k x hx
  obtain⟨q,hqa,e0,e1,e2,e3⟩:=((hb.pu hp).pu au).get k y hy
  refine⟨p,hpa,by omega,by omega,_,c0,_,c1,_,c2,_,c3,q,hqa,by omega,by omega,_,e0,_,e1,_,e2,_,e3,_,λw=>neFld _ _ x y w,Br.of (λd2=>⟨?_,hp.trans au⟩) (λd2=>?_)⟩
  ·rw[decide_eq_false (yXb hx hy (by simpa using d2))]
  ·rw[zQa (by omega) (by omega)]
   exact hJ _ _ aH ⟨by omega,zJ2 he hx hy (by simpa using d2),hp.trans au⟩
 ·have aH:k=a.length:=by have:=zQd d1;omega
  subst aH
  rw[List.take_length,hab,List.take_length]at he
  exact⟨by rw[decide_eq_true he],hp⟩
theorem zVC{w:World}{s t:SV}{a b:List Fld}(ha:RdF w s a)(hb:RdF w t b):Calls prog 69 #[.slice s.a s.len s.cap,.slice t.a t.len t.cap] w λe w'=>e=.returned (.bool (decide (a=b)))/\Pu w w':=by
 refine xQm _ _ w _ ?_
 have hla:=ha.len
 have hlb:=hb.len
 have hlim:=ha.lim
 refine Br.of (λd=>⟨by rw[decide_eq_false (λe=>zQw d (by rw[hla,hlb,e]))],Pu.refl _⟩) (λd=>?_)
 have hab:a.length=b.length:=by have:=zQq d;omega
 refine zQx a.length (λk t w'=>t=(k:Int)/\a.take k=b.take k/\Pu w w') ⟨rfl,by simp,Pu.refl _⟩ ?_
 rintro k J t w2 hk ⟨ht,he,hp⟩ hJ
 obtain rfl:t=(k:Int):=ht
 refine Br.of (λd1=>zQc λw3 au _=>?_) (λd1=>?_)
 ·have aH:k<a.length:=by have:=zQj d1;omega
  obtain⟨x,hx⟩:=zQK aH
  obtain⟨y,hy⟩:=zQK (show k<b.length by omega)
  obtain⟨p,hpa,c0,c1,c2,c3⟩:=((ha.pu hp).pu au).get k x hx
  obtain⟨q,hqa,e0,e1,e2,e3⟩:=((hb.pu hp).pu au).get k y hy
  refine⟨p,hpa,by omega,by omega,_,c0,_,c1,_,c2,_,c3,q,hqa,by omega,by omega,_,e0,_,e1,_,e2,_,e3,_,λw=>neFld _ _ x y w,Br.of (λd2=>⟨?_,hp.trans au⟩) (λd2=>?_)⟩
  ·rw[decide_eq_false (yXb hx hy (by simpa using d2))]
  ·rw[zQa (by omega) (by omega)]
   exact hJ _ _ aH ⟨by omega,zJ2 he hx hy (by simpa using d2),hp.trans au⟩
 ·have aH:k=a.length:=by have:=zQd d1;omega
  subst aH
  rw[List.take_length,hab,List.take_length]at he
  exact⟨by rw[decide_eq_true he],hp⟩
theorem xZw{w:World}{s t:SV}{a b:List Val}(ha:RdV w s a)(hb:RdV w t b):Calls prog 108 #[.slice s.a s.len s.cap,.slice t.a t.len t.cap] w λe w'=>e=.returned (.bool (decide (a=b)))/\Pu w w':=by
 refine yWD _ _ w _ ?_
 have hla:=ha.len
 have hlb:=hb.len
 have hlim:=ha.lim
 refine Br.of (λd=>⟨by rw[decide_eq_false (λe=>zQw d (by rw[hla,hlb,e]))],Pu.refl _⟩) (λd=>?_)
 have hab:a.length=b.length:=by have:=zQq d;omega
 refine zQx a.length (λk t w'=>t=(k:Int)/\a.take k=b.take k/\Pu w w') ⟨rfl,by simp,Pu.refl _⟩ ?_
 rintro k J t w2 hk ⟨ht,he,hp⟩ hJ
 obtain rfl:t=(k:Int):=ht
 refine Br.of (λd1=>zQc λw3 au _=>?_) (λd1=>?_)
 ·have aH:k<a.length:=by have:=zQj d1;omega
  obtain⟨x,hx⟩:=zQK aH
  obtain⟨y,hy⟩:=zQK (show k<b.length by omega)
  obtain⟨p,hpa,c0,c1,c2⟩:=((ha.pu hp).pu au).get k x hx
  obtain⟨q,hqa,e0,e1,e2⟩:=((hb.pu hp).pu au).get k y hy
  refine⟨p,hpa,by omega,by omega,_,c0,_,c1,_,c2,q,hqa,by omega,by omega,_,e0,_,e1,_,e2,_,λw=>neVal _ _ x y w,Br.of (λd2=>⟨?_,hp.trans au⟩) (λd2=>?_)⟩
  ·rw[decide_eq_false (yXb hx hy (by simpa using d2))]
  ·rw[zQa (by omega) (by omega)]
   exact hJ _ _ aH ⟨by omega,zJ2 he hx hy (by simpa using d2),hp.trans au⟩
 ·have aH:k=a.length:=by have:=zQd d1;omega
  subst aH
  rw[List.take_length,hab,List.take_length]at he
  exact⟨by rw[decide_eq_true he],hp⟩
def zV2(a b:List Rec)(i:Nat):Bool:=!decide (a[i]?=b[i]?)
def zKX(a b:List Rec)(n:Nat):List Int:=((List.range n).filter (zV2 a b)).map λ(i:Nat)=>(i:Int)+1
theorem xZ3{a b:List Rec}{n:Nat}(h:zV2 a b n=true):zKX a b (n+1)=zKX a b n ++ [(n:Int)+1]:=by
 simp[zKX,List.range_succ,List.filter_append,h]
theorem xXS{a b:List Rec}{n:Nat}(h:zV2 a b n=false):zKX a b (n+1)=zKX a b n:=by
 simp[zKX,List.range_succ,List.filter_append,h]
theorem xZB(a b:List Rec)(n:Nat):(zKX a b n).length<=n:=by
 unfold zKX;rw[List.length_map]
 have:=List.length_filter_le (zV2 a b) (List.range n)
 simpa using this
def yX9(a b:Tbl):List Int × Int:=if zQh a ≠ 0 then([],zQh a)else if zQh b ≠ 0 then([],zQh b)else if a.page ≠ b.page∨a.fields ≠ b.fields then([],10)else(zKX a.recs b.recs (max a.recs.length b.recs.length),0)
theorem zJB{t:Tbl}(h:zQh t=0):zQV t.page=true/\zQT t.fields=0/\t.recs.length<=300/\zXu t.fields t.page t.recs=0:=by
 unfold zQh at h
 split at h
 ·rename_i h1
  split at h
  ·rename_i h2;exact absurd h h2
  ·rename_i h2
   split at h
   ·cases h
   ·rename_i h3;exact⟨h1,by omega,by omega,h⟩
 ·cases h
theorem xVN{x y:Rec}:(x=y) ↔ (x.gone=y.gone/\x.v=y.v):=by
 obtain⟨a,b⟩:=x;obtain⟨c,d⟩:=y;simp
theorem zVR{a b:List Rec}{i:Nat}(hm:i<max a.length b.length)(h:a.length<=i∨b.length<=i):zV2 a b i=true:=by
 unfold zV2
 rw[Bool.not_eq_true',decide_eq_false_iff_not]
 intro e
 rcases h with h|h
 ·rw[List.getElem?_eq_none h,List.getElem?_eq_getElem (by omega)]at e;cases e
 ·rw[List.getElem?_eq_none (l:=b) h,List.getElem?_eq_getElem (by omega)]at e;cases e
theorem xQW {a b:List Rec} {i:Nat} {x y:Rec} (hx:a[i]?=some x) (hy:b[i]?=some y):zV2 a b i=!(decide (x.gone=y.gone) && decide (x.v=y.v)):=by
 unfold zV2
 rw[hx,hy]
 congr 1
 rw[←Bool.decide_and]
 refine zZ5 ?_
 rw[Option.some_inj,xVN]
theorem zJG {w0 w:World} {s:SV} {a b:List Rec} {k:Nat} (h:zJD w0 w s (zKX a b k)) (hp:Pu w0 w) (hk:k<1000) {J:SV × Int->World->Prop}
  (hJ:∀(s':SV) w',zJD w0 w' s' (zKX a b (k+1))->Pu w0 w'->J (s',(k:Int)+1) w') (hd:zV2 a b k=true) :
  alE (.cells #[.int .i64 (IntKind.i64.wrap ((k:Int)+1))] 3) w λr w4=>∃jV:SV,∃w5:World,(Builtin.append_ #[52,52] 52 #[.slice s.a s.len s.cap,.slice (some ⟨r,0,none⟩) 1 1]).run prog w4=.ok (.slice jV.a jV.len jV.cap) w5/\J (jV,IntKind.i64.wrap ((k:Int)+1)) w5:=by
 rw[zQa (by omega) (by omega)]
 refine alB λw4 aK cI=>?_
 have hl:=xZB a b k
 obtain⟨s',w5,e5,r5,f5⟩:=(h.pu aK).push (hp.trans aK).size cI (by omega)
 refine⟨s',w5,e5,hJ s' w5 (by rw[xZ3 hd];exact r5) ?_⟩
 exact(hp.trans aK).andNew f5 λi hi=>h.2 i hi
theorem zWZ {w:World} {r:Nat} {t:Tbl} {f q:SV} (h:w.heap[r]?=some (.cells #[.int .i64 t.page,.slice f.a f.len f.cap,.slice q.a q.len q.cap] 35)):w.cell? ((⟨r,0,none⟩:Addr).add 0)=some (.int .i64 t.page)/\w.cell? ((⟨r,0,none⟩:Addr).add 1)=some (.slice f.a f.len f.cap)/\w.cell? ((⟨r,0,none⟩:Addr).add 2)=some (.slice q.a q.len q.cap):=⟨cl h 0,cl h 1,cl h 2⟩
theorem yJQ{w:World}{a b:Tbl}{fa ra fb rb:SV}(ha:zXi w a fa ra)(hb:zXi w b fb rb)(la:Lim.ok a.fields)(lb:Lim.ok b.fields):Calls prog 72 #[zKQ a fa ra,zKQ b fb rb] w
  λe w'=>∃q:SV,e=.returned (.tuple #[.slice q.a q.len q.cap,.int .i64 (yX9 a b).2])/\zJD w w' q (yX9 a b).1/\Pu w w':=by
 refine xQY _ _ _ _ _ _ w _ (alB λw1 ar aA=>alB λw2 aq aN=>?_)
 have aE:=ar.trans aq
 have b1:∀{wz},Pu w2 wz->_:=λ{wz} (h:Pu w2 wz)=>zWZ (t:=a) (f:=fa) (q:=ra) (h.blk (aq.blk aA))
 have b2:∀{wz},Pu w2 wz->_:=λ{wz} (h:Pu w2 wz)=>zWZ (t:=b) (f:=fb) (q:=rb) (h.blk aN)
 refine⟨_,(b1 (Pu.refl _)).1,_,(b1 (Pu.refl _)).2.1,_,(b1 (Pu.refl _)).2.2,(zZq (ha.pu aE) la).mono ?_⟩
 rintro e w3 ⟨rfl,au⟩
 refine⟨_,rfl,Br.of (λd=>⟨⟨none,0,0⟩,by unfold yX9;rw[if_pos (zQw d)],by unfold yX9;rw[if_pos (zQw d)];exact zJD.nil w w3,aE.trans au⟩) (λd=>?_)⟩
 have va:=zQq d
 refine⟨_,(b2 au).1,_,(b2 au).2.1,_,(b2 au).2.2,(zZq (hb.pu (aE.trans au)) lb).mono ?_⟩
 rintro e w4 ⟨rfl,aK⟩
 have p4:=au.trans aK
 have eA:yX9 a b=if zQh b ≠ 0 then([],zQh b)else if a.page ≠ b.page∨a.fields ≠ b.fields then([],10)else(zKX a.recs b.recs (max a.recs.length b.recs.length),0):=by unfold yX9;rw[if_neg (by omega)]
 refine⟨_,rfl,Br.of (λd=>⟨⟨none,0,0⟩,by rw[eA,if_pos (zQw d)],by rw[eA,if_pos (zQw d)];exact zJD.nil w w4,aE.trans p4⟩) (λd=>?_)⟩
 have vb:=zQq d
 rw[if_neg (by omega)]at eA
 have c1:=(b1 p4).1
 have c2:=(b2 p4).1
 rw[yVM]at c1 c2
 refine⟨_,c1,_,c2,Br.of (λd=>⟨⟨none,0,0⟩,by rw[eA,if_pos (.inl (zQw d))],by rw[eA,if_pos (.inl (zQw d))];exact zJD.nil w w4,aE.trans p4⟩) (λd=>⟨_,(b1 p4).2.1,_,(b2 p4).2.1,?_⟩)⟩
 have hpg:=zQq d
 refine(xJs (RdF.of (ha.fields.pu (aE.trans p4))) (RdF.of (hb.fields.pu (aE.trans p4)))).mono ?_
 rintro e w5 ⟨rfl,aT⟩
 have p5:=p4.trans aT
 refine⟨_,rfl,Br.of (λd=>⟨⟨none,0,0⟩,by rw[eA,if_pos (.inr (by simpa using d))],by rw[eA,if_pos (.inr (by simpa using d))];exact zJD.nil w w5,aE.trans p5⟩) (λd=>⟨_,(b1 p5).2.2,_,(b2 p5).2.2,_,w5,yYN _ _ _ _ _ _,?_⟩)⟩
 rw[if_neg (by rintro(h|h);exact h hpg;exact h (by simpa using d))]at eA
 have hla:=ha.recs.len
 have hlb:=hb.recs.len
 have ma:=(zJB va).2.2.1
 have mb:=(zJB vb).2.2.1
 refine zQx (max a.recs.length b.recs.length) (λk t w'=>t.2=(k:Int)/\zJD w2 w' t.1 (zKX a.recs b.recs k)/\Pu w2 w') ⟨rfl,zJD.nil w2 w5,p5⟩ ?_
 rintro k J ⟨t1,t2⟩ w6 hk ⟨ht,hr,hp⟩ hJ
 obtain rfl:t2=(k:Int):=ht
 have hr:zJD w2 w6 t1 (zKX a.recs b.recs k):=hr
 dsimp only
 refine Br.of (λd1=>zQc λw7 cy _=>?_) (λd1=>?_)
 ·have aH:k<max a.recs.length b.recs.length:=by have:=zQj d1;omega
  have p7:=hp.trans cy
  have nT:=hr.pu cy
  refine⟨_,(b1 p7).2.2,Br.of (λd2=>?_) (λd2=>⟨_,(b2 p7).2.2,Br.of (λd3=>?_) (λd3=>⟨_,(b1 p7).2.2,?_⟩)⟩)⟩
  ·exact zJG nT p7 (by omega) (λs' w' h1 h2=>hJ _ _ aH ⟨by dsimp only;omega,h1,h2⟩) (zVR aH (.inl (by have:=zQj d2;omega)))
  ·exact zJG nT p7 (by omega) (λs' w' h1 h2=>hJ _ _ aH ⟨by dsimp only;omega,h1,h2⟩) (zVR aH (.inr (by have:=zQj d3;omega)))
  have d2:=zQd d2
  have d3:=zQd d3
  obtain⟨x,hx⟩:=zQK (show k<a.recs.length by omega)
  obtain⟨y,hy⟩:=zQK (show k<b.recs.length by omega)
  obtain⟨p,sx,hpa,_,vx,x0,x1⟩:=zKn (ha.recs.pu (aE.trans p7)) hx
  obtain⟨q,sy,hqa,_,vy,y0,y1⟩:=zKn (hb.recs.pu (aE.trans p7)) hy
  have x00:=x0
  have y00:=y0
  rw[yVM]at x00 y00
  have hd:=xQW hx hy
  refine⟨p,hpa,by omega,by omega,_,x00,_,(b2 p7).2.2,q,hqa,by omega,by omega,_,y00,_,λw=>xZy under4 _ _ _ _ w,Br.of (λd4=>?_) (λd4=>?_)⟩
  ·exact zJG nT p7 (by omega) (λs' w' h1 h2=>hJ _ _ aH ⟨by dsimp only;omega,h1,h2⟩) (by rw[hd,decide_eq_false (by simpa using d4)];rfl)
  have d4:x.gone=y.gone:=by simpa using d4
  refine⟨_,(b1 p7).2.2,p,hpa,by omega,by omega,_,x1,_,(b2 p7).2.2,q,hqa,by omega,by omega,_,y1,(xZw (RdV.of vx) (RdV.of vy)).mono ?_⟩
  rintro e w8 ⟨rfl,bW⟩
  refine⟨_,rfl,Br.of (λd5=>?_) (λd5=>?_)⟩
  ·exact zJG (nT.pu bW) (p7.trans bW) (by omega) (λs' w' h1 h2=>hJ _ _ aH ⟨by dsimp only;omega,h1,h2⟩) (by rw[hd,decide_eq_true d4];simpa using d5)
  ·show J (t1,IntKind.i64.wrap ((k:Int)+1)) w8
   rw[zQa (by omega) (by omega)]
   refine hJ _ _ aH ⟨by dsimp only;omega,?_,p7.trans bW⟩
   dsimp only
   rw[xXS (by rw[hd,decide_eq_true d4];simpa using d5)]
   exact nT.pu bW
 ·have aH:k=max a.recs.length b.recs.length:=by have:=zQd d1;omega
  subst aH
  exact⟨t1,by rw[eA],by rw[eA];exact hr.low aE.size,aE.trans hp⟩
theorem xXg{w:World}{a b:Tbl}{fa ra fb rb:SV}(ha:zXi w a fa ra)(hb:zXi w b fb rb):Calls prog 73 #[zKQ a fa ra,zKQ b fb rb] w
  λe w'=>∃q:SV,e=.returned (.tuple #[.slice q.a q.len q.cap,.int .i64 (yX9 a b).2])/\zJD w w' q (yX9 a b).1/\Pu w w':=by
 refine yY5 _ _ _ _ _ _ w _ (alB λw1 ar aA=>alB λw2 aq aN=>?_)
 have aE:=ar.trans aq
 have b1:∀{wz},Pu w2 wz->_:=λ{wz} (h:Pu w2 wz)=>zWZ (t:=a) (f:=fa) (q:=ra) (h.blk (aq.blk aA))
 have b2:∀{wz},Pu w2 wz->_:=λ{wz} (h:Pu w2 wz)=>zWZ (t:=b) (f:=fb) (q:=rb) (h.blk aN)
 refine⟨_,(b1 (Pu.refl _)).1,_,(b1 (Pu.refl _)).2.1,_,(b1 (Pu.refl _)).2.2,(zWn (ha.pu aE)).mono ?_⟩
 rintro e w3 ⟨rfl,au⟩
 refine⟨_,rfl,Br.of (λd=>⟨⟨none,0,0⟩,by unfold yX9;rw[if_pos (zQw d)],by unfold yX9;rw[if_pos (zQw d)];exact zJD.nil w w3,aE.trans au⟩) (λd=>?_)⟩
 have va:=zQq d
 refine⟨_,(b2 au).1,_,(b2 au).2.1,_,(b2 au).2.2,(zWn (hb.pu (aE.trans au))).mono ?_⟩
 rintro e w4 ⟨rfl,aK⟩
 have p4:=au.trans aK
 have eA:yX9 a b=if zQh b ≠ 0 then([],zQh b)else if a.page ≠ b.page∨a.fields ≠ b.fields then([],10)else(zKX a.recs b.recs (max a.recs.length b.recs.length),0):=by unfold yX9;rw[if_neg (by omega)]
 refine⟨_,rfl,Br.of (λd=>⟨⟨none,0,0⟩,by rw[eA,if_pos (zQw d)],by rw[eA,if_pos (zQw d)];exact zJD.nil w w4,aE.trans p4⟩) (λd=>?_)⟩
 have vb:=zQq d
 rw[if_neg (by omega)]at eA
 have c1:=(b1 p4).1
 have c2:=(b2 p4).1
 rw[yVM]at c1 c2
 refine⟨_,c1,_,c2,Br.of (λd=>⟨⟨none,0,0⟩,by rw[eA,if_pos (.inl (zQw d))],by rw[eA,if_pos (.inl (zQw d))];exact zJD.nil w w4,aE.trans p4⟩) (λd=>⟨_,(b1 p4).2.1,_,(b2 p4).2.1,?_⟩)⟩
 have hpg:=zQq d
 refine(zVC (RdF.of (ha.fields.pu (aE.trans p4))) (RdF.of (hb.fields.pu (aE.trans p4)))).mono ?_
 rintro e w5 ⟨rfl,aT⟩
 have p5:=p4.trans aT
 refine⟨_,rfl,Br.of (λd=>⟨⟨none,0,0⟩,by rw[eA,if_pos (.inr (by simpa using d))],by rw[eA,if_pos (.inr (by simpa using d))];exact zJD.nil w w5,aE.trans p5⟩) (λd=>?_)⟩
 rw[if_neg (by rintro(h|h);exact h hpg;exact h (by simpa using d))]at eA
 have hla:=ha.recs.len
 have hlb:=hb.recs.len
 have ma:=(zJB va).2.2.1
 have mb:=(zJB vb).2.2.1
 refine zQx (max a.recs.length b.recs.length) (λk t w'=>t.2=(k:Int)/\zJD w2 w' t.1 (zKX a.recs b.recs k)/\Pu w2 w') ⟨rfl,zJD.nil w2 w5,p5⟩ ?_
 rintro k J ⟨t1,t2⟩ w6 hk ⟨ht,hr,hp⟩ hJ
 obtain rfl:t2=(k:Int):=ht
 have hr:zJD w2 w6 t1 (zKX a.recs b.recs k):=hr
 dsimp only
 have body:∀(aH:k<max a.recs.length b.recs.length),xZC (λe w'=>∃q:SV,e=.returned (.tuple #[.slice q.a q.len q.cap,.int .i64 (yX9 a b).2])/\zJD w w' q (yX9 a b).1/\Pu w w') J (some ⟨w.heap.size,0,none⟩) (some ⟨w1.heap.size,0,none⟩) t1 (k:Int) [] w6:=λaH=>by
  refine zQc λw7 cy _=>?_
  have p7:=hp.trans cy
  have nT:=hr.pu cy
  refine⟨_,(b1 p7).2.2,Br.of (λd2=>?_) (λd2=>⟨_,(b2 p7).2.2,Br.of (λd3=>?_) (λd3=>⟨_,(b1 p7).2.2,?_⟩)⟩)⟩
  ·exact zJG nT p7 (by omega) (λs' w' h1 h2=>hJ _ _ aH ⟨by dsimp only;omega,h1,h2⟩) (zVR aH (.inl (by have:=zQj d2;omega)))
  ·exact zJG nT p7 (by omega) (λs' w' h1 h2=>hJ _ _ aH ⟨by dsimp only;omega,h1,h2⟩) (zVR aH (.inr (by have:=zQj d3;omega)))
  have d2:=zQd d2
  have d3:=zQd d3
  obtain⟨x,hx⟩:=zQK (show k<a.recs.length by omega)
  obtain⟨y,hy⟩:=zQK (show k<b.recs.length by omega)
  obtain⟨p,sx,hpa,_,vx,x0,x1⟩:=zKn (ha.recs.pu (aE.trans p7)) hx
  obtain⟨q,sy,hqa,_,vy,y0,y1⟩:=zKn (hb.recs.pu (aE.trans p7)) hy
  have hd:=xQW hx hy
  refine⟨p,hpa,by omega,by omega,_,x0,_,x1,_,(b2 p7).2.2,q,hqa,by omega,by omega,_,y0,_,y1,(zVA (RdV.of vx) (RdV.of vy)).mono ?_⟩
  rintro e w8 ⟨rfl,bW⟩
  refine⟨_,rfl,Br.of (λd5=>?_) (λd5=>?_)⟩
  ·exact zJG (nT.pu bW) (p7.trans bW) (by omega) (λs' w' h1 h2=>hJ _ _ aH ⟨by dsimp only;omega,h1,h2⟩) (by rw[hd];exact d5)
  ·show J (t1,IntKind.i64.wrap ((k:Int)+1)) w8
   rw[zQa (by omega) (by omega)]
   refine hJ _ _ aH ⟨by dsimp only;omega,?_,p7.trans bW⟩
   dsimp only
   rw[xXS (by rw[hd];exact d5)]
   exact nT.pu bW
 refine⟨_,(b1 hp).2.2,Br.of (λd1=>body (by have:=zQj d1;omega)) (λd1=>⟨_,(b2 hp).2.2,Br.of (λd2=>body (by have:=zQj d2;omega)) (λd2=>?_)⟩)⟩
 have aH:k=max a.recs.length b.recs.length:=by have:=zQd d1;have:=zQd d2;omega
 subst aH
 exact⟨t1,by rw[eA],by rw[eA];exact hr.low aE.size,aE.trans hp⟩
end Go.Proofs.YtaeecpjhfmcliaaGreatDoor
/- The log: a store in plain words: what each call tells, and what it leaves. No program in sight. No condition. -/
namespace Go.Proofs.YtaeecpjhfmcliaaGreatDoor
open Go.Sh Go.RowKit Tryz
structure Sto where
 t:Tbl
 lev:List Tbl
 done:List Tbl
def Sto.new(t:Tbl):Sto:=⟨t,[],[t]⟩
def Sto.last(σ:Sto):Tbl:=σ.done.getLast?.getD σ.t
def zZt(σ:Sto):Sto:=if σ.lev=[]/\σ.t ≠ σ.last then { σ with done:=σ.done ++ [σ.t] }else σ
def zKa(σ:Sto):Int:=if 8<=σ.lev.length then 3 else 0
def zZU(σ:Sto):Sto:=if 8<=σ.lev.length then σ else { σ with lev:=σ.lev ++ [σ.t] }
def zJg(σ:Sto):Int:=if σ.lev=[]then 9 else 0
def xKX(σ:Sto):Sto:=if σ.lev=[]then σ else zZt { σ with lev:=σ.lev.dropLast }
def zVj(σ:Sto):Sto:=if σ.lev=[]then σ else { σ with t:=σ.lev.getLast?.getD σ.t,lev:=σ.lev.dropLast }
def zXc(σ:Sto)(k:Int):Bool:=decide (1<=k) && decide (k<=σ.t.recs.length)
def zXE(σ:Sto)(l:List Rec):Sto:=zZt { σ with t:={ σ.t with recs:=l } }
def yZJ(σ:Sto)(r:Rec):Int:=if 300<=σ.t.recs.length then 3 else zQ1 σ.t.fields σ.t.page r
def xJR(σ:Sto)(r:Rec):Sto:=if yZJ σ r=0 then zXE σ (σ.t.recs ++ [r])else σ
def yVO(σ:Sto)(r:Rec):Int:=if yZJ σ r=0 then σ.t.recs.length+1 else 0
def yZI(σ:Sto)(k:Int)(r:Rec):Int:=if zXc σ k then zQ1 σ.t.fields σ.t.page r else 4
def xJE(σ:Sto)(k:Int)(r:Rec):Sto:=if yZI σ k r=0 then zXE σ (σ.t.recs.set (k - 1).toNat r)else σ
def zYL(σ:Sto)(k:Int):Int:=if zXc σ k then 0 else 4
def yJw(σ:Sto)(k:Int)(g:Bool):Sto:=if zXc σ k then zXE σ (σ.t.recs.modify (k - 1).toNat λr=>{ r with gone:=g })else σ
def yX7(σ:Sto)(k:Int)(nm:ByteArray)(v:Val):Int:=match yQc σ.t.fields nm with
 | none=>4
 | some i=>if zXc σ k then(zZO (σ.t.fields.getD i default) σ.t.page v).2 else 4
def yWV(σ:Sto)(k:Int)(nm:ByteArray)(v:Val):Sto:=match yQc σ.t.fields nm with
 | none=>σ
 | some i=>if zXc σ k/\(zZO (σ.t.fields.getD i default) σ.t.page v).2=0 then zXE σ (σ.t.recs.modify (k - 1).toNat λr=>{ r with v:=r.v.set i (zZO (σ.t.fields.getD i default) σ.t.page v).1 })else σ
def zVy(σ:Sto):Int:=if σ.lev=[]then 0 else 9
def zYt:Tbl:=⟨0,[],[]⟩
def zVJ(σ:Sto)(n:Int):Int:=if 0<=n/\n<σ.done.length then 0 else 1
def zZ8(σ:Sto)(n:Int):Tbl:=if 0<=n/\n<σ.done.length then σ.done.getD n.toNat zYt else zYt
def zZD(σ:Sto):List Int:=zKX σ.last.recs σ.t.recs (max σ.last.recs.length σ.t.recs.length)
end Go.Proofs.YtaeecpjhfmcliaaGreatDoor
/- The log: numbers, sums and records as bytes; the first record of bytes. In plain words. No condition but those stated. -/
namespace Go.Proofs.YtaeecpjhfmcliaaGreatDoor
open Go.Sh Go.RowKit Tryz
def zJd(n:Nat):Nat->List UInt8
 | 0=>[]
 | k+1=>UInt8.ofNat (n % 256) :: zJd (n / 256) k
def zQW:List UInt8->Nat
 | []=>0
 | c :: l=>c.toNat+256 * zQW l
theorem zQ6:∀(n k:Nat),(zJd n k).length=k
 | _,0=>rfl
 | n,k+1=>by simp[zJd,zQ6 (n / 256) k]
theorem zJz:∀(n k:Nat),zQW (zJd n k)=n % 256 ^ k
 | n,0=>by simp[zJd,zQW,Nat.mod_one]
 | n,k+1=>by
  have h1:(UInt8.ofNat (n % 256)).toNat=n % 256:=by rw[UInt8.toNat_ofNat'];exact Nat.mod_eq_of_lt (Nat.lt_of_lt_of_le (Nat.mod_lt _ (by decide)) (by decide))
  rw[zJd,zQW,zJz,h1,Nat.pow_succ,Nat.mul_comm (256 ^ k) 256,Nat.mod_mul]
def yV6(n:Nat)(c:UInt8):Nat:=(n * 16777619 % 4294967296) ^^^ c.toNat
theorem xZ7(n:Nat)(c:UInt8):yV6 n c<4294967296:=by
 have h1:n * 16777619 % 4294967296<2 ^ 32:=Nat.mod_lt _ (by decide)
 have h2:c.toNat<2 ^ 32:=Nat.lt_of_lt_of_le c.toNat_lt (by decide)
 exact Nat.xor_lt_two_pow h1 h2
def yXd(l:List UInt8):Nat:=l.foldl yV6 7
theorem yJx(l:List UInt8):yXd l<4294967296:=by
 have key:∀(l:List UInt8) (n:Nat),n<4294967296->l.foldl yV6 n<4294967296:=λl=>by
  induction l with
  | nil=>exact λn h=>h
  | cons c l ih=>exact λn h=>ih _ (xZ7 n c)
 exact key l 7 (by decide)
def zKb(kind:UInt8)(body:List UInt8):List UInt8:=kind :: (zJd body.length 4 ++ body)
def zZV(kind:UInt8)(body:List UInt8):List UInt8:=zKb kind body ++ zJd (yXd (zKb kind body)) 4
theorem zWQ(k:UInt8)(b:List UInt8):(zKb k b).length=5+b.length:=by simp[zKb,zQ6];omega
theorem zJk(k:UInt8)(b:List UInt8):(zZV k b).length=9+b.length:=by simp[zZV,zWQ,zQ6];omega
def zZ2(b:List UInt8):Option (UInt8 × List UInt8 × List UInt8):=
 if b.length<9 then none
 else if b.length<zQW ((b.drop 1).take 4)+9 then none
 else if zQW ((b.drop (5+zQW ((b.drop 1).take 4))).take 4) ≠ yXd (b.take (5+zQW ((b.drop 1).take 4)))then none
 else some (b.headD 0,(b.drop 5).take (zQW ((b.drop 1).take 4)),b.drop (9+zQW ((b.drop 1).take 4)))
theorem yQV {b more body:List UInt8} {k:UInt8} (h:zZ2 b=some (k,body,more)):more.length<b.length:=by
 unfold zZ2 at h
 split at h
 ·cases h
 split at h
 ·cases h
 split at h
 ·cases h
 simp only[Option.some.injEq,Prod.mk.injEq]at h
 rw[←h.2.2,List.length_drop]
 omega
theorem yXX(k:UInt8)(body rest:List UInt8):zZV k body ++ rest=k :: (zJd body.length 4 ++ (body ++ (zJd (yXd (zKb k body)) 4 ++ rest))):=by simp[zZV,zKb]
theorem yKy{k:UInt8}{body rest:List UInt8}(hb:body.length<4294967296):zQW (((zZV k body ++ rest).drop 1).take 4)=body.length:=by
 rw[yXX,List.drop_succ_cons,List.drop_zero,List.take_append_of_le_length (by rw[zQ6];omega),List.take_of_length_le (by rw[zQ6];omega),zJz]
 exact Nat.mod_eq_of_lt hb
theorem yVP{k:UInt8}{body rest:List UInt8}(hb:body.length<4294967296):zZ2 (zZV k body ++ rest)=some (k,body,rest):=by
 have hl:(zZV k body ++ rest).length=9+body.length+rest.length:=by rw[List.length_append,zJk]
 have h5:(zZV k body ++ rest).drop (5+body.length)=zJd (yXd (zKb k body)) 4 ++ rest:=by
  rw[zZV,List.append_assoc,show 5+body.length=(zKb k body).length from(zWQ _ _).symm,List.drop_left]
 have t5:(zZV k body ++ rest).take (5+body.length)=zKb k body:=by
  rw[zZV,List.append_assoc,show 5+body.length=(zKb k body).length from(zWQ _ _).symm,List.take_left]
 have d9:(zZV k body ++ rest).drop (9+body.length)=rest:=by
  rw[show 9+body.length=(zZV k body).length from(zJk _ _).symm,List.drop_left]
 have b5:((zZV k body ++ rest).drop 5).take body.length=body:=by
  rw[yXX]
  have e:k :: (zJd body.length 4 ++ (body ++ (zJd (yXd (zKb k body)) 4 ++ rest)))=(k :: zJd body.length 4) ++ (body ++ (zJd (yXd (zKb k body)) 4 ++ rest)):=rfl
  rw[e,show 5=(k :: zJd body.length 4).length by simp[zQ6],List.drop_left,List.take_left]
 unfold zZ2
 rw[yKy hb,if_neg (by omega),if_neg (by omega),h5,t5,d9,b5,List.take_append_of_le_length (by rw[zQ6];omega),List.take_of_length_le (by rw[zQ6];omega),zJz,
  Nat.mod_eq_of_lt (show yXd (zKb k body)<256 ^ 4 from yJx _),if_neg (by simp)]
 rfl
theorem yVh {k:UInt8} {body p:List UInt8} (hb:body.length<4294967296) (hp:p <+: zZV k body) (hl:p.length<(zZV k body).length):zZ2 p=none:=by
 unfold zZ2
 by_cases h9:p.length<9
 ·rw[if_pos h9]
 ·have hr:zQW ((p.drop 1).take 4)=body.length:=by
   obtain⟨q,hq⟩:=hp
   have h1:=yKy (k:=k) (rest:=[]) hb
   rw[List.append_nil,←hq,List.drop_append_of_le_length (by omega),List.take_append_of_le_length (by rw[List.length_drop];omega)]at h1
   exact h1
  rw[zJk]at hl
  rw[if_neg h9,hr,if_pos (by omega)]
end Go.Proofs.YtaeecpjhfmcliaaGreatDoor
/- Table: days and dates, in plain words. No condition. -/
namespace Go.Proofs.YtaeecpjhfmcliaaGreatDoor
def zKc(y:Nat):Bool:=(decide (y % 4=0) && decide (y % 100 ≠ 0)) || decide (y % 400=0)
def zJu(y m:Nat):Nat:=if m=2 then(if zKc y then 29 else 28)else if m=4∨m=6∨m=9∨m=11 then 30 else 31
def zQ4(y:Nat):Nat->Nat
 | 0=>0
 | m+1=>zQ4 y m+zJu y (m+1)
def zQ0(y:Nat):Nat:=365 * (y - 1)+(y - 1) / 4 - (y - 1) / 100+(y - 1) / 400
def zQS(y m d:Nat):Prop:=1<=y/\y<=9999/\1<=m/\m<=12/\1<=d/\d<=zJu y m
instance (y m d:Nat):Decidable (zQS y m d):=by unfold zQS;exact inferInstance
def zZ4(y m d:Nat):Nat:=zQ0 y+zQ4 y (m - 1)+d
theorem zXS{y:Nat}(h:1<=y):zQ0 (y+1)=zQ0 y+(if zKc y then 366 else 365):=by
 obtain⟨k,rfl⟩:∃k,y=k+1:=⟨y - 1,by omega⟩
 unfold zQ0 zKc
 simp only[Nat.add_sub_cancel]
 by_cases h1:(k+1) % 4=0 <;> by_cases h2:(k+1) % 100=0 <;> by_cases h3:(k+1) % 400=0 <;> simp[h1,h2,h3] <;> omega
theorem zZZ(y:Nat):zQ4 y 12=if zKc y then 366 else 365:=by
 simp only[zQ4,zJu]
 cases zKc y <;> rfl
theorem zXT(y:Nat):∀{a b:Nat},a<=b->zQ4 y a<=zQ4 y b:=by
 intro a b h
 induction h with
 | refl=>exact Nat.le_refl _
 | step _ ih=>exact Nat.le_trans ih (by simp[zQ4])
theorem zXO{a b:Nat}(h0:1<=a)(h:a<=b):zQ0 a<=zQ0 b:=by
 induction h with
 | refl=>exact Nat.le_refl _
 | step h ih=>exact Nat.le_trans ih (by rw[zXS (Nat.le_trans h0 h)];omega)
theorem zQS.month{y m d:Nat}(h:zQS y m d):zQ4 y (m - 1)+d<=zQ4 y m:=by
 obtain⟨_,_,h3,_,_,h6⟩:=h
 obtain⟨k,rfl⟩:∃k,m=k+1:=⟨m - 1,by omega⟩
 simp only[zQ4,Nat.add_sub_cancel]
 omega
theorem zQS.year{y m d:Nat}(h:zQS y m d):zQ0 y<zZ4 y m d/\zZ4 y m d<=zQ0 (y+1):=by
 have h1:=h.month
 have h2:=zXT y h.2.2.2.1
 rw[zZZ,]at h2
 rw[zXS h.1]
 have:=h.2.2.2.2.1
 unfold zZ4
 omega
theorem yJW{y m d y' m' d':Nat}(h:zQS y m d)(h':zQS y' m' d')(e:zZ4 y m d=zZ4 y' m' d'):y=y'/\m=m'/\d=d':=by
 have a:=h.year
 have a':=h'.year
 have ey:y=y':=by
  rcases Nat.lt_trichotomy y y' with hlt|rfl|hlt
  ·have:=zXO (a:=y+1) (by omega) (show y+1<=y' by omega);omega
  ·rfl
  ·have:=zXO (a:=y'+1) (by omega) (show y'+1<=y by omega);omega
 subst ey
 have b:=h.month
 have b':=h'.month
 unfold zZ4 at e
 have c:=h.2.2.2.2.1
 have c':=h'.2.2.2.2.1
 have c3:=h.2.2.1
 have c3':=h'.2.2.1
 have em:m=m':=by
  rcases Nat.lt_trichotomy m m' with hlt|rfl|hlt
  ·have:=zXT y (show m<=m' - 1 by omega);omega
  ·rfl
  ·have:=zXT y (show m'<=m - 1 by omega);omega
 subst em
 exact⟨rfl,rfl,by omega⟩
theorem zKF:zQ0 10000=3652059:=by decide
theorem zYq{y:Nat}(h:1<=y):365 * (y - 1)<=zQ0 y/\zQ0 y<=366 * (y - 1):=by
 unfold zQ0;omega
theorem yZF(y m:Nat):zQ4 y m<=31 * m:=by
 induction m with
 | zero=>simp[zQ4]
 | succ m ih=>simp only[zQ4,zJu];split <;> (try split) <;> omega
end Go.Proofs.YtaeecpjhfmcliaaGreatDoor
