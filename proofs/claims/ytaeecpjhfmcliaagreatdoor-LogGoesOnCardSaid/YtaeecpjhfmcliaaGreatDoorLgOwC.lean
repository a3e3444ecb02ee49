import Derived.Test.YtaeecpjhfmcliaaGreatDoorLgOwB
import Derived.Test.YtaeecpjhfmcliaaGreatDoorLgPrA
import Derived.Lib.SlBytesRow
import Derived.Lib.BufferRead
import Derived.Test.YtaeecpjhfmcliaaGreatDoorShTwentyThree
import Derived.Test.YtaeecpjhfmcliaaGreatDoorLgOwA
/- Table: the program's row of a record. No condition. -/
set_option maxRecDepth 100000
set_option linter.unusedVariables false
set_option linter.unusedSimpArgs false
namespace Go.Proofs.YtaeecpjhfmcliaaGreatDoor
open Go.Sh Go.RowKit Tryz
def yJP (J1:(Int × Int)->World->Prop) (dJ cq:Nat) (p7:Option Addr) (n8 df:Int) (aV:World):Prop:=
 ∃iW:Int,aV.cell? (⟨cq,0,none⟩:Addr)=some (.int .i64 iW)/\
 Br (iW == 0) (
 ∃kx:Int,aV.cell? ((⟨dJ,0,none⟩:Addr).add 2)=some (.int .i64 kx)/\
 Calls prog 155 #[.string (⟨#[32]⟩:ByteArray),.int .i64 kx] aV λe dW=>
 ∃pD:ByteArray,e=.returned (.string pD)/\
 Calls prog 199 #[.pointer p7,.string pD] dW λe fo=>
 ∃iw:Int,∃ky:Value,e=.returned (.tuple #[.int .i64 iw,ky])/\
 J1 (n8,(IntKind.i64.wrap (df+1))) fo) (
 dwE aV λiu=>
 ∃S6:World->Prop,S6 iu/\
 ∃rt:Int,(∀w',S6 w'->w'.cell? ((⟨dJ,0,none⟩:Addr).add 1)=some (.int .i64 rt))/\
 ∃gD:ByteArray,(∀w',S6 w'->w'.cell? ((⟨dJ,0,none⟩:Addr).add 0)=some (.string gD))/\
 ∃gE:Int,(∀w',S6 w'->w'.cell? ((⟨dJ,0,none⟩:Addr).add 1)=some (.int .i64 gE))/\
 ∃gF:Int,(∀w',S6 w'->w'.cell? ((⟨dJ,0,none⟩:Addr).add 2)=some (.int .i64 gF))/\
 ∃gG:Bool,(∀w',S6 w'->w'.cell? ((⟨dJ,0,none⟩:Addr).add 3)=some (.bool gG))/\
 ∃dK:Int,(∀w',S6 w'->w'.cell? ((⟨cq,0,none⟩:Addr).add 0)=some (.int .i64 dK))/\
 ∃gH:Int,(∀w',S6 w'->w'.cell? ((⟨cq,0,none⟩:Addr).add 1)=some (.int .i64 gH))/\
 ∃gI:ByteArray,(∀w',S6 w'->w'.cell? ((⟨cq,0,none⟩:Addr).add 2)=some (.string gI))/\
 Calls prog 145 #[] iu λe gn=>
 ∃rv:Option Nat,e=.returned (.map rv)/\
 ∃S7:World->Prop,S7 gn/\(∀u,S7 u->S6 u)/\
 ∃iy:Int,∃iz:Int,∃iA:Int,∃gJ:Value,∃kz:Value,(∀w',S7 w'->(Instr.lookup 176 (.map rv) (.int .i64 rt) false).run prog w'=.ok (.agg #[.int .u8 iy,.int .i64 iz,.int .i64 iA,gJ,kz]) w')/\
 fnE gJ λf63 first63 kA=>
 zQ6 prog f63=true/\Calls prog f63 (first63.toList ++ (([.agg #[.string gD,.int .i64 gE,.int .i64 gF,.bool gG],.agg #[.int .i64 dK,.int .i64 gH,.string gI]]:List Value) ++ kA.toList)).toArray gn λe gk=>
 ∃rx:ByteArray,e=.returned (.string rx)/\
 Calls prog 199 #[.pointer p7,.string rx] gk λe fW=>
 ∃kB:Int,∃kC:Value,e=.returned (.tuple #[.int .i64 kB,kC])/\
 J1 (n8,(IntKind.i64.wrap (df+1))) fW)
theorem xZX{B:Nat}{w w':World}(h:Below B w w'):Fr (B<=·) w w':=⟨h.os,h.tape,h.output,h.size,λk _ hk=>h.block k (by omega)⟩
theorem yKy{T e:TypeId}{B b:Nat}{xs:List Value}{Bs:Nat->Prop}{w w':World}(h:Lib.IsBuilderF T e B b xs w)(hf:Fr Bs w w')(hn:∀i,B<=i->¬Bs i):Lib.IsBuilderF T e B b xs w':=by
 have one:∀{p},Lib.BuilderAtF T e B b p xs w->Lib.BuilderAtF T e B b p xs w':=by
  rintro p ⟨hB,v,hb,⟨hl,ho⟩,hne⟩
  refine⟨hB,v,hf.blk hb (hn b hB),⟨hl,?_⟩,hne⟩
  rcases ho with ho|⟨g,cap,cur,fz,h1,h2,h3,h4⟩
  ·exact .inl ho
  ·exact .inr ⟨g,cap,cur,fz,h1,h2,hf.blk h3 (hn g h2),h4⟩
 exact h.elim (λh=>.inl (one h)) (λh=>.inr (one h))
theorem kQc {w:World} {b:Nat} (hb:w.heap[b]?=some (.cells #[.pointer none,.slice none 0 0] 220)):Lib.IsBuilderF 220 5 b b (Lib.byteCells []) w:=
 .inl ⟨Nat.le_refl _,.slice none 0 0,hb,⟨rfl,.inl ⟨rfl,rfl⟩⟩,by simp[Value.ownBlock]⟩
theorem zWJ {w:World} {B b:Nat} {acc:List UInt8} (s:List UInt8) (h:Lib.IsBuilderF 220 5 B b (Lib.byteCells acc) w) (hl:acc.length+s.length<=140737488355328) (hB:B<=w.heap.size) :
  Calls prog 199 #[.pointer (some ⟨b,0,none⟩),.string (bs s)] w λe w'=>e=.returned (.tuple #[.int .i64 (s.length:Nat),.nilIface])/\Lib.IsBuilderF 220 5 B b (Lib.byteCells (acc ++ s)) w'/\Below B w w':=by
 refine(Any.Builder_WriteString_k Tryz.lays166 Tryz.Builder_Extra_105 B b (Lib.byteCells acc) (bs s) w h (by rw[Lib.byteCells_length,zQ9];exact hl) hB).mono ?_
 rintro e w' ⟨rfl,h1,h2,_⟩
 refine⟨by rw[zQ9],?_,h2⟩
 have e1:Lib.byteCells (acc ++ s)=Lib.byteCells acc ++ Lib.strCells (bs s):=by
  unfold Lib.byteCells Lib.strCells;rw[List.map_append,zQQ]
 rw[e1]
 exact .inr h1
theorem u157:prog.underlying 243=some (.pointer 5):=by kernel_rfl
theorem xZn(w:World)(g n:Nat):Fr (·=g) w (w.freeze ⟨g,0,none⟩ n):=by
 unfold World.freeze
 split
 ·exact Fr.refl _ _
 ·refine⟨rfl,rfl,rfl,by simp,λk _ hk=>?_⟩
  have hk:¬g=k:=λe=>hk e.symm
  simp only[Array.getElem?_modify,hk,if_false]
theorem zKB {w:World} {B b:Nat} {acc:List UInt8} (h:Lib.IsBuilderF 220 5 B b (Lib.byteCells acc) w) (h0:acc ≠ []):∃g cap,B<=g/\w.cell? ⟨b,1,none⟩=some (.slice (some ⟨g,0,none⟩) acc.length cap)/\g<w.heap.size/\
  Calls prog 201 #[.pointer (some ⟨b,0,none⟩)] w λe w'=>e=.returned (.string (bs acc))/\Fr (·=g) w w':=by
 obtain⟨p,hB,v,hb,⟨hl,ho⟩,hne⟩:∃p,Lib.BuilderAtF 220 5 B b p (Lib.byteCells acc) w:=h.elim (λh=>⟨_,h⟩) (λh=>⟨_,h⟩)
 rw[Lib.byteCells_length]at ho
 have hpos:0<acc.length:=List.length_pos_iff.2 h0
 rcases ho with⟨_,hz⟩|⟨g,cap,cur,fz,rfl,hg,hgb,hfz,hcap,hmx,hcs,htk⟩
 ·omega
 rw[Nat.mul_one]at hcs htk
 refine⟨g,cap,hg,by rw[zQI hb];rfl,zQx hgb,?_⟩
 refine yW4 _ w _ (zQc λw1 ar hh1=>?_)
 have aB:w1.heap[b]?=some (.cells #[p,.slice (some ⟨g,0,none⟩) acc.length cap] 220 (0,0)):=ar.blk hb
 have hg1:w1.heap[g]?=some (.cells cur 5 fz):=ar.blk hgb
 refine⟨λu=>u=w1,rfl,⟨some ⟨g,0,none⟩,acc.length,cap⟩,λu hu=>by subst hu;exact cl aB 1,⟨some ⟨g,0,none⟩,acc.length,cap⟩,λu hu=>by subst hu;exact cl aB 1,some ⟨g,0,none⟩,w1,Lib.run_unsafeSliceData_row _ _ _ _ _ _ (show cap ≠ 0 by omega),rfl,bs acc,w1.freeze ⟨g,0,none⟩ acc.length,?_,rfl,?_⟩
 ·refine Lib.run_unsafeString_row w1 243 3 9 5 u157 (by kernel_rfl) g cur.size (by simp[World.shape?,hg1]) acc h0 (by omega) (by unfold maxLen at hmx;omega) λj x hx=>?_
  rw[zQr,zQI hg1,Nat.zero_add]
  have h1:(cur.toList.take acc.length)[j]?=some (.int .u8 x.toNat):=by rw[htk];simp[Lib.byteCells,hx]
  rw[List.getElem?_take]at h1
  split at h1
  ·simpa using h1
  ·cases h1
 ·exact(Fr.pu ar:Fr (·=g) w w1).trans (xZn w1 g _) λ_ h _=>h
theorem zQh.str{w0 w:World}{s:SV}{l:List UInt8}(h:zQh w0 w s l)(hz:w0.heap.size<=w.heap.size)(news:List UInt8)(hb:l.length+news.length<=70368744177664) :
  ∃(s':SV) (w':World),(Builtin.append_ #[22,9] 22 #[.slice s.a s.len s.cap,.string (bs news)]).run prog w=.ok (.slice s'.a s'.len s'.cap) w'/\zQh w0 w' s' (l ++ news)/\Fr (· ∈ zQe s) w w':=by
 have h1:=h.len
 have hi:=yVo
 obtain⟨i,h2,h3,h4,h5⟩:=info_parts hi
 have own:w.ownsRow 0 5 1 (.slice s.a s.len s.cap) s.len (l.map u8V):=h.1.owns
 have tv:w.ownsRow w0.heap.size 5 1 (.slice s.a s.len s.cap) s.len (l.map u8V):=by
  obtain⟨q1,q2⟩:=own
  refine⟨q1,?_⟩
  rcases q2 with q2|⟨g,cap,cur,q3,_,q4⟩
  ·exact .inl q2
  ·refine .inr ⟨g,cap,cur,q3,h.2 g ?_,q4⟩
   simp only[Value.slice.injEq]at q3
   simp[zQe,q3.1]
 obtain⟨v2,w2,jw,sR,hg,_⟩:=Lib.run_append_own_string (P:=prog) w w0.heap.size 22 9 22 5 i u37 u9 h2 h3 h4 h5 _ _ _ tv (bs news) (by rw[zQ9];unfold maxLen;omega) (by rw[zQ9];omega) hz
 have hs:Lib.strCells (bs news)=news.map u8V:=by unfold Lib.strCells;rw[zQQ];rfl
 rw[hs,←List.map_append]at sR
 have hfr:Fr (· ∈ zQe s) w w2:=⟨hg.os,hg.tape,hg.output,hg.size,λk hk hn=>hg.block k hk (λe=>hn (by
  cases ha:s.a with
  | none=>rw[ha]at e;simp[Value.ownBlock]at e
  | some a=>rw[ha]at e;simp only[Value.ownBlock,Option.some.injEq]at e;simp[zQe,ha,e]))⟩
 obtain⟨q1,q2⟩:=sR
 rcases q2 with⟨q2,q3⟩|⟨g,cap,cur,q2,q3,q4,q5,q6,q7,q8⟩
 ·refine⟨⟨none,0,0⟩,w2,by rw[jw,q2],⟨⟨by rw[q1,q3],.inl rfl⟩,by simp[zQe]⟩,hfr⟩
 ·exact⟨⟨some ⟨g,0,none⟩,s.len+(bs news).size,cap⟩,w2,by rw[jw,q2],⟨⟨q1,.inr ⟨g,cur,rfl,q4,q5,q6,q7,q8⟩⟩,λb hb=>by simp[zQe]at hb;omega⟩,hfr⟩
theorem zQh.app' {w0 w:World} {s m:SV} {l news:List UInt8} (h:zQh w0 w s l) (hz:w0.heap.size<=w.heap.size) (hl:m.len=news.length) (hn:∀(j:Nat) (b:UInt8),news[j]?=some b->∃a,m.a=some a/\w.cell? (a.add j)=some (u8V b)) (hb:l.length+news.length<=70368744177664) :
  ∃(s':SV) (w':World),(Builtin.append_ #[22,22] 22 #[.slice s.a s.len s.cap,.slice m.a m.len m.cap]).run prog w=.ok (.slice s'.a s'.len s'.cap) w'/\zQh w0 w' s' (l ++ news)/\Fr (· ∈ zQe s) w w'/\∀k ∈ zQe s',k ∈ zQe s∨w.heap.size<=k:=by
 have h1:=h.len
 obtain⟨s',w',hr,hrow,hf,hblk,_⟩:=zK6 (P:=prog) (ty:=22) u37 yVo rfl h.1 (m:=m) (news:=news.map u8V) (by simpa using hl) (λj u hu=>by
  obtain⟨b,hb,rfl⟩:∃b,news[j]?=some b/\u8V b=u:=by simpa using hu
  exact hn j b hb) (λu hu=>by simp at hu;obtain⟨x,_,rfl⟩:=hu;rfl) (by omega)
 refine⟨s',w',hr,⟨by rw[List.map_append];exact hrow,λb hb=>?_⟩,hf,hblk⟩
 rcases hblk b hb with h2|h2
 ·exact h.2 b h2
 ·omega
def yQd(sh:Fld->Val->List UInt8)(f:Fld)(v:Val):List UInt8:=if v.kind=0 then List.replicate f.width.toNat 32 else sh f v
def yKS(sh:Fld->Val->List UInt8)(l:List Fld)(vs:List Val):Prop:=∀(i:Nat) f v,l[i]?=some f->vs[i]?=some v->v.kind ≠ 0->(sh f v).length<=1000/\∃K,zXd f.kind=some K/\zQ6 prog K.wr=true/\
 ∀w,Calls prog K.wr #[yQk f,zJ6 v] w λe w'=>e=.returned (.string (bs (sh f v)))/\Pu w w'
theorem xXT {sh:Fld->Val->List UInt8} {w:World} {dJ cq b:Nat} {f:Fld} {v:Val} {acc:List UInt8} {nb df:Int} {J:(Int × Int)->World->Prop} (hw:0<=f.width/\f.width<=1000)
  (hW:v.kind ≠ 0->(sh f v).length<=1000/\∃K,zXd f.kind=some K/\zQ6 prog K.wr=true/\∀w,Calls prog K.wr #[yQk f,zJ6 v] w λe w'=>e=.returned (.string (bs (sh f v)))/\Pu w w')
  (iD:w.heap[dJ]?=some (.cells #[.string f.name,.int .i64 f.kind,.int .i64 f.width,.bool f.null] 129)) (io:w.heap[cq]?=some (.cells #[.int .i64 v.kind,.int .i64 v.n,.string v.s] 73))
  (hB:Lib.IsBuilderF 220 5 b b (Lib.byteCells acc) w) (hbs:b<w.heap.size) (ha:acc.length<=1000000)
  (hJ:∀w',Lib.IsBuilderF 220 5 b b (Lib.byteCells (acc ++ yQd sh f v)) w'->Below b w w'->J (nb,IntKind.i64.wrap (df+1)) w') :
  yJP J dJ cq (some ⟨b,0,none⟩) nb df w:=by
 have pub:∀{w'},Pu w w'->Below b w w':=λh=>Below.mono h (by omega)
 refine⟨_,cl0 io,Br.of (λd=>⟨_,cl iD 2,?_⟩) (λd=>?_)⟩
 ·have ew:f.width=((f.width.toNat:Nat):Int):=by omega
  rw[show(Value.int .i64 f.width)=.int .i64 ((f.width.toNat:Nat):Int)by rw[←ew]]
  refine(zKD 32 f.width.toNat (by omega) w).mono ?_
  rintro e w2 ⟨rfl,aq⟩
  refine⟨_,rfl,(zWJ (List.replicate f.width.toNat 32) (yKy hB (Fr.pu aq:Fr (λ_=>False) w w2) λ_ _ h=>h) (by simp only[List.length_replicate];omega) (by have:=aq.size;omega)).mono ?_⟩
  rintro e w3 ⟨rfl,hB3,hbl⟩
  have:yQd sh f v=List.replicate f.width.toNat 32:=by unfold yQd;rw[if_pos (zQG d)]
  rw[←this]at hB3
  exact⟨_,_,rfl,hJ w3 hB3 ((pub aq).trans hbl)⟩
 ·have d:=zQm d
  obtain⟨hlen,K,hK,hbody,hcall⟩:=hW d
  refine zQc λw2 aq hh2=>⟨λu=>Pu w2 u,Pu.refl _,f.kind,λu hu=>cl (hu.blk (aq.blk iD)) 1,f.name,λu hu=>cl (hu.blk (aq.blk iD)) 0,f.kind,λu hu=>cl (hu.blk (aq.blk iD)) 1,f.width,λu hu=>cl (hu.blk (aq.blk iD)) 2,f.null,λu hu=>cl (hu.blk (aq.blk iD)) 3,
   v.kind,λu hu=>cl (hu.blk (aq.blk io)) 0,v.n,λu hu=>cl (hu.blk (aq.blk io)) 1,v.s,λu hu=>cl (hu.blk (aq.blk io)) 2,(zVi w2).mono ?_⟩
  rintro e w3 ⟨m,rfl,hm,_,au⟩
  refine⟨some m,rfl,λu=>Pu w3 u,Pu.refl _,λu hu=>au.trans hu,K.letter,K.least,K.most,.func (.func K.wr) #[] #[],.func (.func K.rd) #[] #[],λu hu=>?_,hbody,?_⟩
  ·have:=zWG (hm.pu hu) f.kind false
   rw[hK]at this;exact this
  refine(hcall w3).mono ?_
  rintro e w4 ⟨rfl,aK⟩
  have fV:=(aq.trans au).trans aK
  refine⟨_,rfl,(zWJ (sh f v) (yKy hB (Fr.pu fV:Fr (λ_=>False) w w4) λ_ _ h=>h) (by omega) (by have:=fV.size;omega)).mono ?_⟩
  rintro e w5 ⟨rfl,hB5,hbl⟩
  have:yQd sh f v=sh f v:=by unfold yQd;rw[if_neg d]
  rw[←this]at hB5
  exact⟨_,_,rfl,hJ w5 hB5 ((pub fV).trans hbl)⟩
end Go.Proofs.YtaeecpjhfmcliaaGreatDoor
/- Table: the program's row of a record, walked. No condition. -/
namespace Go.Proofs.YtaeecpjhfmcliaaGreatDoor
open Go.Sh Go.RowKit Tryz
def yZR(b:Bool):UInt8:=if b then 42 else 32
def zXP(sh:Fld->Val->List UInt8)(l:List Fld)(vs:List Val):List UInt8:=(l.zip vs).flatMap λx=>yQd sh x.1 x.2
def zJO(sh:Fld->Val->List UInt8)(l:List Fld)(r:Rec):List UInt8:=[yZR r.gone] ++ flN (zXo l) (zXv l r.v) ++ zXP sh l r.v
theorem zWi {sh:Fld->Val->List UInt8} {l:List Fld} {vs:List Val} {k:Nat} {f:Fld} {v:Val} (h:l[k]?=some f) (h2:vs[k]?=some v):zXP sh (l.take (k+1)) (vs.take (k+1))=zXP sh (l.take k) (vs.take k) ++ yQd sh f v:=by
 unfold zXP
 rw[zQD h,zQD h2,List.zip_append (by
  have h1:=(List.getElem?_eq_some_iff.1 h).1
  have h3:=(List.getElem?_eq_some_iff.1 h2).1
  rw[List.length_take,List.length_take];omega),List.flatMap_append]
 simp
theorem xQM {sh:Fld->Val->List UInt8} {f:Fld} {v:Val} (hw:0<=f.width/\f.width<=254) (hs:v.kind ≠ 0->(sh f v).length<=1000):(yQd sh f v).length<=1000:=by
 unfold yQd
 by_cases h:v.kind=0
 ·rw[if_pos h,List.length_replicate];omega
 ·rw[if_neg h];exact hs h
theorem yQJ{sh:Fld->Val->List UInt8}{l:List Fld}{vs:List Val}(hw:WOk l)(hW:yKS sh l vs):∀k,k<=l.length->k<=vs.length->(zXP sh (l.take k) (vs.take k)).length<=1000 * k
 | 0,_,_=>by simp[zXP]
 | k+1,h1,h2=>by
  obtain⟨f,hf⟩:=zQM (show k<l.length by omega)
  obtain⟨v,hv⟩:=zQM (show k<vs.length by omega)
  rw[zWi hf hv,List.length_append]
  have:=yQJ hw hW k (by omega) (by omega)
  have:=xQM (sh:=sh) (v:=v) (hw f (List.mem_of_getElem? hf)) (λh=>(hW k f v hf hv h).1)
  omega
theorem zZ8(l:List Fld)(k:Nat):((l.take k).filter (·.null)).length<=(l.filter (·.null)).length:=((List.take_sublist k l).filter _).length_le
structure yJw(w:World)(r3 nF b:Nat)(t l6:SV)(g:Bool)(N:Nat)(bits:List Bool)(acc:List UInt8)(w':World):Prop where
 pu:Pu w w'
 rcd:w'.heap[r3]?=some (.cells #[.bool g,.slice t.a t.len t.cap] 67)
 out:w'.heap[nF]?=some (.cells #[u8V (yZR g)] 5)
 fl:zQh w w' l6 (flN N bits)
 bld:Lib.IsBuilderF 220 5 b b (Lib.byteCells acc) w'
 lt:b<w'.heap.size
theorem yJw.below {w:World} {r3 nF b:Nat} {t l6:SV} {g:Bool} {N:Nat} {bits:List Bool} {acc acc':List UInt8} {w' w2:World} (h:yJw w r3 nF b t l6 g N bits acc w') (h3:r3<b) (nD:nF<b) (h6:∀k ∈ zQe l6,k<b) (hb:w.heap.size<=b) (hB:Below b w' w2) (hbld:Lib.IsBuilderF 220 5 b b (Lib.byteCells acc') w2):yJw w r3 nF b t l6 g N bits acc' w2:=
 ⟨Below.trans h.pu (hB.mono hb),by rw[hB.block _ h3];exact h.rcd,by rw[hB.block _ nD];exact h.out,h.fl.fr (xZX hB) λk hk e=>by have:=h6 k hk;have e:b<=k:=e;omega,hbld,Nat.lt_of_lt_of_le h.lt hB.size⟩
theorem row_c {w:World} {sh:Fld->Val->List UInt8} {l:List Fld} {s t:SV} {r:Rec} (h:zX3 w s l) (hr:zX3 w t r.v) (hl:r.v.length=l.length) (iY:l.length<=16) (hwid:WOk l) (hW:yKS sh l r.v) (hne:zXP sh l r.v ≠ []) :
  Calls prog 158 #[.slice s.a s.len s.cap,.agg #[.bool r.gone,.slice t.a t.len t.cap]] w λe w'=>∃q:SV,e=.returned (.slice q.a q.len q.cap)/\zQh w w' q (zJO sh l r)/\Pu w w':=by
 refine yVu _ _ _ w _ ?_
 have hsl:=h.len
 have htl:=hr.len
 have hnl:=zYe l
 have hN0:(zXo l)=((l.filter (·.null)).length+7) / 8:=rfl
 refine alB λw1 ar aB=>alB λw2 aq aM=>⟨_,cl0 (aq.blk aB),?_⟩
 have l1:w.heap.size<w1.heap.size:=zQx aB
 have l2:w1.heap.size<w2.heap.size:=zQx aM
 have aG:=ar.trans aq
 -- behind the first byte
 have main:∀{w3:World},Pu w w3->w3.heap[w.heap.size]?=some (.cells #[.bool r.gone,.slice t.a t.len t.cap] 67)->w3.heap[w1.heap.size]?=some (.cells #[u8V (yZR r.gone)] 5)->
   Calls prog 203 #[.slice s.a s.len s.cap] w3 λe nG=>∃iF:Int,e=.returned (.int .i64 iF)/\∃dg:SV,∃kw:World,(Instr.makeSlice 22 (.int .i64 iF) (.int .i64 iF)).run prog nG=.ok (.slice dg.a dg.len dg.cap) kw/\
    alE (.cells #[.pointer none,.slice none 0 0] 220) kw λr7 rq=>
    yKC (λe w'=>∃q:SV,e=.returned (.slice q.a q.len q.cap)/\zQh w w' q (zJO sh l r)/\Pu w w') (some (⟨w.heap.size,0,none⟩:Addr)) ⟨(some ⟨w1.heap.size,0,none⟩),1,1⟩ dg (some (⟨r7,0,none⟩:Addr)) 0 s ((s.len:Nat):Int) 0 [] rq:=λ{w3} au bn hb3'=>by
  refine(zWv (h.pu au)).mono ?_
  rintro e w4 ⟨rfl,aK⟩
  obtain⟨i,i1,i2,i3,i4⟩:=info_parts yVo
  obtain⟨w5,e5,row5,aR,s5⟩:=zYg (P:=prog) (w:=w4) u37 i1 i2 i3 .i64 .i64 (zXo l) (by rw[i4];omega) (by omega)
  refine⟨_,rfl,⟨some ⟨w4.heap.size,0,none⟩,zXo l,zXo l⟩,w5,e5,alB λw6 bB fU=>?_⟩
  have l3:w1.heap.size<w3.heap.size:=zQx hb3'
  have z4:w3.heap.size<=w4.heap.size:=aK.size
  have fl6:zQh w w6 ⟨some ⟨w4.heap.size,0,none⟩,zXo l,zXo l⟩ (flN (zXo l) []):=by
   refine⟨(?_:zQl w5 5 1 _ _).pu bB,λb hb=>by simp[zQe]at hb;have:=au.size;omega⟩
   rw[xYN,List.map_replicate]
   rw[show(Value.int IntKind.u8 0).cells=#[.int .u8 0]from rfl,toList_madeCells_one,Nat.mul_one]at row5
   exact row5
  have yv:yJw w w.heap.size w1.heap.size w5.heap.size t ⟨some ⟨w4.heap.size,0,none⟩,zXo l,zXo l⟩ r.gone (zXo l) [] [] w6:=
   ⟨((au.trans aK).trans aR).trans bB,((aK.trans aR).trans bB).blk bn,((aK.trans aR).trans bB).blk hb3',fl6,kQc fU,zQx fU⟩
  have c3:w.heap.size<w5.heap.size:=by omega
  have c12:w1.heap.size<w5.heap.size:=by omega
  have c6:∀k ∈ zQe (⟨some ⟨w4.heap.size,0,none⟩,zXo l,zXo l⟩:SV),k<w5.heap.size:=λk hk=>by simp[zQe]at hk;omega
  have tP:w.heap.size<=w5.heap.size:=by omega
  generalize tw:(⟨some ⟨w4.heap.size,0,none⟩,zXo l,zXo l⟩:SV)=l6 at *
  have hl6len:l6.len=zXo l:=by rw[←tw]
  refine zQw l.length (λk u w'=>u.2=(k:Int)/\u.1=((zXv (l.take k) (r.v.take k)).length:Nat)/\yJw w w.heap.size w1.heap.size w5.heap.size t l6 r.gone (zXo l) (zXv (l.take k) (r.v.take k)) (zXP sh (l.take k) (r.v.take k)) w') ⟨rfl,rfl,yv⟩ ?_
  rintro k J ⟨u1,u2⟩ w7 hk ⟨tx,hu1,st⟩ hJ
  obtain rfl:u2=(k:Int):=tx
  obtain rfl:u1=((zXv (l.take k) (r.v.take k)).length:Nat):=hu1
  have hcl:=yQJ hwid hW k hk (by omega)
  dsimp only
  refine Br.of (λd=>?_) (λd=>?_)
  ·have aJ:k<l.length:=by have:=zQk d;omega
   obtain⟨f,hf⟩:=zQM aJ
   obtain⟨v,hv⟩:=zQM (show k<r.v.length by omega)
   obtain⟨a,ha,hi,_,_,_,k0,k1,k2,k3⟩:=zJl (h.pu st.pu) hf
   refine⟨a,ha,by omega,by omega,_,k0,_,k1,_,k2,_,k3,yQA rfl s23.symm rfl λw8 bP hs8 j9=>?_⟩
   obtain⟨m,hm,hmi,_,_,v0,v1,v2⟩:=yWl (hr.pu (st.pu.trans bP)) hv
   refine⟨t,cl (bP.blk st.rcd) 1,m,hm,by omega,by omega,_,v0,_,v1,_,v2,yQA rfl s25.symm rfl λw9 cx hs9 oM=>?_⟩
   have tz:=cx.blk j9
   have po:=bP.trans cx
   have hlt:=st.lt
   have z79:=po.size
   have up:∀{w':World} {B:Nat->Prop} {bits:List Bool},Fr B w7 w'->(∀i,B i->i<w5.heap.size)->(¬B w.heap.size)->(¬B w1.heap.size)->(∀i,B i->w.heap.size<=i)->zQh w w' l6 (flN (zXo l) bits)->yJw w w.heap.size w1.heap.size w5.heap.size t l6 r.gone (zXo l) bits (zXP sh (l.take k) (r.v.take k)) w':=λ{w' B bits} hf q1 q2 q3 q4 q5=>
    ⟨st.pu.andNew hf q4,hf.blk st.rcd q2,hf.blk st.out q3,q5,yKy st.bld hf λi hi hB=>by have:=q1 i hB;omega,Nat.lt_of_lt_of_le hlt hf.size⟩
   -- the end of the round
   have rest:∀{wz:World} {bits:List Bool},yJw w w.heap.size w1.heap.size w5.heap.size t l6 r.gone (zXo l) bits (zXP sh (l.take k) (r.v.take k)) wz->wz.heap[w7.heap.size]?=some (.cells #[.string f.name,.int .i64 f.kind,.int .i64 f.width,.bool f.null] 129)->wz.heap[w8.heap.size]?=some (.cells #[.int .i64 v.kind,.int .i64 v.n,.string v.s] 73)->
     bits=zXv (l.take (k+1)) (r.v.take (k+1))->∀{nb:Int},nb=(bits.length:Nat)->yJP J w7.heap.size w8.heap.size (some ⟨w5.heap.size,0,none⟩) nb (k:Int) wz:=λ{wz bits} q1 q2 q3 q4 {nb} q5=>by
    refine xXT (sh:=sh) (by have:=hwid f (List.mem_of_getElem? hf);omega) (hW k f v hf hv) q2 q3 q1.bld q1.lt (by omega) λw' hb' hbl=>?_
    rw[zQa (by omega) (by omega)]
    refine hJ _ _ aJ ⟨by dsimp only;omega,by rw[q5,q4],?_⟩
    rw[←q4,zWi hf hv]
    exact q1.below c3 c12 c6 tP hbl hb'
   have hns:=yQO hf hv
   refine⟨_,cl tz 3,Br.of (λd1=>⟨_,cl0 oM,Br.of (λd2=>?_) (λd2=>?_)⟩) (λd1=>?_)⟩
   ·
    rw[if_pos d1,decide_eq_true (zQG d2)]at hns
    generalize hbits:zXv (l.take k) (r.v.take k)=bits at *
    have hm1:bits.length+1<=(l.filter (·.null)).length:=by
     have h1:=zWC (l.take (k+1)) (r.v.take (k+1))
     have h2:=zZ8 l (k+1)
     rw[hns]at h1;simp only[List.length_append,List.length_singleton]at h1;omega
    obtain⟨q,ρ,hqr,hρ⟩:∃q ρ,bits.length=8 * q+ρ/\ρ<8:=⟨bits.length / 8,bits.length % 8,by omega,by omega⟩
    have hqN:q<zXo l:=by omega
    have e1:((bits.length:Nat):Int).tdiv 8=(q:Int):=by rw[Int.tdiv_eq_ediv_of_nonneg (by omega)];omega
    have e2:((bits.length:Nat):Int).tmod 8=(ρ:Int):=by rw[Int.tmod_eq_emod_of_nonneg (by omega)];omega
    rw[e1,e2,zQa (n:=(q:Int)) (by omega) (by omega),zQa (n:=((bits.length:Nat):Int)+1) (by have:=List.length_filter_le (·.null) l;omega) (by have:=List.length_filter_le (·.null) l;omega)]
    refine zQc λaN dk hh10=>?_
    have fl10:zQh w aN l6 (flN (zXo l) bits):=(st.fl.pu po).pu dk
    have hbl:=yYT hqr hρ
    have hpow:2 ^ ρ<=128:=by
     rcases(by omega:ρ=0∨ρ=1∨ρ=2∨ρ=3∨ρ=4∨ρ=5∨ρ=6∨ρ=7)with rfl|rfl|rfl|rfl|rfl|rfl|rfl|rfl <;> decide
    obtain⟨a6,ha6,hc6⟩:=fl10.cell (xWp hqN)
    have ebyte:u8V (UInt8.ofNat (zZx bits q))=.int .u8 ((zZx bits q:Nat):Int):=by
     unfold u8V;congr 2;simp;omega
    rw[ebyte]at hc6
    refine⟨rfl,by omega,a6,ha6,by omega,by omega,_,by rw[zXj,Nat.mul_one];exact hc6,rfl,by omega,by omega,?_⟩
    rw[zXj,zXj,Nat.mul_one,or_bit ρ hρ _ hbl,zJ2]
    have ev:zZI ((zZx bits q+2 ^ ρ:Nat):Int)=UInt8.ofNat (zZx bits q+2 ^ ρ):=by rw[zYZ];congr 1;omega
    rw[ev]
    obtain⟨a7,ha7,hst⟩:=fl10.1.st1 (j:=q) (by simp[zVg];exact hqN) (u8V (UInt8.ofNat (zZx bits q+2 ^ ρ))) (K:=λbp=>yJP J w7.heap.size w8.heap.size (some ⟨w5.heap.size,0,none⟩) (((bits.length:Nat):Int)+1) (k:Int) bp) λaV sB nC hs11=>by
     rw[←List.map_set,←xZS hqr hρ hqN]at sB
     have hfa:Fr (· ∈ zQe l6) w7 aV:=(Fr.pu (po.trans dk):Fr (· ∈ zQe l6) w7 aN).trans nC λ_ h _=>h
     refine rest (up hfa c6 (λhc=>?_) (λhc=>?_) (λi hi=>st.fl.2 i hi) ⟨sB,st.fl.2⟩) (nC.blk (dk.blk tz) λhc=>by have:=c6 _ hc;omega) (nC.blk (dk.blk oM) λhc=>by have:=c6 _ hc;have:=bP.size;omega) hns.symm (by simp)
     ·rw[←tw]at hc;simp[zQe]at hc;omega
     ·rw[←tw]at hc;simp[zQe]at hc;omega
    exact⟨a7,ha7,by omega,by omega,hst⟩
   ·rw[if_pos d1,decide_eq_false (zQm d2)]at hns
    rw[zQa (n:=((zXv (l.take k) (r.v.take k)).length:Int)+1) (by have:=zWC (l.take k) (r.v.take k);have:=zZ8 l k;have:=List.length_filter_le (·.null) l;omega) (by have:=zWC (l.take k) (r.v.take k);have:=zZ8 l k;have:=List.length_filter_le (·.null) l;omega)]
    refine rest (bits:=zXv (l.take k) (r.v.take k) ++ [false]) (up (B:=λ_=>False) (Fr.pu po) (λ_ h=>h.elim) (λh=>h) (λh=>h) (λ_ h=>h.elim) ?_) tz oM hns.symm (by simp)
    rw[yYq];exact st.fl.pu po
   ·rw[if_neg (by rw[d1];simp),List.append_nil]at hns
    exact rest (up (B:=λ_=>False) (Fr.pu po) (λ_ h=>h.elim) (λh=>h) (λh=>h) (λ_ h=>h.elim) (st.fl.pu po)) tz oM hns.symm rfl
  ·have aJ:k=l.length:=by have:=zQd d;omega
   subst aJ
   rw[List.take_length,List.take_of_length_le (show r.v.length<=l.length by omega)]at *
   have hlt:=st.lt
   have out:zQh w w7 ⟨some ⟨w1.heap.size,0,none⟩,1,1⟩ [yZR r.gone]:=zQh.box (l:=[yZR r.gone]) st.out (by omega) (by simp)
   obtain⟨pa,w8,e8,r8,f8,blk8⟩:=out.app' st.pu.size (m:=l6) (news:=flN (zXo l) (zXv l r.v)) st.fl.len (λj b hj=>st.fl.cell hj) (by simp only[List.length_singleton,zVg];omega)
   have hbld8:=yKy st.bld f8 λi hi hB=>by simp[zQe]at hB;omega
   have z8:=f8.size
   have bP:Pu w w8:=st.pu.andNew f8 λi hi=>out.2 i hi
   obtain⟨g,cap,hbg,hcell,hgl,hcall⟩:=zKB hbld8 hne
   have hg7:g<w7.heap.size:=by
    obtain⟨g',cap',_,hcell',hgl',_⟩:=zKB st.bld hne
    have e1:w8.heap[w5.heap.size]?=w7.heap[w5.heap.size]?:=f8.block _ hlt (by simp[zQe];omega)
    have e2:w8.cell? ⟨w5.heap.size,1,none⟩=w7.cell? ⟨w5.heap.size,1,none⟩:=World.cell?_of_block e1
    rw[e2,hcell']at hcell
    simp only[Option.some.injEq,Value.slice.injEq,Addr.mk.injEq]at hcell
    omega
   refine⟨pa,w8,e8,hcall.mono ?_⟩
   rintro e w9 ⟨rfl,hfg⟩
   have r9:zQh w w9 pa ([yZR r.gone] ++ flN (zXo l) (zXv l r.v)):=r8.fr hfg λb hb e=>by
    have e:b=g:=e
    rcases blk8 b hb with h1|h1
    ·simp[zQe]at h1;omega
    ·omega
   have hbl:Fr (w5.heap.size<=·) w8 w9:=⟨hfg.os,hfg.tape,hfg.output,hfg.size,λi hi hn=>hfg.block i hi (λe=>hn (by have e:i=g:=e;omega))⟩
   have cx:Pu w w9:=bP.andNew hbl λi hi=>Nat.le_trans tP hi
   obtain⟨q,aN,e10,dJ,f10⟩:=r9.str cx.size (zXP sh l r.v) (by simp only[List.length_append,List.length_singleton,zVg];omega)
   exact⟨_,rfl,q,aN,e10,q,rfl,dJ,cx.andNew f10 λi hi=>r9.2 i hi⟩
 refine Br.of (λd=>⟨_,rfl,by omega,by omega,?_⟩) (λd=>main aG (aq.blk aB) (by rw[d];exact aM))
 show st1 ((⟨w1.heap.size,0,none⟩:Addr).add 0) _ w2 _
 rw[zQr]
 refine zQt aM (by decide) λw3 tA bn=>main ?_ ?_ (by rw[d];exact bn)
 ·exact aG.andNew (B:=(·=w1.heap.size)) (by rw[tA];exact Fr.cell w2 _ 0 _) λi hi=>by omega
 ·exact(by rw[tA];exact Fr.cell w2 _ 0 _:Fr (·=w1.heap.size) w2 w3).blk (aq.blk aB) (by omega)
end Go.Proofs.YtaeecpjhfmcliaaGreatDoor
/- Table: the row with its code; the table that each law looks at. No condition. -/
namespace Go.Proofs.YtaeecpjhfmcliaaGreatDoor
open Go.Sh Go.RowKit Tryz
def yQ0(f:Fld)(v:Val):List UInt8:=v.s.data.toList ++ List.replicate (f.width.toNat - v.s.size) 32
theorem yJB (f:Fld) (v:Val) (hw:(v.s.size:Int)<=f.width/\f.width<=1000) (w:World):Calls prog 186 #[yQk f,zJ6 v] w λe w'=>e=.returned (.string (bs (yQ0 f v)))/\Pu w w':=by
 refine yWa _ _ _ _ _ _ _ w _ ?_
 refine alB λw1 ar aB=>alB λw2 aq aM=>zQc λw3 au _=>?_
 have bj:=aq.trans au
 refine⟨λu=>Pu w3 u,Pu.refl _,v.s,λu hu=>cl (hu.blk (au.blk aM)) 2,f.width,λu hu=>cl (hu.blk (bj.blk aB)) 2,v.s,λu hu=>cl (hu.blk (au.blk aM)) 2,?_⟩
 rw[zQa (by omega) (by omega)]
 have e1:f.width - ((v.s.size:Nat):Int)=((f.width.toNat - v.s.size:Nat):Int):=by omega
 rw[e1]
 refine(zKD 32 _ (by omega) w3).mono ?_
 rintro e w4 ⟨rfl,aK⟩
 refine⟨_,rfl,aK,?_,?_,(ar.trans bj).trans aK⟩
 ·have e4:=zQ9 (List.replicate (f.width.toNat - v.s.size) 32);rw[List.length_replicate]at e4;omega
 ·rw[zJ0,zQQ];rfl
def zJt(t:Tbl)(k:Int):Int:=if zQf t ≠ 0 then zQf t else if k<1∨(t.recs.length:Int)<k then 4 else 0
def yQM(sh:Fld->Val->List UInt8)(t:Tbl)(k:Int):List UInt8:=if zJt t k=0 then(match t.recs[(k - 1).toNat]? with|some x=>zJO sh t.fields x|none=>[])else []
theorem zYX{l:List Fld}{p:Int}{r:Rec}(h:zQ0 l p r=0):r.v.length=l.length/\zKq l p r.v=true:=by
 by_cases h1:r.v.length=l.length
 ·rw[zJz h1]at h
  refine⟨h1,?_⟩
  cases hx:zKq l p r.v
  ·rw[hx]at h;simp at h
  ·rfl
 ·rw[zVk h1]at h;omega
theorem zJo{l:List Fld}{p:Int}:∀{rs:List Rec},zXw l p rs=0->∀x ∈ rs,zQ0 l p x=0
 | [],_,_,hx=>by cases hx
 | a :: rs,h,x,hx=>by
  unfold zXw at h
  by_cases h1:zQ0 l p a ≠ 0
  ·rw[if_pos h1]at h;exact absurd h h1
  ·rw[if_neg h1]at h
   rcases List.mem_cons.1 hx with rfl|hx
   ·simpa using h1
   ·exact zJo h x hx
theorem rowE_c {w:World} {t:Tbl} {f r:SV} {sh:Fld->Val->List UInt8} (h:zX2 w t f r) (hl:Lim.ok t.fields) (k:Int) (hk:zZR k) (hW:zQf t=0->∀x ∈ t.recs,yKS sh t.fields x.v/\zXP sh t.fields x.v ≠ []) :
  Calls prog 144 #[zVb t f r,.int .i64 k] w λe w'=>∃q:SV,e=.returned (.tuple #[.slice q.a q.len q.cap,.int .i64 (zJt t k)])/\zQh w w' q (yQM sh t k)/\Pu w w':=by
 refine yWq _ _ _ _ w _ ?_
 refine alB λw1 ar aB=>⟨_,cl aB 0,_,cl aB 1,_,cl aB 2,(zZ7 (h.pu ar) hl).mono ?_⟩
 rintro e w2 ⟨rfl,aq⟩
 have dO:=ar.trans aq
 have hrl:=h.recs.len
 have no:∀{c:Int},c ≠ 0->zJt t k=c->∃q:SV,Ending.returned (.tuple #[.slice none 0 0,.int .i64 c])=.returned (.tuple #[.slice q.a q.len q.cap,.int .i64 (zJt t k)])/\zQh w w2 q (yQM sh t k)/\Pu w w2:=λh1 h2=>
  ⟨⟨none,0,0⟩,by rw[h2],by unfold yQM;rw[if_neg (by rw[h2];exact h1)];exact zQh.nil w w2,dO⟩
 refine⟨_,rfl,Br.of (λd=>no (zQ2 d) (by unfold zJt;rw[if_pos (zQ2 d)])) (λd=>Br.of (λd1=>no (c:=4) (by decide) ?_) (λd1=>⟨_,cl (aq.blk aB) 2,Br.of (λd2=>no (c:=4) (by decide) ?_) (λd2=>?_)⟩))⟩
 ·unfold zJt;rw[if_neg (by rw[zQs d];simp),if_pos (.inl (zQk d1))]
 ·unfold zJt;rw[if_neg (by rw[zQs d];simp),if_pos (.inr (by have:=zQk d2;omega))]
 have hv:=zQs d
 have d1:=zQd d1
 have d2:=zQd d2
 obtain⟨hpg,hvf,cM,hfb⟩:=zWd hv
 obtain⟨_,hall,_,iY,_⟩:=zXn hvf
 have hki:(k - 1).toNat<t.recs.length:=by omega
 obtain⟨x,hx⟩:=zQM hki
 have hxm:=List.mem_of_getElem? hx
 obtain⟨hxl,_⟩:=zYX (zJo hfb x hxm)
 have hc:zJt t k=0:=by unfold zJt;rw[if_neg (by rw[hv];simp),if_neg (by omega)]
 refine zQc λw3 au _=>?_
 have bj:=aq.trans au
 have aU:=ar.trans bj
 rw[zQa (by omega) (by have:=h.recs.lim;omega)]
 obtain⟨a,q,ha,hi,hq,c0,c1⟩:=zWk (h.recs.pu aU) hx
 refine⟨_,cl (bj.blk aB) 1,_,cl (bj.blk aB) 2,a,ha,by omega,by omega,_,c0,_,c1,(row_c (sh:=sh) (h.fields.pu aU) hq hxl iY (WOk.of hall) (hW hv x hxm).1 (hW hv x hxm).2).mono ?_⟩
 rintro e w4 ⟨o,rfl,ho,aK⟩
 refine⟨o,rfl,o,by rw[hc],?_,aU.trans aK⟩
 unfold yQM;rw[if_pos hc,hx];exact ho.low aU.size
theorem xZU{w0 w:World}{s:SV}{l:List UInt8}(h:zQh w0 w s l):(convert 22 9 (.slice s.a s.len s.cap)).run prog w=.ok (.string (bs l)) w:=by
 obtain⟨⟨hl,ho⟩,_⟩:=h
 rcases ho with rfl|⟨g,cur,h3,h4,h5,h6,h7,h8⟩
 ·have:l=[]:=by simpa using hl
  subst this
  exact Lib.run_convert_nil_bytes w 22 9 5 0 u37 u5 u9
 ·have hsl:s.len=(bs l).size:=by rw[zQ9];simp at hl;omega
  rw[h3,hsl]
  refine Lib.run_convert_whole w 22 5 9 u37 u5 u9 g 0 (bs l) (λi hi=>?_) s.cap
  rw[Nat.zero_add,zQI h4]
  have hi':i<l.length:=by rw[zQ9]at hi;exact hi
  have h1:(cur.toList.take (s.len * 1))[i]?=some (u8V (l[i])):=by rw[h8];simp[hi']
  rw[List.getElem?_take]at h1
  split at h1
  ·have h2:cur[i]?=some (u8V l[i]):=by simpa using h1
   rw[h2];rfl
  ·cases h1
end Go.Proofs.YtaeecpjhfmcliaaGreatDoor
/- Table: lengths and offsets; how large a table is; the law on which tables there are. No condition. -/
namespace Go.Proofs.YtaeecpjhfmcliaaGreatDoor
open Go.Sh Go.RowKit Tryz
theorem zVu{w:World}{s:SV}{l:List Val}(h:zX3 w s l):Calls prog 58 #[.slice s.a s.len s.cap] w λe w'=>∃n:Int,e=.returned (.int .i64 n)/\Pu w w':=by
 refine xQL _ w _ ?_
 have hlen:=h.len
 have hlim:=h.lim
 refine zQw l.length (λk t w'=>t.2=(k:Int)/\Pu w w') ⟨rfl,Pu.refl _⟩ ?_
 rintro k J ⟨t1,t2⟩ w2 hk ⟨ht,hp⟩ hJ
 obtain rfl:t2=(k:Int):=ht
 dsimp only
 refine Br.of (λd=>?_) (λd=>⟨_,rfl,hp⟩)
 have aJ:k<l.length:=by have:=zQk d;omega
 obtain⟨v,hv⟩:=zQM aJ
 obtain⟨a,ha,hi,_,_,c0,c1,c2⟩:=yWl (h.pu hp) hv
 refine⟨a,ha,by omega,by omega,_,c2,?_⟩
 rw[zQa (n:=(k:Int)+1) (by omega) (by omega)]
 exact hJ _ _ aJ ⟨by dsimp only;omega,hp⟩
theorem xZM{w:World}{t:Tbl}{f r:SV}(h:zX2 w t f r):Calls prog 57 #[zVb t f r] w λe w'=>∃n:Int,e=.returned (.int .i64 n)/\Pu w w':=by
 refine xXA _ _ _ w _ (alB λw1 ar aB=>⟨_,cl aB 1,?_⟩)
 have hfl:=h.fields.len
 have hfm:=h.fields.lim
 have hrl:=h.recs.len
 have hrm:=h.recs.lim
 refine zQw t.fields.length (λk u w'=>u.2=(k:Int)/\Pu w1 w') ⟨rfl,Pu.refl _⟩ ?_
 rintro k J ⟨u1,u2⟩ w2 hk ⟨hu,hp⟩ hJ
 obtain rfl:u2=(k:Int):=hu
 dsimp only
 refine⟨_,cl (hp.blk aB) 1,Br.of (λd=>?_) (λd=>?_)⟩
 ·have aJ:k<t.fields.length:=by have:=zQk d;omega
  obtain⟨x,hx⟩:=zQM aJ
  obtain⟨a,ha,hi,_,_,c,_⟩:=zJl (h.fields.pu (ar.trans hp)) hx
  refine⟨_,cl (hp.blk aB) 1,a,ha,by omega,by omega,_,c,?_⟩
  rw[zQa (n:=(k:Int)+1) (by omega) (by omega)]
  exact hJ _ _ aJ ⟨by dsimp only;omega,hp⟩
 clear hJ J
 refine zQw t.recs.length (λk u w'=>u.2=(k:Int)/\Pu w1 w') ⟨rfl,hp⟩ ?_
 rintro k J ⟨u1,u2⟩ w2 hk ⟨hu,hp⟩ hJ
 obtain rfl:u2=(k:Int):=hu
 dsimp only
 refine⟨_,cl (hp.blk aB) 2,Br.of (λd=>?_) (λd=>⟨_,rfl,ar.trans hp⟩)⟩
 have aJ:k<t.recs.length:=by have:=zQk d;omega
 obtain⟨x,hx⟩:=zQM aJ
 obtain⟨a,q,ha,hi,hq,c0,c1⟩:=zWk (h.recs.pu (ar.trans hp)) hx
 refine⟨_,cl (hp.blk aB) 2,a,ha,by omega,by omega,_,c1,(zVu hq).mono ?_⟩
 rintro e w3 ⟨n,rfl,au⟩
 refine⟨n,rfl,?_⟩
 rw[zQa (n:=(k:Int)+1) (by omega) (by omega)]
 exact hJ _ _ aJ ⟨by dsimp only;omega,hp.trans au⟩
theorem u55:prog.underlying 52=some (.slice 3):=by kernel_rfl
theorem info3:(prog.info? 3).map (λi=>(i.zero,i.size,i.bytes))=some (some (.int .i64 0),1,8):=by kernel_rfl
def zW1(w0 w:World)(s:SV)(l:List Int):Prop:=zQl w 3 1 s (l.map yV8)/\∀b ∈ zQe s,w0.heap.size<=b
theorem zW1.len{w0 w:World}{s:SV}{l:List Int}(h:zW1 w0 w s l):s.len=l.length:=by have:=h.1.1;simp at this;omega
theorem zW1.pu{w0 w w':World}{s:SV}{l:List Int}(h:zW1 w0 w s l)(hp:Pu w w'):zW1 w0 w' s l:=⟨h.1.pu hp,h.2⟩
theorem zW1.nil(w0 w:World):zW1 w0 w ⟨none,0,0⟩ []:=⟨zQl.nil w 3 1,by simp[zQe]⟩
theorem zW1.low{w0 w1 w:World}{s:SV}{l:List Int}(h:zW1 w1 w s l)(hz:w0.heap.size<=w1.heap.size):zW1 w0 w s l:=⟨h.1,λb hb=>Nat.le_trans hz (h.2 b hb)⟩
theorem zW1.push {w0 w:World} {s:SV} {l:List Int} (h:zW1 w0 w s l) (hz:w0.heap.size<=w.heap.size) {r:Nat} {n:Int} (hr:w.heap[r]?=some (.cells #[.int .i64 n] 3)) (hb:l.length<=1000000) :
  ∃(s':SV) (w':World),(Builtin.append_ #[52,52] 52 #[.slice s.a s.len s.cap,.slice (some ⟨r,0,none⟩) 1 1]).run prog w=.ok (.slice s'.a s'.len s'.cap) w'/\zW1 w0 w' s' (l ++ [n])/\Fr (· ∈ zQe s) w w':=by
 have h1:=h.len
 obtain⟨s',w',hra,hrow,hf,hblk,_⟩:=xZT (P:=prog) (ty:=52) u55 info3 rfl h.1 (a:=⟨r,0,none⟩) (u:=.int .i64 n) (by rw[zQI hr];rfl) rfl (by omega)
 refine⟨s',w',hra,⟨by simpa using hrow,λb hb=>?_⟩,hf⟩
 rcases hblk b hb with h2|h2
 ·exact h.2 b h2
 ·omega
theorem yYH{w:World}{s:SV}{l:List Fld}(h:zX3 w s l)(hl:Lim.ok l):Calls prog 128 #[.slice s.a s.len s.cap] w λe w'=>e=.returned (.tuple #[.int .i64 (if zQV l=0 then zXK l else 0),.int .i64 (zQV l)])/\Pu w w':=by
 refine yWe _ w _ ((zZP h hl).mono ?_)
 rintro e w1 ⟨rfl,ar⟩
 refine⟨_,rfl,Br.of (λd=>⟨by rw[if_neg (zQ2 d)],ar⟩) (λd=>(zYh (h.pu ar) (WOk.of (zXn (zQs d)).2.1)).mono ?_)⟩
 rintro e w2 ⟨rfl,aq⟩
 exact⟨_,rfl,by rw[zQs d];rfl,ar.trans aq⟩
end Go.Proofs.YtaeecpjhfmcliaaGreatDoor
/- Table: the law on what a value becomes in a field. No condition. -/
namespace Go.Proofs.YtaeecpjhfmcliaaGreatDoor
open Go.Sh Go.RowKit Tryz
theorem zKX{α:Type}(p:α->Bool):∀l:List α,(l.dropWhile p).dropWhile p=l.dropWhile p
 | []=>rfl
 | a :: l=>by
  by_cases h:p a=true
  ·rw[List.dropWhile_cons,if_pos h];exact zKX p l
  ·rw[List.dropWhile_cons,if_neg h,List.dropWhile_cons,if_neg h]
theorem yY0(l:List UInt8):zZ4 (zZ4 l)=zZ4 l:=by
 unfold zZ4;rw[List.reverse_reverse,zKX]
theorem yJl(a b:Val)(w:World):Calls prog 140 #[zJ6 a,zJ6 b] w λe w'=>e=.returned (.bool (decide (a=b)))/\Pu w w':=by
 refine yVn _ _ _ _ _ _ w _ ?_
 refine alB λw1 ar aB=>alB λw2 aq aM=>?_
 have hp:=ar.trans aq
 have q1:=aq.blk aB
 refine⟨_,cl0 q1,_,cl0 aM,Br.of (λd=>⟨_,cl q1 1,_,cl aM 1,Br.of (λd1=>⟨_,cl q1 2,_,cl aM 2,?_,hp⟩) (λd1=>⟨?_,hp⟩)⟩) (λd=>⟨?_,hp⟩)⟩
 ·rw[zX8]
  congr 2
  have e1:a.kind=b.kind:=zQG d
  have e2:a.n=b.n:=zQG d1
  refine zZ9 ⟨λe3=>?_,λe=>by rw[e]⟩
  obtain⟨a1,a2,a3⟩:=a;obtain⟨b1,b2,b3⟩:=b
  simp only at e1 e2 e3
  subst e1 e2 e3;rfl
 ·rw[decide_eq_false (λe=>zQm d1 (by rw[e]))]
 ·rw[decide_eq_false (λe=>zQm d (by rw[e]))]
end Go.Proofs.YtaeecpjhfmcliaaGreatDoor
/- Table: records of empty values, places of names; the law on them. No condition. -/
namespace Go.Proofs.YtaeecpjhfmcliaaGreatDoor
open Go.Sh Go.RowKit Tryz
theorem u44:prog.underlying 38=some (.slice 73):=by kernel_rfl
theorem info25:(prog.info? 73).map (λi=>(i.zero,i.size,i.bytes))=some (some (.agg #[.int .i64 0,.int .i64 0,.string ⟨#[]⟩]),3,32):=by kernel_rfl
theorem s46:zX9 prog 67=2:=by kernel_rfl
theorem zXA(v:Val):(zVN v).length=3:=rfl
def zJY(w0 w:World)(s:SV)(l:List Val):Prop:=zQl w 73 3 s (l.flatMap zVN)/\∀b ∈ zQe s,w0.heap.size<=b
theorem zJY.len{w0 w:World}{s:SV}{l:List Val}(h:zJY w0 w s l):s.len=l.length:=h.1.len zXA (by decide)
theorem zJY.pu{w0 w w':World}{s:SV}{l:List Val}(h:zJY w0 w s l)(hp:Pu w w'):zJY w0 w' s l:=⟨h.1.pu hp,h.2⟩
theorem zJY.fr{B:Nat->Prop}{w0 w w':World}{s:SV}{l:List Val}(h:zJY w0 w s l)(hf:Fr B w w')(hn:∀k ∈ zQe s,¬B k):zJY w0 w' s l:=⟨h.1.fr hf hn,h.2⟩
theorem zJY.nil(w0 w:World):zJY w0 w ⟨none,0,0⟩ []:=⟨zQl.nil w 73 3,by simp[zQe]⟩
theorem zJY.low{w0 w1 w:World}{s:SV}{l:List Val}(h:zJY w1 w s l)(hz:w0.heap.size<=w1.heap.size):zJY w0 w s l:=⟨h.1,λb hb=>Nat.le_trans hz (h.2 b hb)⟩
theorem zJY.push {w0 w:World} {s:SV} {l:List Val} (h:zJY w0 w s l) (hz:w0.heap.size<=w.heap.size) {r:Nat} {v:Val} {c:Array Value} (hr:w.heap[r]?=some (.cells c 73)) (hc:c=#[.int .i64 v.kind,.int .i64 v.n,.string v.s]) (hb:l.length<=1000000) :
  ∃(s':SV) (w':World),(Builtin.append_ #[38,38] 38 #[.slice s.a s.len s.cap,.slice (some ⟨r,0,none⟩) 1 1]).run prog w=.ok (.slice s'.a s'.len s'.cap) w'/\zJY w0 w' s' (l ++ [v])/\Fr (· ∈ zQe s) w w':=by
 subst hc
 have h1:=h.len
 obtain⟨s',w',hra,hrow,hf,hblk,_⟩:=zQy (P:=prog) (ty:=38) u44 info25 rfl (by decide) h.1 (A:=some ⟨r,0,none⟩) (m:=1) (c:=1) (news:=zVN v) rfl (λj u hu=>⟨_,rfl,by rw[cl hr];simpa using hu⟩) (λu hu=>by simp[zVN]at hu;rcases hu with rfl|rfl|rfl <;> rfl) (by omega)
 refine⟨s',w',hra,⟨by simpa using hrow,λb hb=>?_⟩,hf⟩
 rcases hblk b hb with h2|h2
 ·exact h.2 b h2
 ·omega
structure RdV(w:World)(s:SV)(l:List Val):Prop where
 len:s.len=l.length
 lim:l.length<=140737488355328
 get:∀i v,l[i]?=some v->∃a,s.a=some a/\w.cell? ((a.add (i * 3)).add 0)=some (.int .i64 v.kind)/\w.cell? ((a.add (i * 3)).add 1)=some (.int .i64 v.n)/\w.cell? ((a.add (i * 3)).add 2)=some (.string v.s)
theorem RdV.pu{w w':World}{s:SV}{l:List Val}(h:RdV w s l)(hp:Pu w w'):RdV w' s l:=⟨h.len,h.lim,λi v hv=>by
 obtain⟨a,h1,h2,h3,h4⟩:=h.get i v hv
 exact⟨a,h1,hp.cell h2,hp.cell h3,hp.cell h4⟩⟩
theorem RdV.of{w:World}{s:SV}{l:List Val}(h:zX3 w s l):RdV w s l:=⟨h.len,by have:=h.lim;have:=h.len;omega,λi v hv=>by
 obtain⟨a,h1,_,_,_,h2,h3,h4⟩:=yWl h hv
 exact⟨a,h1,h2,h3,h4⟩⟩
theorem zJY.rd{w0 w:World}{s:SV}{l:List Val}(h:zJY w0 w s l)(hb:l.length<=140737488355328):RdV w s l:=⟨h.len,hb,λi v hv=>by
 obtain⟨a,h1,_,h2⟩:=h.1.elem zXA hv (o:=0) rfl
 obtain⟨a',qj,_,h3⟩:=h.1.elem zXA hv (o:=1) rfl
 obtain⟨a'',h1'',_,h4⟩:=h.1.elem zXA hv (o:=2) rfl
 rw[h1]at qj h1'';cases qj;cases h1''
 exact⟨a,h1,h2,h3,h4⟩⟩
theorem zJ9 {α:Type} {a b:List α} {k:Nat} (h:a.take k=b.take k) {x y:α} (hx:a[k]?=some x) (hy:b[k]?=some y) (e:x=y):a.take (k+1)=b.take (k+1):=by
 rw[zQD hx,zQD hy,h,e]
theorem yZ3{w:World}{s t:SV}{a b:List Val}(ha:RdV w s a)(hb:RdV w t b):Calls prog 105 #[.slice s.a s.len s.cap,.slice t.a t.len t.cap] w λe w'=>e=.returned (.bool (decide (a=b)))/\Pu w w':=by
 refine yWd _ _ w _ ?_
 have hla:=ha.len
 have hlb:=hb.len
 have hlim:=ha.lim
 refine Br.of (λd=>⟨by rw[decide_eq_false (λe=>zQ2 d (by rw[hla,hlb,e]))],Pu.refl _⟩) (λd=>?_)
 have hab:a.length=b.length:=by have:=zQs d;omega
 refine zQw a.length (λk t w'=>t=(k:Int)/\a.take k=b.take k/\Pu w w') ⟨rfl,by simp,Pu.refl _⟩ ?_
 rintro k J t w2 hk ⟨ht,he,hp⟩ hJ
 obtain rfl:t=(k:Int):=ht
 refine Br.of (λd1=>zQc λw3 au _=>?_) (λd1=>?_)
 ·have aJ:k<a.length:=by have:=zQk d1;omega
  obtain⟨x,hx⟩:=zQM aJ
  obtain⟨y,hy⟩:=zQM (show k<b.length by omega)
  obtain⟨p,hpa,c0,c1,c2⟩:=((ha.pu hp).pu au).get k x hx
  obtain⟨q,hqa,e0,e1,e2⟩:=((hb.pu hp).pu au).get k y hy
  refine⟨p,hpa,by omega,by omega,_,c0,_,c1,_,c2,q,hqa,by omega,by omega,_,e0,_,e1,_,e2,(yJl x y w3).mono ?_⟩
  rintro e w4 ⟨rfl,aK⟩
  refine⟨_,rfl,Br.of (λd2=>⟨?_,(hp.trans au).trans aK⟩) (λd2=>?_)⟩
  ·rw[decide_eq_false]
   intro e
   subst e
   rw[hx]at hy
   cases hy
   simp at d2
  ·rw[zQa (by omega) (by omega)]
   exact hJ _ _ aJ ⟨by omega,zJ9 he hx hy (by simpa using d2),(hp.trans au).trans aK⟩
 ·have aJ:k=a.length:=by have:=zQd d1;omega
  subst aJ
  rw[List.take_length,hab,List.take_length]at he
  exact⟨by rw[decide_eq_true he],hp⟩
theorem yXT{w:World}{s t:SV}{x y:Bool}{a b:List Val}(ha:RdV w s a)(hb:RdV w t b):Calls prog 70 #[.agg #[.bool x,.slice s.a s.len s.cap],.agg #[.bool y,.slice t.a t.len t.cap]] w λe w'=>e=.returned (.bool (decide (x=y) && decide (a=b)))/\Pu w w':=by
 refine xQk _ _ _ _ w _ (alB λw1 ar aB=>alB λw2 aq aM=>?_)
 have hp:=ar.trans aq
 have q1:=aq.blk aB
 refine⟨_,cl0 q1,_,cl0 aM,Br.of (λd=>⟨_,cl q1 1,_,cl aM 1,(yZ3 (ha.pu hp) (hb.pu hp)).mono ?_⟩) (λd=>⟨?_,hp⟩)⟩
 ·rintro e w3 ⟨rfl,au⟩
  exact⟨_,rfl,by rw[decide_eq_true (p:=x=y) (by simpa using d)];rfl,hp.trans au⟩
 ·rw[decide_eq_false (p:=x=y) (by simpa using d)];rfl
theorem xX9(n:Int)(w:World):Calls prog 45 #[.int .i64 n] w λe w'=>e=.returned (zJ6 ⟨2,n,⟨#[]⟩⟩)/\Pu w w':=by
 refine xXO _ w _ (yQA rfl s25.symm rfl λw1 ar _ aB=>?_)
 exact⟨_,cl aB 0,_,cl aB 1,_,cl aB 2,rfl,ar⟩
def zJp(l:List Fld):List Val:=if zQV l=0 then l.map zXr else []
theorem xXu {α β:Type} (g:α->β) {l:List α} {k:Nat} {x:α} (h:l[k]?=some x):(l.take (k+1)).map g=(l.take k).map g ++ [g x]:=by
 rw[zQD h,List.map_append];rfl
theorem xYB{w:World}{s:SV}{l:List Fld}(h:zX3 w s l)(hl:Lim.ok l):Calls prog 164 #[.slice s.a s.len s.cap] w λe w'=>∃q:SV,e=.returned (.tuple #[.agg #[.bool false,.slice q.a q.len q.cap],.int .i64 (zQV l)])/\zJY w w' q (zJp l)/\Pu w w':=by
 refine yYa _ w _ (alB λw1 ar aB=>(zZP (h.pu ar) hl).mono ?_)
 rintro e w2 ⟨rfl,aq⟩
 have aM:=aq.blk aB
 refine⟨_,rfl,Br.of (λd=>zQi aM s46.symm rfl rfl λw3 bn fT qU=>⟨_,cl bn 0,⟨none,0,0⟩,cl bn 1,⟨none,0,0⟩,rfl,by unfold zJp;rw[if_neg (zQ2 d)];exact zJY.nil w w3,(ar.trans aq).andNew fT λi hi=>by omega⟩) (λd=>alB λw3 au bn=>?_)⟩
 have hv:=zQs d
 have iY:=(zXn hv).2.2.2.1
 have hlen:=h.len
 have aU:=(ar.trans aq).trans au
 have z1:=ar.size
 have z2:=aq.size
 have z3:=au.size
 have lt2:w2.heap.size<w3.heap.size:=zQx bn
 have nJ:w.heap.size<w1.heap.size:=zQx aB
 refine zQw l.length (λk t w'=>t=(k:Int)/\∃q:SV,w'.heap[w.heap.size]?=some (.cells #[.bool false,.slice none 0 0] 67)/\w'.heap[w2.heap.size]?=some (.cells #[.bool false,.slice q.a q.len q.cap] 67)/\zJY w3 w' q ((l.take k).map zXr)/\w3.heap.size<=w'.heap.size/\Pu w w') ⟨rfl,⟨none,0,0⟩,au.blk aM,bn,zJY.nil w3 w3,Nat.le_refl _,aU⟩ ?_
 rintro k J t w4 hk ⟨ht,q,a1,a2,a3,a4,hp⟩ hJ
 obtain rfl:t=(k:Int):=ht
 have htl:=List.length_take_le k l
 refine Br.of (λd1=>?_) (λd1=>?_)
 ·have aJ:k<l.length:=by have:=zQk d1;omega
  obtain⟨f,hf⟩:=zQM aJ
  obtain⟨a,ha,hi,_,_,_,c0,c1,c2,c3⟩:=zJl (h.pu hp) hf
  refine⟨a,ha,by omega,by omega,_,c0,_,c1,_,c2,_,c3,yQA rfl s23.symm rfl λw5 aR oL bo=>zQc λw6 bB _=>?_⟩
  have b6:=(aR.trans bB).blk a2
  refine⟨λu=>Pu w6 u,Pu.refl _,q,λu hu=>cl (hu.blk b6) 1,f.name,λu hu=>cl (hu.blk (bB.blk bo)) 0,f.kind,λu hu=>cl (hu.blk (bB.blk bo)) 1,f.width,λu hu=>cl (hu.blk (bB.blk bo)) 2,f.null,λu hu=>cl (hu.blk (bB.blk bo)) 3,(xQU f w6).mono ?_⟩
  rintro e w7 ⟨rfl,cv⟩
  refine⟨_,_,_,rfl,cv,alB λw8 bP j9=>⟨cv.trans bP,?_⟩⟩
  have pq:=(((aR.trans bB).trans cv).trans bP)
  have z48:=pq.size
  obtain⟨q',w9,e9,r9,f9⟩:=(a3.pu pq).push (by omega) j9 rfl (by rw[List.length_map];omega)
  have n2:¬w2.heap.size ∈ zQe q:=λhc=>by have:=a3.2 _ hc;omega
  have n1:¬w.heap.size ∈ zQe q:=λhc=>by have:=a3.2 _ hc;omega
  have oM:=f9.blk (pq.blk a2) n2
  have hb9':=f9.blk (pq.blk a1) n1
  refine⟨q',w9,e9,zQt (o:=1) oM (by simp) λwx ex hbx=>?_⟩
  have fx:Fr (·=w2.heap.size) w9 wx:=by rw[ex];exact Fr.cell w9 _ _ _
  have zx:wx.heap.size=w9.heap.size:=by rw[ex];simp
  have z9:=f9.size
  rw[zQa (by omega) (by omega)]
  refine hJ _ _ aJ ⟨by omega,q',fx.blk hb9' (by omega),hbx,by rw[xXu _ hf];exact r9.fr fx λi hi=>by have:=r9.2 i hi;omega,by omega,?_⟩
  have p9:Pu w w9:=(hp.trans pq).andNew f9 λi hi=>by have:=a3.2 i hi;omega
  exact p9.andNew fx λi hi=>by omega
 ·have aJ:k=l.length:=by have:=zQd d1;omega
  subst aJ
  rw[List.take_length]at a3
  refine⟨_,cl a2 0,q,cl a2 1,zQi a1 s46.symm rfl rfl λw5 bo cN oL=>⟨_,cl bo 0,q,cl bo 1,q,by rw[hv],?_,hp.andNew cN λi hi=>by omega⟩⟩
  unfold zJp;rw[if_pos hv]
  exact(a3.fr cN λi hi=>by have:=a3.2 i hi;omega).low (by omega)
def yQo(l:List Fld)(s:ByteArray):Option Nat:=l.findIdx? λf=>decide (f.name=s)
def xJo(l:List Fld)(s:ByteArray):Int:=((yQo l s).getD 0:Nat)
theorem kQg{w:World}{s:SV}{l:List Fld}(h:zX3 w s l)(nm:ByteArray):Calls prog 82 #[.slice s.a s.len s.cap,.string nm] w λe w'=>e=.returned (.tuple #[.int .i64 (xJo l nm),.bool (yQo l nm).isSome])/\Pu w w':=by
 refine xXi _ _ w _ (alB λw1 ar aB=>?_)
 have tells:yKt l 114 #[.pointer (some ⟨w.heap.size,0,none⟩)] (λf=>decide (f.name=nm)) w1:=⟨by kernel_rfl,λf hf w2 aq=>by
  refine yWQ _ _ _ _ _ w2 _ (alB λw3 au bn=>⟨_,cl0 bn,_,cl0 ((aq.trans au).blk aB),?_,au⟩)
  rw[zX8]⟩
 refine(zYS (h.pu ar) tells).mono ?_
 rintro e w2 ⟨rfl,aq⟩
 refine⟨_,rfl,_,w2,yX5 _ _ _ _ _ _,?_,ar.trans aq⟩
 unfold xJo yQo
 cases l.findIdx? λf=>decide (f.name=nm)with
 | none=>rfl
 | some k=>
  dsimp only
  rw[Int.max_eq_left (by omega),decide_eq_true (by omega)];rfl
theorem xZF{w:World}{s:SV}{l:List Fld}(h:zX3 w s l)(nm:ByteArray):Calls prog 103 #[.slice s.a s.len s.cap,.string nm] w λe w'=>e=.returned (.tuple #[.int .i64 (xJo l nm),.bool (yQo l nm).isSome])/\Pu w w':=by
 refine yVp _ _ w _ ?_
 have hlen:=h.len
 have hlim:=h.lim
 refine zQw l.length (λk t w'=>t=(k:Int)/\(∀f ∈ l.take k,decide (f.name=nm)=false)/\Pu w w') ⟨rfl,by simp,Pu.refl _⟩ ?_
 rintro k J t w2 hk ⟨ht,hno,hp⟩ hJ
 obtain rfl:t=(k:Int):=ht
 refine Br.of (λd=>?_) (λd=>?_)
 ·have aJ:k<l.length:=by have:=zQk d;omega
  obtain⟨f,hf⟩:=zQM aJ
  obtain⟨a,ha,hi,_,_,c,_⟩:=zJl (h.pu hp) hf
  refine⟨a,ha,by omega,by omega,_,c,?_⟩
  rw[zX8]
  refine Br.of (λd1=>?_) (λd1=>?_)
  ·have:yQo l nm=some k:=zVG hno hf d1
   refine⟨?_,hp⟩
   unfold xJo;rw[this];rfl
  ·rw[zQa (by omega) (by omega)]
   refine hJ _ _ aJ ⟨by omega,λf' hf'=>?_,hp⟩
   rw[zQD hf,List.mem_append,List.mem_singleton]at hf'
   rcases hf' with hf'|rfl
   ·exact hno f' hf'
   ·exact d1
 ·have aJ:k=l.length:=by have:=zQd d;omega
  subst aJ
  rw[List.take_length]at hno
  have:yQo l nm=none:=by unfold yQo;rw[List.findIdx?_eq_none_iff];exact λx hx=>by rw[hno x hx]
  refine⟨?_,hp⟩
  unfold xJo;rw[this];rfl
end Go.Proofs.YtaeecpjhfmcliaaGreatDoor
/- Table: in which records two tables differ; the law on it. No condition. -/
namespace Go.Proofs.YtaeecpjhfmcliaaGreatDoor
open Go.Sh Go.RowKit Tryz
theorem xJt:zYq prog 129 [.str,.int .i64,.int .i64,.bool]=true:=by kernel_rfl
theorem xYZ:prog.eqGuardType prog.depth 129=false:=by kernel_rfl
theorem yY4:zYq prog 73 [.int .i64,.int .i64,.str]=true:=by kernel_rfl
theorem under4:prog.underlying 4=some .bool:=by kernel_rfl
theorem xZG{a b:Fld}(h:zYl a=zYl b):a=b:=by
 obtain⟨a1,a2,a3,a4⟩:=a;obtain⟨b1,b2,b3,b4⟩:=b
 simp[zYl]at h;simp[h]
theorem neFld(x y:Operand)(a b:Fld)(w:World):(eqS .neq 129 x y (yQk a) (yQk b)).run prog w=.ok (.bool (!decide (a=b))) w:=by
 refine yKV (ks:=[.str,.int .i64,.int .i64,.bool]) (xs:=zYl a) (ys:=zYl b) xJt xYZ rfl rfl ?_ w
 rw[decide_eq_true_iff]
 exact⟨λh=>by rw[h],xZG⟩
theorem neVal(x y:Operand)(a b:Val)(w:World):(eqS .neq 73 x y (zJ6 a) (zJ6 b)).run prog w=.ok (.bool (!decide (a=b))) w:=by
 refine yKV (ks:=[.int .i64,.int .i64,.str]) (xs:=zVN a) (ys:=zVN b) yY4 xQ0 rfl rfl ?_ w
 rw[decide_eq_true_iff]
 exact⟨λh=>by rw[h],yKc⟩
structure RdF(w:World)(s:SV)(l:List Fld):Prop where
 len:s.len=l.length
 lim:l.length<=140737488355328
 get:∀i f,l[i]?=some f->∃a,s.a=some a/\w.cell? ((a.add (i * 4)).add 0)=some (.string f.name)/\w.cell? ((a.add (i * 4)).add 1)=some (.int .i64 f.kind)/\w.cell? ((a.add (i * 4)).add 2)=some (.int .i64 f.width)/\w.cell? ((a.add (i * 4)).add 3)=some (.bool f.null)
theorem RdF.pu{w w':World}{s:SV}{l:List Fld}(h:RdF w s l)(hp:Pu w w'):RdF w' s l:=⟨h.len,h.lim,λi v hv=>by
 obtain⟨a,h1,h2,h3,h4,h5⟩:=h.get i v hv
 exact⟨a,h1,hp.cell h2,hp.cell h3,hp.cell h4,hp.cell h5⟩⟩
theorem RdF.of{w:World}{s:SV}{l:List Fld}(h:zX3 w s l):RdF w s l:=⟨h.len,by have:=h.lim;have:=h.len;omega,λi v hv=>by
 obtain⟨a,h1,_,_,_,_,h2,h3,h4,h5⟩:=zJl h hv
 exact⟨a,h1,h2,h3,h4,h5⟩⟩
theorem yXc {α:Type} {a b:List α} {k:Nat} {x y:α} (hx:a[k]?=some x) (hy:b[k]?=some y) (h:x ≠ y):a ≠ b:=λe=>by
 subst e;rw[hx]at hy;cases hy;exact h rfl
theorem xJ1{w:World}{s t:SV}{a b:List Fld}(ha:RdF w s a)(hb:RdF w t b):Calls prog 107 #[.slice s.a s.len s.cap,.slice t.a t.len t.cap] w λe w'=>e=.returned (.bool (decide (a=b)))/\Pu w w':=by
 refine yYb _ _ w _ ?_
 have hla:=ha.len
 have hlb:=hb.len
 have hlim:=ha.lim
 refine Br.of (λd=>⟨by rw[decide_eq_false (λe=>zQ2 d (by rw[hla,hlb,e]))],Pu.refl _⟩) (λd=>?_)
 have hab:a.length=b.length:=by have:=zQs d;omega
 refine zQw a.length (λk t w'=>t=(k:Int)/\a.take k=b.take k/\Pu w w') ⟨rfl,by simp,Pu.refl _⟩ ?_
 rintro k J t w2 hk ⟨ht,he,hp⟩ hJ
 obtain rfl:t=(k:Int):=ht
 refine Br.of (λd1=>zQc λw3 au _=>?_) (λd1=>?_)
 ·have aJ:k<a.length:=by have:=zQk d1;omega
  obtain⟨x,hx⟩:=zQM aJ
  obtain⟨y,hy⟩:=zQM (show k<b.length by omega)
  obtain⟨p,hpa,c0,c1,c2,c3⟩:=((ha.pu hp).pu au).get k x hx
  obtain⟨q,hqa,e0,e1,e2,e3⟩:=((hb.pu hp).pu au).get k y hy
  refine⟨p,hpa,by omega,by omega,_,c0,_,c1,_,c2,_,c3,q,hqa,by omega,by omega,_,e0,_,e1,_,e2,_,e3,_,λw=>neFld _ _ x y w,Br.of (λd2=>⟨?_,hp.trans au⟩) (λd2=>?_)⟩
  ·rw[decide_eq_false (yXc hx hy (by simpa using d2))]
  ·rw[zQa (by omega) (by omega)]
   exact hJ _ _ aJ ⟨by omega,zJ9 he hx hy (by simpa using d2),hp.trans au⟩
 ·have aJ:k=a.length:=by have:=zQd d1;omega
  subst aJ
  rw[List.take_length,hab,List.take_length]at he
  exact⟨by rw[decide_eq_true he],hp⟩
theorem yXW{w:World}{s t:SV}{a b:List Fld}(ha:RdF w s a)(hb:RdF w t b):Calls prog 69 #[.slice s.a s.len s.cap,.slice t.a t.len t.cap] w λe w'=>e=.returned (.bool (decide (a=b)))/\Pu w w':=by
 refine xQW _ _ w _ ?_
 have hla:=ha.len
 have hlb:=hb.len
 have hlim:=ha.lim
 refine Br.of (λd=>⟨by rw[decide_eq_false (λe=>zQ2 d (by rw[hla,hlb,e]))],Pu.refl _⟩) (λd=>?_)
 have hab:a.length=b.length:=by have:=zQs d;omega
 refine zQw a.length (λk t w'=>t=(k:Int)/\a.take k=b.take k/\Pu w w') ⟨rfl,by simp,Pu.refl _⟩ ?_
 rintro k J t w2 hk ⟨ht,he,hp⟩ hJ
 obtain rfl:t=(k:Int):=ht
 refine Br.of (λd1=>zQc λw3 au _=>?_) (λd1=>?_)
 ·have aJ:k<a.length:=by have:=zQk d1;omega
  obtain⟨x,hx⟩:=zQM aJ
  obtain⟨y,hy⟩:=zQM (show k<b.length by omega)
  obtain⟨p,hpa,c0,c1,c2,c3⟩:=((ha.pu hp).pu au).get k x hx
  obtain⟨q,hqa,e0,e1,e2,e3⟩:=((hb.pu hp).pu au).get k y hy
  refine⟨p,hpa,by omega,by omega,_,c0,_,c1,_,c2,_,c3,q,hqa,by omega,by omega,_,e0,_,e1,_,e2,_,e3,_,λw=>neFld _ _ x y w,Br.of (λd2=>⟨?_,hp.trans au⟩) (λd2=>?_)⟩
  ·rw[decide_eq_false (yXc hx hy (by simpa using d2))]
  ·rw[zQa (by omega) (by omega)]
   exact hJ _ _ aJ ⟨by omega,zJ9 he hx hy (by simpa using d2),hp.trans au⟩
 ·have aJ:k=a.length:=by have:=zQd d1;omega
  subst aJ
  rw[List.take_length,hab,List.take_length]at he
  exact⟨by rw[decide_eq_true he],hp⟩
theorem xJH{w:World}{s t:SV}{a b:List Val}(ha:RdV w s a)(hb:RdV w t b):Calls prog 108 #[.slice s.a s.len s.cap,.slice t.a t.len t.cap] w λe w'=>e=.returned (.bool (decide (a=b)))/\Pu w w':=by
 refine yVw _ _ w _ ?_
 have hla:=ha.len
 have hlb:=hb.len
 have hlim:=ha.lim
 refine Br.of (λd=>⟨by rw[decide_eq_false (λe=>zQ2 d (by rw[hla,hlb,e]))],Pu.refl _⟩) (λd=>?_)
 have hab:a.length=b.length:=by have:=zQs d;omega
 refine zQw a.length (λk t w'=>t=(k:Int)/\a.take k=b.take k/\Pu w w') ⟨rfl,by simp,Pu.refl _⟩ ?_
 rintro k J t w2 hk ⟨ht,he,hp⟩ hJ
 obtain rfl:t=(k:Int):=ht
 refine Br.of (λd1=>zQc λw3 au _=>?_) (λd1=>?_)
 ·have aJ:k<a.length:=by have:=zQk d1;omega
  obtain⟨x,hx⟩:=zQM aJ
  obtain⟨y,hy⟩:=zQM (show k<b.length by omega)
  obtain⟨p,hpa,c0,c1,c2⟩:=((ha.pu hp).pu au).get k x hx
  obtain⟨q,hqa,e0,e1,e2⟩:=((hb.pu hp).pu au).get k y hy
  refine⟨p,hpa,by omega,by omega,_,c0,_,c1,_,c2,q,hqa,by omega,by omega,_,e0,_,e1,_,e2,_,λw=>neVal _ _ x y w,Br.of (λd2=>⟨?_,hp.trans au⟩) (λd2=>?_)⟩
  ·rw[decide_eq_false (yXc hx hy (by simpa using d2))]
  ·rw[zQa (by omega) (by omega)]
   exact hJ _ _ aJ ⟨by omega,zJ9 he hx hy (by simpa using d2),hp.trans au⟩
 ·have aJ:k=a.length:=by have:=zQd d1;omega
  subst aJ
  rw[List.take_length,hab,List.take_length]at he
  exact⟨by rw[decide_eq_true he],hp⟩
def zY0(a b:List Rec)(i:Nat):Bool:=!decide (a[i]?=b[i]?)
def zVP(a b:List Rec)(n:Nat):List Int:=((List.range n).filter (zY0 a b)).map λ(i:Nat)=>(i:Int)+1
theorem xZJ{a b:List Rec}{n:Nat}(h:zY0 a b n=true):zVP a b (n+1)=zVP a b n ++ [(n:Int)+1]:=by
 simp[zVP,List.range_succ,List.filter_append,h]
theorem kQu{a b:List Rec}{n:Nat}(h:zY0 a b n=false):zVP a b (n+1)=zVP a b n:=by
 simp[zVP,List.range_succ,List.filter_append,h]
theorem xZQ(a b:List Rec)(n:Nat):(zVP a b n).length<=n:=by
 unfold zVP;rw[List.length_map]
 have:=List.length_filter_le (zY0 a b) (List.range n)
 simpa using this
def xW3(a b:Tbl):List Int × Int:=if zQf a ≠ 0 then([],zQf a)else if zQf b ≠ 0 then([],zQf b)else if a.page ≠ b.page∨a.fields ≠ b.fields then([],10)else(zVP a.recs b.recs (max a.recs.length b.recs.length),0)
theorem zW9{t:Tbl}(h:zQf t=0):zQX t.page=true/\zQV t.fields=0/\t.recs.length<=300/\zXw t.fields t.page t.recs=0:=by
 unfold zQf at h
 split at h
 ·rename_i h1
  split at h
  ·rename_i h2;exact absurd h h2
  ·rename_i h2
   split at h
   ·cases h
   ·rename_i h3;exact⟨h1,by omega,by omega,h⟩
 ·cases h
theorem xVs{x y:Rec}:(x=y) ↔ (x.gone=y.gone/\x.v=y.v):=by
 obtain⟨a,b⟩:=x;obtain⟨c,d⟩:=y;simp
theorem yKM{a b:List Rec}{i:Nat}(hm:i<max a.length b.length)(h:a.length<=i∨b.length<=i):zY0 a b i=true:=by
 unfold zY0
 rw[Bool.not_eq_true',decide_eq_false_iff_not]
 intro e
 rcases h with h|h
 ·rw[List.getElem?_eq_none h,List.getElem?_eq_getElem (by omega)]at e;cases e
 ·rw[List.getElem?_eq_none (l:=b) h,List.getElem?_eq_getElem (by omega)]at e;cases e
theorem xYz {a b:List Rec} {i:Nat} {x y:Rec} (hx:a[i]?=some x) (hy:b[i]?=some y):zY0 a b i=!(decide (x.gone=y.gone) && decide (x.v=y.v)):=by
 unfold zY0
 rw[hx,hy]
 congr 1
 rw[←Bool.decide_and]
 refine zZ9 ?_
 rw[Option.some_inj,xVs]
theorem zVY {w0 w:World} {s:SV} {a b:List Rec} {k:Nat} (h:zW1 w0 w s (zVP a b k)) (hp:Pu w0 w) (hk:k<1000) {J:SV × Int->World->Prop}
  (hJ:∀(s':SV) w',zW1 w0 w' s' (zVP a b (k+1))->Pu w0 w'->J (s',(k:Int)+1) w') (hd:zY0 a b k=true) :
  alE (.cells #[.int .i64 (IntKind.i64.wrap ((k:Int)+1))] 3) w λr w4=>∃kg:SV,∃w5:World,(Builtin.append_ #[52,52] 52 #[.slice s.a s.len s.cap,.slice (some ⟨r,0,none⟩) 1 1]).run prog w4=.ok (.slice kg.a kg.len kg.cap) w5/\J (kg,IntKind.i64.wrap ((k:Int)+1)) w5:=by
 rw[zQa (by omega) (by omega)]
 refine alB λw4 aK dm=>?_
 have hl:=xZQ a b k
 obtain⟨s',w5,e5,r5,f5⟩:=(h.pu aK).push (hp.trans aK).size dm (by omega)
 refine⟨s',w5,e5,hJ s' w5 (by rw[xZJ hd];exact r5) ?_⟩
 exact(hp.trans aK).andNew f5 λi hi=>h.2 i hi
theorem yXw {w:World} {r:Nat} {t:Tbl} {f q:SV} (h:w.heap[r]?=some (.cells #[.int .i64 t.page,.slice f.a f.len f.cap,.slice q.a q.len q.cap] 35)):w.cell? ((⟨r,0,none⟩:Addr).add 0)=some (.int .i64 t.page)/\w.cell? ((⟨r,0,none⟩:Addr).add 1)=some (.slice f.a f.len f.cap)/\w.cell? ((⟨r,0,none⟩:Addr).add 2)=some (.slice q.a q.len q.cap):=⟨cl h 0,cl h 1,cl h 2⟩
theorem xJ8{w:World}{a b:Tbl}{fa ra fb rb:SV}(ha:zX2 w a fa ra)(hb:zX2 w b fb rb)(la:Lim.ok a.fields)(lb:Lim.ok b.fields):Calls prog 72 #[zVb a fa ra,zVb b fb rb] w
  λe w'=>∃q:SV,e=.returned (.tuple #[.slice q.a q.len q.cap,.int .i64 (xW3 a b).2])/\zW1 w w' q (xW3 a b).1/\Pu w w':=by
 refine xZv _ _ _ _ _ _ w _ (alB λw1 ar aB=>alB λw2 aq aM=>?_)
 have aG:=ar.trans aq
 have b1:∀{wz},Pu w2 wz->_:=λ{wz} (h:Pu w2 wz)=>yXw (t:=a) (f:=fa) (q:=ra) (h.blk (aq.blk aB))
 have b2:∀{wz},Pu w2 wz->_:=λ{wz} (h:Pu w2 wz)=>yXw (t:=b) (f:=fb) (q:=rb) (h.blk aM)
 refine⟨_,(b1 (Pu.refl _)).1,_,(b1 (Pu.refl _)).2.1,_,(b1 (Pu.refl _)).2.2,(zZ7 (ha.pu aG) la).mono ?_⟩
 rintro e w3 ⟨rfl,au⟩
 refine⟨_,rfl,Br.of (λd=>⟨⟨none,0,0⟩,by unfold xW3;rw[if_pos (zQ2 d)],by unfold xW3;rw[if_pos (zQ2 d)];exact zW1.nil w w3,aG.trans au⟩) (λd=>?_)⟩
 have va:=zQs d
 refine⟨_,(b2 au).1,_,(b2 au).2.1,_,(b2 au).2.2,(zZ7 (hb.pu (aG.trans au)) lb).mono ?_⟩
 rintro e w4 ⟨rfl,aK⟩
 have p4:=au.trans aK
 have eA:xW3 a b=if zQf b ≠ 0 then([],zQf b)else if a.page ≠ b.page∨a.fields ≠ b.fields then([],10)else(zVP a.recs b.recs (max a.recs.length b.recs.length),0):=by unfold xW3;rw[if_neg (by omega)]
 refine⟨_,rfl,Br.of (λd=>⟨⟨none,0,0⟩,by rw[eA,if_pos (zQ2 d)],by rw[eA,if_pos (zQ2 d)];exact zW1.nil w w4,aG.trans p4⟩) (λd=>?_)⟩
 have vb:=zQs d
 rw[if_neg (by omega)]at eA
 have c1:=(b1 p4).1
 have c2:=(b2 p4).1
 rw[yYf]at c1 c2
 refine⟨_,c1,_,c2,Br.of (λd=>⟨⟨none,0,0⟩,by rw[eA,if_pos (.inl (zQ2 d))],by rw[eA,if_pos (.inl (zQ2 d))];exact zW1.nil w w4,aG.trans p4⟩) (λd=>⟨_,(b1 p4).2.1,_,(b2 p4).2.1,?_⟩)⟩
 have hpg:=zQs d
 refine(xJ1 (RdF.of (ha.fields.pu (aG.trans p4))) (RdF.of (hb.fields.pu (aG.trans p4)))).mono ?_
 rintro e w5 ⟨rfl,aR⟩
 have p5:=p4.trans aR
 refine⟨_,rfl,Br.of (λd=>⟨⟨none,0,0⟩,by rw[eA,if_pos (.inr (by simpa using d))],by rw[eA,if_pos (.inr (by simpa using d))];exact zW1.nil w w5,aG.trans p5⟩) (λd=>⟨_,(b1 p5).2.2,_,(b2 p5).2.2,_,w5,yX5 _ _ _ _ _ _,?_⟩)⟩
 rw[if_neg (by rintro(h|h);exact h hpg;exact h (by simpa using d))]at eA
 have hla:=ha.recs.len
 have hlb:=hb.recs.len
 have ma:=(zW9 va).2.2.1
 have mb:=(zW9 vb).2.2.1
 refine zQw (max a.recs.length b.recs.length) (λk t w'=>t.2=(k:Int)/\zW1 w2 w' t.1 (zVP a.recs b.recs k)/\Pu w2 w') ⟨rfl,zW1.nil w2 w5,p5⟩ ?_
 rintro k J ⟨t1,t2⟩ w6 hk ⟨ht,hr,hp⟩ hJ
 obtain rfl:t2=(k:Int):=ht
 have hr:zW1 w2 w6 t1 (zVP a.recs b.recs k):=hr
 dsimp only
 refine Br.of (λd1=>zQc λw7 cv _=>?_) (λd1=>?_)
 ·have aJ:k<max a.recs.length b.recs.length:=by have:=zQk d1;omega
  have p7:=hp.trans cv
  have qh:=hr.pu cv
  refine⟨_,(b1 p7).2.2,Br.of (λd2=>?_) (λd2=>⟨_,(b2 p7).2.2,Br.of (λd3=>?_) (λd3=>⟨_,(b1 p7).2.2,?_⟩)⟩)⟩
  ·exact zVY qh p7 (by omega) (λs' w' h1 h2=>hJ _ _ aJ ⟨by dsimp only;omega,h1,h2⟩) (yKM aJ (.inl (by have:=zQk d2;omega)))
  ·exact zVY qh p7 (by omega) (λs' w' h1 h2=>hJ _ _ aJ ⟨by dsimp only;omega,h1,h2⟩) (yKM aJ (.inr (by have:=zQk d3;omega)))
  have d2:=zQd d2
  have d3:=zQd d3
  obtain⟨x,hx⟩:=zQM (show k<a.recs.length by omega)
  obtain⟨y,hy⟩:=zQM (show k<b.recs.length by omega)
  obtain⟨p,sx,hpa,_,vx,x0,x1⟩:=zWk (ha.recs.pu (aG.trans p7)) hx
  obtain⟨q,sy,hqa,_,vy,y0,y1⟩:=zWk (hb.recs.pu (aG.trans p7)) hy
  have x00:=x0
  have y00:=y0
  rw[yYf]at x00 y00
  have hd:=xYz hx hy
  refine⟨p,hpa,by omega,by omega,_,x00,_,(b2 p7).2.2,q,hqa,by omega,by omega,_,y00,_,λw=>xJe under4 _ _ _ _ w,Br.of (λd4=>?_) (λd4=>?_)⟩
  ·exact zVY qh p7 (by omega) (λs' w' h1 h2=>hJ _ _ aJ ⟨by dsimp only;omega,h1,h2⟩) (by rw[hd,decide_eq_false (by simpa using d4)];rfl)
  have d4:x.gone=y.gone:=by simpa using d4
  refine⟨_,(b1 p7).2.2,p,hpa,by omega,by omega,_,x1,_,(b2 p7).2.2,q,hqa,by omega,by omega,_,y1,(xJH (RdV.of vx) (RdV.of vy)).mono ?_⟩
  rintro e w8 ⟨rfl,bP⟩
  refine⟨_,rfl,Br.of (λd5=>?_) (λd5=>?_)⟩
  ·exact zVY (qh.pu bP) (p7.trans bP) (by omega) (λs' w' h1 h2=>hJ _ _ aJ ⟨by dsimp only;omega,h1,h2⟩) (by rw[hd,decide_eq_true d4];simpa using d5)
  ·show J (t1,IntKind.i64.wrap ((k:Int)+1)) w8
   rw[zQa (by omega) (by omega)]
   refine hJ _ _ aJ ⟨by dsimp only;omega,?_,p7.trans bP⟩
   dsimp only
   rw[kQu (by rw[hd,decide_eq_true d4];simpa using d5)]
   exact qh.pu bP
 ·have aJ:k=max a.recs.length b.recs.length:=by have:=zQd d1;omega
  subst aJ
  exact⟨t1,by rw[eA],by rw[eA];exact hr.low aG.size,aG.trans hp⟩
end Go.Proofs.YtaeecpjhfmcliaaGreatDoor
/- The log: a store in plain words: what each call tells, and what it leaves. No program in sight. No condition. -/
namespace Go.Proofs.YtaeecpjhfmcliaaGreatDoor
open Go.Sh Go.RowKit Tryz
structure Sto where
 t:Tbl
 lev:List Tbl
 done:List Tbl
def Sto.new(t:Tbl):Sto:=⟨t,[],[t]⟩
def Sto.last(σ:Sto):Tbl:=σ.done.getLast?.getD σ.t
def zZy(σ:Sto):Sto:=if σ.lev=[]/\σ.t ≠ σ.last then { σ with done:=σ.done ++ [σ.t] }else σ
def zKd(σ:Sto):Int:=if 8<=σ.lev.length then 3 else 0
def zZZ(σ:Sto):Sto:=if 8<=σ.lev.length then σ else { σ with lev:=σ.lev ++ [σ.t] }
def zJj(σ:Sto):Int:=if σ.lev=[]then 9 else 0
def xWQ(σ:Sto):Sto:=if σ.lev=[]then σ else zZy { σ with lev:=σ.lev.dropLast }
def zVt(σ:Sto):Sto:=if σ.lev=[]then σ else { σ with t:=σ.lev.getLast?.getD σ.t,lev:=σ.lev.dropLast }
def zXf(σ:Sto)(k:Int):Bool:=decide (1<=k) && decide (k<=σ.t.recs.length)
def zXJ(σ:Sto)(l:List Rec):Sto:=zZy { σ with t:={ σ.t with recs:=l } }
def yJa(σ:Sto)(r:Rec):Int:=if 300<=σ.t.recs.length then 3 else zQ0 σ.t.fields σ.t.page r
def xW2(σ:Sto)(r:Rec):Sto:=if yJa σ r=0 then zXJ σ (σ.t.recs ++ [r])else σ
def yYj(σ:Sto)(r:Rec):Int:=if yJa σ r=0 then σ.t.recs.length+1 else 0
def yZY(σ:Sto)(k:Int)(r:Rec):Int:=if zXf σ k then zQ0 σ.t.fields σ.t.page r else 4
def xV5(σ:Sto)(k:Int)(r:Rec):Sto:=if yZY σ k r=0 then zXJ σ (σ.t.recs.set (k - 1).toNat r)else σ
def zYN(σ:Sto)(k:Int):Int:=if zXf σ k then 0 else 4
def yJ1(σ:Sto)(k:Int)(g:Bool):Sto:=if zXf σ k then zXJ σ (σ.t.recs.modify (k - 1).toNat λr=>{ r with gone:=g })else σ
def yXL(σ:Sto)(k:Int)(nm:ByteArray)(v:Val):Int:=match yQo σ.t.fields nm with
 | none=>4
 | some i=>if zXf σ k then(zZT (σ.t.fields.getD i default) σ.t.page v).2 else 4
def yWn(σ:Sto)(k:Int)(nm:ByteArray)(v:Val):Sto:=match yQo σ.t.fields nm with
 | none=>σ
 | some i=>if zXf σ k/\(zZT (σ.t.fields.getD i default) σ.t.page v).2=0 then zXJ σ (σ.t.recs.modify (k - 1).toNat λr=>{ r with v:=r.v.set i (zZT (σ.t.fields.getD i default) σ.t.page v).1 })else σ
def zVA(σ:Sto):Int:=if σ.lev=[]then 0 else 9
def yJA:Tbl:=⟨0,[],[]⟩
def yJd(σ:Sto)(n:Int):Int:=if 0<=n/\n<σ.done.length then 0 else 1
def yQp(σ:Sto)(n:Int):Tbl:=if 0<=n/\n<σ.done.length then σ.done.getD n.toNat yJA else yJA
def zJx(σ:Sto):List Int:=zVP σ.last.recs σ.t.recs (max σ.last.recs.length σ.t.recs.length)
end Go.Proofs.YtaeecpjhfmcliaaGreatDoor
/- The log: numbers, sums and records as bytes; the first record of bytes. In plain words. No condition but those stated. -/
namespace Go.Proofs.YtaeecpjhfmcliaaGreatDoor
open Go.Sh Go.RowKit Tryz
def zJh(n:Nat):Nat->List UInt8
 | 0=>[]
 | k+1=>UInt8.ofNat (n % 256) :: zJh (n / 256) k
def zQY:List UInt8->Nat
 | []=>0
 | c :: l=>c.toNat+256 * zQY l
theorem zQ7:∀(n k:Nat),(zJh n k).length=k
 | _,0=>rfl
 | n,k+1=>by simp[zJh,zQ7 (n / 256) k]
theorem zJ5:∀(n k:Nat),zQY (zJh n k)=n % 256 ^ k
 | n,0=>by simp[zJh,zQY,Nat.mod_one]
 | n,k+1=>by
  have h1:(UInt8.ofNat (n % 256)).toNat=n % 256:=by rw[UInt8.toNat_ofNat'];exact Nat.mod_eq_of_lt (Nat.lt_of_lt_of_le (Nat.mod_lt _ (by decide)) (by decide))
  rw[zJh,zQY,zJ5,h1,Nat.pow_succ,Nat.mul_comm (256 ^ k) 256,Nat.mod_mul]
def yWO(n:Nat)(c:UInt8):Nat:=(n * 16777619 % 4294967296) ^^^ c.toNat
theorem xJg(n:Nat)(c:UInt8):yWO n c<4294967296:=by
 have h1:n * 16777619 % 4294967296<2 ^ 32:=Nat.mod_lt _ (by decide)
 have h2:c.toNat<2 ^ 32:=Nat.lt_of_lt_of_le c.toNat_lt (by decide)
 exact Nat.xor_lt_two_pow h1 h2
def yX4(l:List UInt8):Nat:=l.foldl yWO 7
theorem yJb(l:List UInt8):yX4 l<4294967296:=by
 have key:∀(l:List UInt8) (n:Nat),n<4294967296->l.foldl yWO n<4294967296:=λl=>by
  induction l with
  | nil=>exact λn h=>h
  | cons c l ih=>exact λn h=>ih _ (xJg n c)
 exact key l 7 (by decide)
def zKk(kind:UInt8)(body:List UInt8):List UInt8:=kind :: (zJh body.length 4 ++ body)
def zZY(kind:UInt8)(body:List UInt8):List UInt8:=zKk kind body ++ zJh (yX4 (zKk kind body)) 4
theorem zWQ(k:UInt8)(b:List UInt8):(zKk k b).length=5+b.length:=by simp[zKk,zQ7];omega
theorem zJr(k:UInt8)(b:List UInt8):(zZY k b).length=9+b.length:=by simp[zZY,zWQ,zQ7];omega
def zZH(b:List UInt8):Option (UInt8 × List UInt8 × List UInt8):=
 if b.length<9 then none
 else if b.length<zQY ((b.drop 1).take 4)+9 then none
 else if zQY ((b.drop (5+zQY ((b.drop 1).take 4))).take 4) ≠ yX4 (b.take (5+zQY ((b.drop 1).take 4)))then none
 else some (b.headD 0,(b.drop 5).take (zQY ((b.drop 1).take 4)),b.drop (9+zQY ((b.drop 1).take 4)))
theorem yXq {b more body:List UInt8} {k:UInt8} (h:zZH b=some (k,body,more)):more.length<b.length:=by
 unfold zZH at h
 split at h
 ·cases h
 split at h
 ·cases h
 split at h
 ·cases h
 simp only[Option.some.injEq,Prod.mk.injEq]at h
 rw[←h.2.2,List.length_drop]
 omega
theorem yZu(k:UInt8)(body rest:List UInt8):zZY k body ++ rest=k :: (zJh body.length 4 ++ (body ++ (zJh (yX4 (zKk k body)) 4 ++ rest))):=by simp[zZY,zKk]
theorem yKe{k:UInt8}{body rest:List UInt8}(hb:body.length<4294967296):zQY (((zZY k body ++ rest).drop 1).take 4)=body.length:=by
 rw[yZu,List.drop_succ_cons,List.drop_zero,List.take_append_of_le_length (by rw[zQ7];omega),List.take_of_length_le (by rw[zQ7];omega),zJ5]
 exact Nat.mod_eq_of_lt hb
theorem yYo{k:UInt8}{body rest:List UInt8}(hb:body.length<4294967296):zZH (zZY k body ++ rest)=some (k,body,rest):=by
 have hl:(zZY k body ++ rest).length=9+body.length+rest.length:=by rw[List.length_append,zJr]
 have h5:(zZY k body ++ rest).drop (5+body.length)=zJh (yX4 (zKk k body)) 4 ++ rest:=by
  rw[zZY,List.append_assoc,show 5+body.length=(zKk k body).length from(zWQ _ _).symm,List.drop_left]
 have t5:(zZY k body ++ rest).take (5+body.length)=zKk k body:=by
  rw[zZY,List.append_assoc,show 5+body.length=(zKk k body).length from(zWQ _ _).symm,List.take_left]
 have d9:(zZY k body ++ rest).drop (9+body.length)=rest:=by
  rw[show 9+body.length=(zZY k body).length from(zJr _ _).symm,List.drop_left]
 have b5:((zZY k body ++ rest).drop 5).take body.length=body:=by
  rw[yZu]
  have e:k :: (zJh body.length 4 ++ (body ++ (zJh (yX4 (zKk k body)) 4 ++ rest)))=(k :: zJh body.length 4) ++ (body ++ (zJh (yX4 (zKk k body)) 4 ++ rest)):=rfl
  rw[e,show 5=(k :: zJh body.length 4).length by simp[zQ7],List.drop_left,List.take_left]
 unfold zZH
 rw[yKe hb,if_neg (by omega),if_neg (by omega),h5,t5,d9,b5,List.take_append_of_le_length (by rw[zQ7];omega),List.take_of_length_le (by rw[zQ7];omega),zJ5,
  Nat.mod_eq_of_lt (show yX4 (zKk k body)<256 ^ 4 from yJb _),if_neg (by simp)]
 rfl
theorem yVN {k:UInt8} {body p:List UInt8} (hb:body.length<4294967296) (hp:p <+: zZY k body) (hl:p.length<(zZY k body).length):zZH p=none:=by
 unfold zZH
 by_cases h9:p.length<9
 ·rw[if_pos h9]
 ·have hr:zQY ((p.drop 1).take 4)=body.length:=by
   obtain⟨q,hq⟩:=hp
   have h1:=yKe (k:=k) (rest:=[]) hb
   rw[List.append_nil,←hq,List.drop_append_of_le_length (by omega),List.take_append_of_le_length (by rw[List.length_drop];omega)]at h1
   exact h1
  rw[zJr]at hl
  rw[if_neg h9,hr,if_pos (by omega)]
end Go.Proofs.YtaeecpjhfmcliaaGreatDoor
/- Table: days and dates, in plain words. No condition. -/
namespace Go.Proofs.YtaeecpjhfmcliaaGreatDoor
def zKl(y:Nat):Bool:=(decide (y % 4=0) && decide (y % 100 ≠ 0)) || decide (y % 400=0)
def zJG(y m:Nat):Nat:=if m=2 then(if zKl y then 29 else 28)else if m=4∨m=6∨m=9∨m=11 then 30 else 31
def zQ5(y:Nat):Nat->Nat
 | 0=>0
 | m+1=>zQ5 y m+zJG y (m+1)
def zQz(y:Nat):Nat:=365 * (y - 1)+(y - 1) / 4 - (y - 1) / 100+(y - 1) / 400
def zQW(y m d:Nat):Prop:=1<=y/\y<=9999/\1<=m/\m<=12/\1<=d/\d<=zJG y m
instance (y m d:Nat):Decidable (zQW y m d):=by unfold zQW;exact inferInstance
def zZC(y m d:Nat):Nat:=zQz y+zQ5 y (m - 1)+d
theorem zXS{y:Nat}(h:1<=y):zQz (y+1)=zQz y+(if zKl y then 366 else 365):=by
 obtain⟨k,rfl⟩:∃k,y=k+1:=⟨y - 1,by omega⟩
 unfold zQz zKl
 simp only[Nat.add_sub_cancel]
 by_cases h1:(k+1) % 4=0 <;> by_cases h2:(k+1) % 100=0 <;> by_cases h3:(k+1) % 400=0 <;> simp[h1,h2,h3] <;> omega
theorem zJa(y:Nat):zQ5 y 12=if zKl y then 366 else 365:=by
 simp only[zQ5,zJG]
 cases zKl y <;> rfl
theorem zXT(y:Nat):∀{a b:Nat},a<=b->zQ5 y a<=zQ5 y b:=by
 intro a b h
 induction h with
 | refl=>exact Nat.le_refl _
 | step _ ih=>exact Nat.le_trans ih (by simp[zQ5])
theorem zXY{a b:Nat}(h0:1<=a)(h:a<=b):zQz a<=zQz b:=by
 induction h with
 | refl=>exact Nat.le_refl _
 | step h ih=>exact Nat.le_trans ih (by rw[zXS (Nat.le_trans h0 h)];omega)
theorem zQW.month{y m d:Nat}(h:zQW y m d):zQ5 y (m - 1)+d<=zQ5 y m:=by
 obtain⟨_,_,h3,_,_,h6⟩:=h
 obtain⟨k,rfl⟩:∃k,m=k+1:=⟨m - 1,by omega⟩
 simp only[zQ5,Nat.add_sub_cancel]
 omega
theorem zQW.year{y m d:Nat}(h:zQW y m d):zQz y<zZC y m d/\zZC y m d<=zQz (y+1):=by
 have h1:=h.month
 have h2:=zXT y h.2.2.2.1
 rw[zJa,]at h2
 rw[zXS h.1]
 have:=h.2.2.2.2.1
 unfold zZC
 omega
theorem yKK{y m d y' m' d':Nat}(h:zQW y m d)(h':zQW y' m' d')(e:zZC y m d=zZC y' m' d'):y=y'/\m=m'/\d=d':=by
 have a:=h.year
 have a':=h'.year
 have ey:y=y':=by
  rcases Nat.lt_trichotomy y y' with hlt|rfl|hlt
  ·have:=zXY (a:=y+1) (by omega) (show y+1<=y' by omega);omega
  ·rfl
  ·have:=zXY (a:=y'+1) (by omega) (show y'+1<=y by omega);omega
 subst ey
 have b:=h.month
 have b':=h'.month
 unfold zZC at e
 have c:=h.2.2.2.2.1
 have c':=h'.2.2.2.2.1
 have c3:=h.2.2.1
 have c3':=h'.2.2.1
 have em:m=m':=by
  rcases Nat.lt_trichotomy m m' with hlt|rfl|hlt
  ·have:=zXT y (show m<=m' - 1 by omega);omega
  ·rfl
  ·have:=zXT y (show m'<=m - 1 by omega);omega
 subst em
 exact⟨rfl,rfl,by omega⟩
theorem zKG:zQz 10000=3652059:=by decide
theorem zYP{y:Nat}(h:1<=y):365 * (y - 1)<=zQz y/\zQz y<=366 * (y - 1):=by
 unfold zQz;omega
theorem yZi(y m:Nat):zQ5 y m<=31 * m:=by
 induction m with
 | zero=>simp[zQ5]
 | succ m ih=>simp only[zQ5,zJG];split <;> (try split) <;> omega
end Go.Proofs.YtaeecpjhfmcliaaGreatDoor
/- Table: days and dates, as both packages compute them. No condition. -/
namespace Go.Proofs.YtaeecpjhfmcliaaGreatDoor
open Go.Sh Go.RowKit Tryz
theorem yYX(a b:Int):(a == b)=decide (a=b):=by simp[BEq.beq]
theorem zWE(n k:Nat):((n:Int)).tmod (k:Int)=((n % k:Nat):Int):=by rw[Int.tmod_eq_emod_of_nonneg (by omega)];norm_cast
theorem zKL(n k:Nat):((n:Int)).tdiv (k:Int)=((n / k:Nat):Int):=by rw[Int.tdiv_eq_ediv_of_nonneg (by omega)];norm_cast
theorem leap_c(n:Nat)(w:World):Calls prog 239 #[.int .i64 (n:Int)] w λe w'=>e=.returned (.bool (zKl n))/\Pu w w':=by
 have e4:(n:Int).tmod 4=((n % 4:Nat):Int):=zWE n 4
 have tB:(n:Int).tmod 100=((n % 100:Nat):Int):=zWE n 100
 have tC:(n:Int).tmod 400=((n % 400:Nat):Int):=zWE n 400
 refine yKX _ w _ ⟨rfl,by decide,Br.of (λd=>⟨rfl,by decide,Br.of (λd1=>⟨?_,Pu.refl w⟩) (λd1=>⟨rfl,by decide,?_,Pu.refl w⟩)⟩) (λd=>⟨?_,Pu.refl w⟩)⟩
 ·have d:=zQG d;have d1:=zQ2 d1
  rw[show zKl n=true from by unfold zKl;rw[decide_eq_true (show n % 4=0 by omega),decide_eq_true (show n % 100 ≠ 0 by omega)];rfl]
 ·have d:=zQG d;have d1:=zQs d1
  rw[yYX,show zKl n=decide (n % 400=0)from by unfold zKl;rw[decide_eq_false (show ¬n % 100 ≠ 0 by omega),Bool.and_false,Bool.false_or]]
  congr 2;simp only[decide_eq_decide];omega
 ·have d:=zQm d
  rw[show zKl n=false from by unfold zKl;rw[decide_eq_false (show ¬n % 4=0 by omega),decide_eq_false (show ¬n % 400=0 by omega)];rfl]
theorem s184:zX9 prog 258=12:=by kernel_rfl
def md12:Array Value:=#[.int .i64 31,.int .i64 28,.int .i64 31,.int .i64 30,.int .i64 31,.int .i64 30,.int .i64 31,.int .i64 31,.int .i64 30,.int .i64 31,.int .i64 30,.int .i64 31]
theorem md_at{m:Nat}(h:1<=m/\m<=12):md12[m - 1]?=some (.int .i64 ((if m=2 then 28 else if m=4∨m=6∨m=9∨m=11 then 30 else 31:Nat):Int)):=by
 rcases(by omega:m=1∨m=2∨m=3∨m=4∨m=5∨m=6∨m=7∨m=8∨m=9∨m=10∨m=11∨m=12)with rfl|rfl|rfl|rfl|rfl|rfl|rfl|rfl|rfl|rfl|rfl|rfl <;> rfl
theorem zJS(y m:Nat)(h:1<=m/\m<=12)(w:World):Calls prog 236 #[.int .i64 (y:Int),.int .i64 (m:Int)] w λe w'=>e=.returned (.int .i64 (zJG y m:Nat))/\Pu w w':=by
 refine yWY _ _ w _ (yQA rfl s184.symm rfl λw1 ar _ aB=>?_)
 rw[zQa (n:=(m:Int) - 1) (by omega) (by omega)]
 have em:((m:Int) - 1).toNat * 1=m - 1:=by omega
 have hc:∀{wz:World},Pu w1 wz->wz.cell? ((⟨w.heap.size,0,none⟩:Addr).add (((m:Int) - 1).toNat * 1))=some (.int .i64 ((if m=2 then 28 else if m=4∨m=6∨m=9∨m=11 then 30 else 31:Nat):Int)):=λ{wz} hz=>by
  rw[em,cl (hz.blk aB)];exact md_at h
 refine Br.of (λd=>(leap_c y w1).mono ?_) (λd=>⟨by omega,by omega,_,hc (Pu.refl _),?_,ar⟩)
 ·have d:=zQG d
  have d:m=2:=by omega
  rintro e w2 ⟨rfl,aq⟩
  refine⟨_,rfl,Br.of (λd1=>⟨?_,ar.trans aq⟩) (λd1=>⟨by omega,by omega,_,hc aq,?_,ar.trans aq⟩)⟩
  ·unfold zJG;rw[if_pos d,if_pos d1];rfl
  ·unfold zJG;rw[if_pos d,if_pos d,if_neg (by rw[d1];simp)]
 ·have d:=zQm d
  have d:¬m=2:=by omega
  unfold zJG;rw[if_neg d,if_neg d]
theorem zWo(y:Nat)(h:1<=y/\y<=10000)(w:World):Calls prog 237 #[.int .i64 (y:Int)] w λe w'=>e=.returned (.int .i64 (zQz y:Nat))/\Pu w w':=by
 obtain⟨p,rfl⟩:∃p,y=p+1:=⟨y - 1,by omega⟩
 have e0:(((p+1:Nat):Int) - 1)=(p:Int):=by omega
 have e4:=zKL p 4
 have tB:=zKL p 100
 have tC:=zKL p 400
 refine yVd _ w _ ⟨rfl,by decide,rfl,by decide,rfl,by decide,?_,Pu.refl w⟩
 have e4:(p:Int).tdiv 4=((p / 4:Nat):Int):=e4
 have tB:(p:Int).tdiv 100=((p / 100:Nat):Int):=tB
 have tC:(p:Int).tdiv 400=((p / 400:Nat):Int):=tC
 rw[e0,zQa (n:=(p:Int)) (by omega) (by omega),e4,tB,tC,zQa (n:=((p / 4:Nat):Int)) (by omega) (by omega),zQa (n:=((p / 100:Nat):Int)) (by omega) (by omega),zQa (n:=((p / 400:Nat):Int)) (by omega) (by omega),zQa (n:=365 * (p:Int)) (by omega) (by omega),zQa (n:=365 * (p:Int)+_) (by omega) (by omega),zQa (n:=365 * (p:Int)+_ - _) (by omega) (by omega),zQa (by omega) (by omega)]
 unfold zQz
 rw[Nat.add_sub_cancel]
 congr 2
 omega
def yXm(y m d:Nat):Ending:=.returned (.tuple #[.int .i64 ((if zQW y m d then zZC y m d else 0:Nat):Int),.int .i64 (if zQW y m d then 0 else 1)])
theorem zVW(y m:Nat):zJG y m<=31/\28<=zJG y m:=by unfold zJG;split <;> (try split) <;> omega
theorem days_c(y m d:Nat)(w:World):Calls prog 226 #[.int .i64 (y:Int),.int .i64 (m:Int),.int .i64 (d:Int)] w λe w'=>e=yXm y m d/\Pu w w':=by
 have no:¬zQW y m d->∀{w'},Pu w w'->zVQ (λe w'=>e=yXm y m d/\Pu w w') (y:Int) (m:Int) (d:Int) true [] w':=λh w' hp=>Br.t rfl ⟨by unfold yXm;rw[if_neg h,if_neg h];rfl,hp⟩
 refine yWr _ _ _ w _ ?_
 refine Br.of (λd0=>no (λh=>by have:=h.1;have:=zQk d0;omega) (Pu.refl w)) (λd0=>Br.of (λd1=>no (λh=>by have:=h.2.1;have:=zQk d1;omega) (Pu.refl w)) (λd1=>Br.of (λd2=>no (λh=>by have:=h.2.2.1;have:=zQk d2;omega) (Pu.refl w)) (λd2=>Br.of (λd3=>no (λh=>by have:=h.2.2.2.1;have:=zQk d3;omega) (Pu.refl w)) (λd3=>Br.of (λd4=>no (λh=>by have:=h.2.2.2.2.1;have:=zQk d4;omega) (Pu.refl w)) (λd4=>?_)))))
 have d0:=zQd d0
 have d1:=zQd d1
 have d2:=zQd d2
 have d3:=zQd d3
 have d4:=zQd d4
 refine(zJS y m (by omega) w).mono ?_
 rintro e w1 ⟨rfl,ar⟩
 refine⟨_,rfl,?_⟩
 by_cases hd:d<=zJG y m
 ·have hD:zQW y m d:=⟨by omega,by omega,by omega,by omega,by omega,hd⟩
  have hml:=zVW y m
  rw[decide_eq_false (by omega)]
  refine Br.f rfl ((zWo y (by omega) w1).mono ?_)
  rintro e w2 ⟨rfl,aq⟩
  have hyl:=zYP (y:=y) (by omega)
  refine⟨_,rfl,?_⟩
  rw[zQa (n:=((zQz y:Nat):Int)+(d:Int)) (by omega) (by omega),zQa (n:=(m:Int) - 1) (by omega) (by omega)]
  refine zQw (m - 1) (λk t w'=>t.2=(k:Int)/\t.1=((zQz y+d+zQ5 y k:Nat):Int)/\Pu w w') ⟨rfl,by simp[zQ5],ar.trans aq⟩ ?_
  rintro k J ⟨t1,t2⟩ w3 hk ⟨h2,h1,hp⟩ hJ
  obtain rfl:t2=(k:Int):=h2
  obtain rfl:t1=((zQz y+d+zQ5 y k:Nat):Int):=h1
  dsimp only
  refine Br.of (λd5=>?_) (λd5=>?_)
  ·have aJ:k<m - 1:=by have:=zQk d5;omega
   rw[zQa (n:=(k:Int)+1) (by omega) (by omega)]
   refine(zJS y (k+1) (by omega) w3).mono ?_
   rintro e w4 ⟨rfl,aK⟩
   have hmf:=yZi y k
   have hmd:=zVW y (k+1)
   refine⟨_,rfl,?_⟩
   rw[zQa (by omega) (by omega)]
   refine hJ _ _ aJ ⟨by dsimp only;omega,?_,hp.trans aK⟩
   dsimp only[zQ5];omega
  ·have aJ:k=m - 1:=by have:=zQd d5;omega
   subst aJ
   refine⟨?_,hp⟩
   unfold yXm zZC;rw[if_pos hD,if_pos hD,show zQz y+d+zQ5 y (m - 1)=zQz y+zQ5 y (m - 1)+d by omega]
 ·rw[decide_eq_true (by omega)]
  exact no (λh=>hd h.2.2.2.2.2) ar
theorem xY0(n:Nat)(h:1<=n/\n<=3652059)(w:World):Calls prog 234 #[.int .i64 (n:Int)] w λe w'=>∃y m d:Nat,zQW y m d/\zZC y m d=n/\e=.returned (.tuple #[.int .i64 (y:Int),.int .i64 (m:Int),.int .i64 (d:Int),.int .i64 0])/\Pu w w':=by
 refine yW7 _ w _ ((yJi (n:Int) w).mono ?_)
 rintro e w1 ⟨rfl,ar⟩
 rw[decide_eq_true (show(0:Int)<=n by omega),decide_eq_true (show(n:Int)<=3652059 by omega)]
 refine⟨_,rfl,Br.f rfl (Br.of (λd=>absurd (zQG d) (by omega)) (λd=>⟨rfl,by decide,?_⟩))⟩
 rw[show((n:Int).tdiv 366)=((n / 366:Nat):Int)from zKL n 366,zQa (n:=((n / 366:Nat):Int)) (by omega) (by omega),zQa (by omega) (by omega)]
 have y0:zQz (n / 366+1)<n:=by unfold zQz;rw[Nat.add_sub_cancel];omega
 have hend:=zKG
 refine zQw 10000 (λk t w'=>t=((n / 366+1+k:Nat):Int)/\zQz (n / 366+1+k)<n/\Pu w w') ⟨by omega,y0,ar⟩ ?_
 rintro k J t w2 hk ⟨ht,hy,hp⟩ hJ
 have hy9:n / 366+1+k<=9999:=by
  rcases Nat.lt_or_ge (n / 366+1+k) 10000 with h1|h1
  ·omega
  ·have:=zXY (a:=10000) (by omega) h1;omega
 generalize hyy:n / 366+1+k=y at *
 obtain rfl:t=(y:Int):=ht
 refine(?_:xZx _ J _ _ _ _)
 show Calls prog 237 #[.int .i64 (IntKind.i64.wrap ((y:Int)+1))] w2 _
 rw[zQa (n:=(y:Int)+1) (by omega) (by omega)]
 refine(zWo (y+1) (by omega) w2).mono ?_
 rintro e w3 ⟨rfl,au⟩
 refine⟨_,rfl,Br.of (λd1=>?_) (λd1=>?_)⟩
 ·have hlt:zQz (y+1)<n:=by have:=zQk d1;omega
  refine hJ _ _ (by omega) ⟨by omega,by rw[show n / 366+1+(k+1)=y+1 by omega];exact hlt,hp.trans au⟩
 have hge:n<=zQz (y+1):=by have:=zQd d1;omega
 have y1:1<=y:=by omega
 refine(zWo y (by omega) w3).mono ?_
 rintro e w4 ⟨rfl,aK⟩
 refine⟨_,rfl,?_⟩
 clear hJ J d1
 have hyl:=zYP y1
 rw[zQa (by omega) (by omega)]
 have hys:=zXS y1
 have xM:=zJa y
 refine zQw 11 (λk t w'=>t.2=((k+1:Nat):Int)/\t.1=((n - zQz y - zQ5 y k:Nat):Int)/\zQz y+zQ5 y k<n/\Pu w w') ⟨rfl,by simp[zQ5];omega,by simp[zQ5];omega,(hp.trans au).trans aK⟩ ?_
 rintro k2 J ⟨t1,t2⟩ w5 aJ ⟨h2,h1,hlt,aR⟩ hJ
 obtain rfl:t2=((k2+1:Nat):Int):=h2
 obtain rfl:t1=((n - zQz y - zQ5 y k2:Nat):Int):=h1
 dsimp only
 refine(zJS y (k2+1) (by omega) w5).mono ?_
 rintro e w6 ⟨rfl,bB⟩
 have hml:=zVW y (k2+1)
 have hmf:zQ5 y (k2+1)=zQ5 y k2+zJG y (k2+1):=rfl
 refine⟨_,rfl,Br.of (λd1=>(zJS y (k2+1) (by omega) w6).mono ?_) (λd1=>?_)⟩
 ·rintro e w7 ⟨rfl,cv⟩
  have hgt:=zQk d1
  have k10:k2<11:=by
   rcases Nat.lt_or_ge k2 11 with h|h
   ·exact h
   ·exfalso
    have:k2=11:=by omega
    subst this
    have:zQ5 y 12=zQ5 y 11+zJG y 12:=rfl
    split at xM <;> split at hys <;> simp_all <;> omega
  refine⟨_,rfl,?_⟩
  rw[zQa (by omega) (by omega),zQa (by omega) (by omega)]
  refine hJ _ _ k10 ⟨by dsimp only;omega,by dsimp only;omega,by omega,(aR.trans bB).trans cv⟩
 ·have hle:=zQd d1
  refine⟨y,k2+1,n - zQz y - zQ5 y k2,⟨y1,hy9,by omega,by omega,by omega,by omega⟩,?_,rfl,aR.trans bB⟩
  unfold zZC;rw[Nat.add_sub_cancel];omega
end Go.Proofs.YtaeecpjhfmcliaaGreatDoor
