import Derived.Test.YtaeecpjhfmcliaaGreatDoorLgOwB
import Derived.Test.YtaeecpjhfmcliaaGreatDoorLgPrA
import Derived.Lib.SlBytesRow
import Derived.Lib.BufferRead
import Derived.Test.YtaeecpjhfmcliaaGreatDoorShTwentyThree
import Derived.Test.YtaeecpjhfmcliaaGreatDoorLgOwA
/- Table: the program's row of a record. No condition. -/
set_option maxRecDepth 100000
set_option linter.unusedVariables false
set_option linter.unusedSimpArgs false
namespace Go.Proofs.YtaeecpjhfmcliaaGreatDoor
open Go.Sh Go.RowKit Tryz
def yJI (J1:(Int × Int)->World->Prop) (dI cn:Nat) (p7:Option Addr) (n8 dk:Int) (aR:World):Prop:=
 ∃iE:Int,aR.cell? (⟨cn,0,none⟩:Addr)=some (.int .i64 iE)/\
 Br (iE == 0) (
 ∃i7:Int,aR.cell? ((⟨dI,0,none⟩:Addr).add 2)=some (.int .i64 i7)/\
 Calls prog 155 #[.string (⟨#[32]⟩:ByteArray),.int .i64 i7] aR λe eg=>
 ∃pi:ByteArray,e=.returned (.string pi)/\
 Calls prog 199 #[.pointer p7,.string pi] eg λe gb=>
 ∃iA:Int,∃kh:Value,e=.returned (.tuple #[.int .i64 iA,kh])/\
 J1 (n8,(IntKind.i64.wrap (dk+1))) gb) (
 dwE aR λiK=>
 ∃S6:World->Prop,S6 iK/\
 ∃qV:Int,(∀w',S6 w'->w'.cell? ((⟨dI,0,none⟩:Addr).add 1)=some (.int .i64 qV))/\
 ∃gE:ByteArray,(∀w',S6 w'->w'.cell? ((⟨dI,0,none⟩:Addr).add 0)=some (.string gE))/\
 ∃gF:Int,(∀w',S6 w'->w'.cell? ((⟨dI,0,none⟩:Addr).add 1)=some (.int .i64 gF))/\
 ∃gG:Int,(∀w',S6 w'->w'.cell? ((⟨dI,0,none⟩:Addr).add 2)=some (.int .i64 gG))/\
 ∃gH:Bool,(∀w',S6 w'->w'.cell? ((⟨dI,0,none⟩:Addr).add 3)=some (.bool gH))/\
 ∃dJ:Int,(∀w',S6 w'->w'.cell? ((⟨cn,0,none⟩:Addr).add 0)=some (.int .i64 dJ))/\
 ∃gI:Int,(∀w',S6 w'->w'.cell? ((⟨cn,0,none⟩:Addr).add 1)=some (.int .i64 gI))/\
 ∃gJ:ByteArray,(∀w',S6 w'->w'.cell? ((⟨cn,0,none⟩:Addr).add 2)=some (.string gJ))/\
 Calls prog 145 #[] iK λe il=>
 ∃qW:Option Nat,e=.returned (.map qW)/\
 ∃S7:World->Prop,S7 il/\(∀u,S7 u->S6 u)/\
 ∃iB:Int,∃iC:Int,∃iD:Int,∃gK:Value,∃ki:Value,(∀w',S7 w'->(Instr.lookup 176 (.map qW) (.int .i64 qV) false).run prog w'=.ok (.agg #[.int .u8 iB,.int .i64 iC,.int .i64 iD,gK,ki]) w')/\
 fnE gK λf63 first63 kj=>
 zQ5 prog f63=true/\Calls prog f63 (first63.toList ++ (([.agg #[.string gE,.int .i64 gF,.int .i64 gG,.bool gH],.agg #[.int .i64 dJ,.int .i64 gI,.string gJ]]:List Value) ++ kj.toList)).toArray il λe gz=>
 ∃qX:ByteArray,e=.returned (.string qX)/\
 Calls prog 199 #[.pointer p7,.string qX] gz λe gk=>
 ∃km:Int,∃ko:Value,e=.returned (.tuple #[.int .i64 km,ko])/\
 J1 (n8,(IntKind.i64.wrap (dk+1))) gk)
theorem xZB{B:Nat}{w w':World}(h:Below B w w'):Fr (B<=·) w w':=⟨h.os,h.tape,h.output,h.size,λk _ hk=>h.block k (by omega)⟩
theorem yJU{T e:TypeId}{B b:Nat}{xs:List Value}{Bs:Nat->Prop}{w w':World}(h:Lib.IsBuilderF T e B b xs w)(hf:Fr Bs w w')(hn:∀i,B<=i->¬Bs i):Lib.IsBuilderF T e B b xs w':=by
 have one:∀{p},Lib.BuilderAtF T e B b p xs w->Lib.BuilderAtF T e B b p xs w':=by
  rintro p ⟨hB,v,hb,⟨hl,ho⟩,hne⟩
  refine⟨hB,v,hf.blk hb (hn b hB),⟨hl,?_⟩,hne⟩
  rcases ho with ho|⟨g,cap,cur,fz,h1,h2,h3,h4⟩
  ·exact .inl ho
  ·exact .inr ⟨g,cap,cur,fz,h1,h2,hf.blk h3 (hn g h2),h4⟩
 exact h.elim (λh=>.inl (one h)) (λh=>.inr (one h))
theorem xYn {w:World} {b:Nat} (hb:w.heap[b]?=some (.cells #[.pointer none,.slice none 0 0] 220)):Lib.IsBuilderF 220 5 b b (Lib.byteCells []) w:=
 .inl ⟨Nat.le_refl _,.slice none 0 0,hb,⟨rfl,.inl ⟨rfl,rfl⟩⟩,by simp[Value.ownBlock]⟩
theorem zWO {w:World} {B b:Nat} {acc:List UInt8} (s:List UInt8) (h:Lib.IsBuilderF 220 5 B b (Lib.byteCells acc) w) (hl:acc.length+s.length<=140737488355328) (hB:B<=w.heap.size) :
  Calls prog 199 #[.pointer (some ⟨b,0,none⟩),.string (bs s)] w λe w'=>e=.returned (.tuple #[.int .i64 (s.length:Nat),.nilIface])/\Lib.IsBuilderF 220 5 B b (Lib.byteCells (acc ++ s)) w'/\Below B w w':=by
 refine(Any.Builder_WriteString_k Tryz.lays166 Tryz.Builder_Extra_105 B b (Lib.byteCells acc) (bs s) w h (by rw[Lib.byteCells_length,zQ8];exact hl) hB).mono ?_
 rintro e w' ⟨rfl,h1,h2,_⟩
 refine⟨by rw[zQ8],?_,h2⟩
 have e1:Lib.byteCells (acc ++ s)=Lib.byteCells acc ++ Lib.strCells (bs s):=by
  unfold Lib.byteCells Lib.strCells;rw[List.map_append,zQN]
 rw[e1]
 exact .inr h1
theorem u157:prog.underlying 243=some (.pointer 5):=by kernel_rfl
theorem yY2(w:World)(g n:Nat):Fr (·=g) w (w.freeze ⟨g,0,none⟩ n):=by
 unfold World.freeze
 split
 ·exact Fr.refl _ _
 ·refine⟨rfl,rfl,rfl,by simp,λk _ hk=>?_⟩
  have hk:¬g=k:=λe=>hk e.symm
  simp only[Array.getElem?_modify,hk,if_false]
theorem zKy {w:World} {B b:Nat} {acc:List UInt8} (h:Lib.IsBuilderF 220 5 B b (Lib.byteCells acc) w) (h0:acc ≠ []):∃g cap,B<=g/\w.cell? ⟨b,1,none⟩=some (.slice (some ⟨g,0,none⟩) acc.length cap)/\g<w.heap.size/\
  Calls prog 201 #[.pointer (some ⟨b,0,none⟩)] w λe w'=>e=.returned (.string (bs acc))/\Fr (·=g) w w':=by
 obtain⟨p,hB,v,hb,⟨hl,ho⟩,hne⟩:∃p,Lib.BuilderAtF 220 5 B b p (Lib.byteCells acc) w:=h.elim (λh=>⟨_,h⟩) (λh=>⟨_,h⟩)
 rw[Lib.byteCells_length]at ho
 have hpos:0<acc.length:=List.length_pos_iff.2 h0
 rcases ho with⟨_,hz⟩|⟨g,cap,cur,fz,rfl,hg,hgb,hfz,hcap,hmx,hcs,htk⟩
 ·omega
 rw[Nat.mul_one]at hcs htk
 refine⟨g,cap,hg,by rw[zQF hb];rfl,zQx hgb,?_⟩
 refine yKV _ w _ (zQc λw1 aq hh1=>?_)
 have ay:w1.heap[b]?=some (.cells #[p,.slice (some ⟨g,0,none⟩) acc.length cap] 220 (0,0)):=aq.blk hb
 have hg1:w1.heap[g]?=some (.cells cur 5 fz):=aq.blk hgb
 refine⟨λu=>u=w1,rfl,⟨some ⟨g,0,none⟩,acc.length,cap⟩,λu hu=>by subst hu;exact cl ay 1,⟨some ⟨g,0,none⟩,acc.length,cap⟩,λu hu=>by subst hu;exact cl ay 1,some ⟨g,0,none⟩,w1,Lib.run_unsafeSliceData_row _ _ _ _ _ _ (show cap ≠ 0 by omega),rfl,bs acc,w1.freeze ⟨g,0,none⟩ acc.length,?_,rfl,?_⟩
 ·refine Lib.run_unsafeString_row w1 243 3 9 5 u157 (by kernel_rfl) g cur.size (by simp[World.shape?,hg1]) acc h0 (by omega) (by unfold maxLen at hmx;omega) λj x hx=>?_
  rw[zQr,zQF hg1,Nat.zero_add]
  have h1:(cur.toList.take acc.length)[j]?=some (.int .u8 x.toNat):=by rw[htk];simp[Lib.byteCells,hx]
  rw[List.getElem?_take]at h1
  split at h1
  ·simpa using h1
  ·cases h1
 ·exact(Fr.pu aq:Fr (·=g) w w1).trans (yY2 w1 g _) λ_ h _=>h
theorem zQf.str{w0 w:World}{s:SV}{l:List UInt8}(h:zQf w0 w s l)(hz:w0.heap.size<=w.heap.size)(news:List UInt8)(hb:l.length+news.length<=70368744177664) :
  ∃(s':SV) (w':World),(Builtin.append_ #[22,9] 22 #[.slice s.a s.len s.cap,.string (bs news)]).run prog w=.ok (.slice s'.a s'.len s'.cap) w'/\zQf w0 w' s' (l ++ news)/\Fr (· ∈ zQe s) w w':=by
 have h1:=h.len
 have hi:=yVC
 obtain⟨i,h2,h3,h4,h5⟩:=info_parts hi
 have own:w.ownsRow 0 5 1 (.slice s.a s.len s.cap) s.len (l.map u8V):=h.1.owns
 have sM:w.ownsRow w0.heap.size 5 1 (.slice s.a s.len s.cap) s.len (l.map u8V):=by
  obtain⟨q1,q2⟩:=own
  refine⟨q1,?_⟩
  rcases q2 with q2|⟨g,cap,cur,q3,_,q4⟩
  ·exact .inl q2
  ·refine .inr ⟨g,cap,cur,q3,h.2 g ?_,q4⟩
   simp only[Value.slice.injEq]at q3
   simp[zQe,q3.1]
 obtain⟨v2,w2,jo,sk,hg,_⟩:=Lib.run_append_own_string (P:=prog) w w0.heap.size 22 9 22 5 i u37 u9 h2 h3 h4 h5 _ _ _ sM (bs news) (by rw[zQ8];unfold maxLen;omega) (by rw[zQ8];omega) hz
 have hs:Lib.strCells (bs news)=news.map u8V:=by unfold Lib.strCells;rw[zQN];rfl
 rw[hs,←List.map_append]at sk
 have hfr:Fr (· ∈ zQe s) w w2:=⟨hg.os,hg.tape,hg.output,hg.size,λk hk hn=>hg.block k hk (λe=>hn (by
  cases ha:s.a with
  | none=>rw[ha]at e;simp[Value.ownBlock]at e
  | some a=>rw[ha]at e;simp only[Value.ownBlock,Option.some.injEq]at e;simp[zQe,ha,e]))⟩
 obtain⟨q1,q2⟩:=sk
 rcases q2 with⟨q2,q3⟩|⟨g,cap,cur,q2,q3,q4,q5,q6,q7,q8⟩
 ·refine⟨⟨none,0,0⟩,w2,by rw[jo,q2],⟨⟨by rw[q1,q3],.inl rfl⟩,by simp[zQe]⟩,hfr⟩
 ·exact⟨⟨some ⟨g,0,none⟩,s.len+(bs news).size,cap⟩,w2,by rw[jo,q2],⟨⟨q1,.inr ⟨g,cur,rfl,q4,q5,q6,q7,q8⟩⟩,λb hb=>by simp[zQe]at hb;omega⟩,hfr⟩
theorem zQf.app' {w0 w:World} {s m:SV} {l news:List UInt8} (h:zQf w0 w s l) (hz:w0.heap.size<=w.heap.size) (hl:m.len=news.length) (hn:∀(j:Nat) (b:UInt8),news[j]?=some b->∃a,m.a=some a/\w.cell? (a.add j)=some (u8V b)) (hb:l.length+news.length<=70368744177664) :
  ∃(s':SV) (w':World),(Builtin.append_ #[22,22] 22 #[.slice s.a s.len s.cap,.slice m.a m.len m.cap]).run prog w=.ok (.slice s'.a s'.len s'.cap) w'/\zQf w0 w' s' (l ++ news)/\Fr (· ∈ zQe s) w w'/\∀k ∈ zQe s',k ∈ zQe s∨w.heap.size<=k:=by
 have h1:=h.len
 obtain⟨s',w',hr,hrow,hf,hblk,_⟩:=zKo (P:=prog) (ty:=22) u37 yVC rfl h.1 (m:=m) (news:=news.map u8V) (by simpa using hl) (λj u hu=>by
  obtain⟨b,hb,rfl⟩:∃b,news[j]?=some b/\u8V b=u:=by simpa using hu
  exact hn j b hb) (λu hu=>by simp at hu;obtain⟨x,_,rfl⟩:=hu;rfl) (by omega)
 refine⟨s',w',hr,⟨by rw[List.map_append];exact hrow,λb hb=>?_⟩,hf,hblk⟩
 rcases hblk b hb with h2|h2
 ·exact h.2 b h2
 ·omega
def zY9(sh:Fld->Val->List UInt8)(f:Fld)(v:Val):List UInt8:=if v.kind=0 then List.replicate f.width.toNat 32 else sh f v
def yK8(sh:Fld->Val->List UInt8)(l:List Fld)(vs:List Val):Prop:=∀(i:Nat) f v,l[i]?=some f->vs[i]?=some v->v.kind ≠ 0->(sh f v).length<=1000/\∃K,zXc f.kind=some K/\zQ5 prog K.wr=true/\
 ∀w,Calls prog K.wr #[yQb f,zJA v] w λe w'=>e=.returned (.string (bs (sh f v)))/\Pu w w'
theorem xXg {sh:Fld->Val->List UInt8} {w:World} {dI cn b:Nat} {f:Fld} {v:Val} {acc:List UInt8} {nb dk:Int} {J:(Int × Int)->World->Prop} (hw:0<=f.width/\f.width<=1000)
  (hW:v.kind ≠ 0->(sh f v).length<=1000/\∃K,zXc f.kind=some K/\zQ5 prog K.wr=true/\∀w,Calls prog K.wr #[yQb f,zJA v] w λe w'=>e=.returned (.string (bs (sh f v)))/\Pu w w')
  (iG:w.heap[dI]?=some (.cells #[.string f.name,.int .i64 f.kind,.int .i64 f.width,.bool f.null] 129)) (ir:w.heap[cn]?=some (.cells #[.int .i64 v.kind,.int .i64 v.n,.string v.s] 73))
  (hB:Lib.IsBuilderF 220 5 b b (Lib.byteCells acc) w) (hbs:b<w.heap.size) (ha:acc.length<=1000000)
  (hJ:∀w',Lib.IsBuilderF 220 5 b b (Lib.byteCells (acc ++ zY9 sh f v)) w'->Below b w w'->J (nb,IntKind.i64.wrap (dk+1)) w') :
  yJI J dI cn (some ⟨b,0,none⟩) nb dk w:=by
 have pub:∀{w'},Pu w w'->Below b w w':=λh=>Below.mono h (by omega)
 refine⟨_,cl0 ir,Br.of (λd=>⟨_,cl iG 2,?_⟩) (λd=>?_)⟩
 ·have ew:f.width=((f.width.toNat:Nat):Int):=by omega
  rw[show(Value.int .i64 f.width)=.int .i64 ((f.width.toNat:Nat):Int)by rw[←ew]]
  refine(zKJ 32 f.width.toNat (by omega) w).mono ?_
  rintro e w2 ⟨rfl,ar⟩
  refine⟨_,rfl,(zWO (List.replicate f.width.toNat 32) (yJU hB (Fr.pu ar:Fr (λ_=>False) w w2) λ_ _ h=>h) (by simp only[List.length_replicate];omega) (by have:=ar.size;omega)).mono ?_⟩
  rintro e w3 ⟨rfl,hB3,hbl⟩
  have:zY9 sh f v=List.replicate f.width.toNat 32:=by unfold zY9;rw[if_pos (zQE d)]
  rw[←this]at hB3
  exact⟨_,_,rfl,hJ w3 hB3 ((pub ar).trans hbl)⟩
 ·have d:=zQm d
  obtain⟨hlen,K,hK,hbody,hcall⟩:=hW d
  refine zQc λw2 ar hh2=>⟨λu=>Pu w2 u,Pu.refl _,f.kind,λu hu=>cl (hu.blk (ar.blk iG)) 1,f.name,λu hu=>cl (hu.blk (ar.blk iG)) 0,f.kind,λu hu=>cl (hu.blk (ar.blk iG)) 1,f.width,λu hu=>cl (hu.blk (ar.blk iG)) 2,f.null,λu hu=>cl (hu.blk (ar.blk iG)) 3,
   v.kind,λu hu=>cl (hu.blk (ar.blk ir)) 0,v.n,λu hu=>cl (hu.blk (ar.blk ir)) 1,v.s,λu hu=>cl (hu.blk (ar.blk ir)) 2,(zWZ w2).mono ?_⟩
  rintro e w3 ⟨m,rfl,hm,_,ax⟩
  refine⟨some m,rfl,λu=>Pu w3 u,Pu.refl _,λu hu=>ax.trans hu,K.letter,K.least,K.most,.func (.func K.wr) #[] #[],.func (.func K.rd) #[] #[],λu hu=>?_,hbody,?_⟩
  ·have:=zWL (hm.pu hu) f.kind false
   rw[hK]at this;exact this
  refine(hcall w3).mono ?_
  rintro e w4 ⟨rfl,aK⟩
  have fW:=(ar.trans ax).trans aK
  refine⟨_,rfl,(zWO (sh f v) (yJU hB (Fr.pu fW:Fr (λ_=>False) w w4) λ_ _ h=>h) (by omega) (by have:=fW.size;omega)).mono ?_⟩
  rintro e w5 ⟨rfl,hB5,hbl⟩
  have:zY9 sh f v=sh f v:=by unfold zY9;rw[if_neg d]
  rw[←this]at hB5
  exact⟨_,_,rfl,hJ w5 hB5 ((pub fW).trans hbl)⟩
end Go.Proofs.YtaeecpjhfmcliaaGreatDoor
/- Table: the program's row of a record, walked. No condition. -/
namespace Go.Proofs.YtaeecpjhfmcliaaGreatDoor
open Go.Sh Go.RowKit Tryz
def yZa(b:Bool):UInt8:=if b then 42 else 32
def zXP(sh:Fld->Val->List UInt8)(l:List Fld)(vs:List Val):List UInt8:=(l.zip vs).flatMap λx=>zY9 sh x.1 x.2
def zJK(sh:Fld->Val->List UInt8)(l:List Fld)(r:Rec):List UInt8:=[yZa r.gone] ++ flN (zXo l) (zXt l r.v) ++ zXP sh l r.v
theorem zWb {sh:Fld->Val->List UInt8} {l:List Fld} {vs:List Val} {k:Nat} {f:Fld} {v:Val} (h:l[k]?=some f) (h2:vs[k]?=some v):zXP sh (l.take (k+1)) (vs.take (k+1))=zXP sh (l.take k) (vs.take k) ++ zY9 sh f v:=by
 unfold zXP
 rw[zQB h,zQB h2,List.zip_append (by
  have h1:=(List.getElem?_eq_some_iff.1 h).1
  have h3:=(List.getElem?_eq_some_iff.1 h2).1
  rw[List.length_take,List.length_take];omega),List.flatMap_append]
 simp
theorem xX4 {sh:Fld->Val->List UInt8} {f:Fld} {v:Val} (hw:0<=f.width/\f.width<=254) (hs:v.kind ≠ 0->(sh f v).length<=1000):(zY9 sh f v).length<=1000:=by
 unfold zY9
 by_cases h:v.kind=0
 ·rw[if_pos h,List.length_replicate];omega
 ·rw[if_neg h];exact hs h
theorem yQx{sh:Fld->Val->List UInt8}{l:List Fld}{vs:List Val}(hw:WOk l)(hW:yK8 sh l vs):∀k,k<=l.length->k<=vs.length->(zXP sh (l.take k) (vs.take k)).length<=1000 * k
 | 0,_,_=>by simp[zXP]
 | k+1,h1,h2=>by
  obtain⟨f,hf⟩:=zQM (show k<l.length by omega)
  obtain⟨v,hv⟩:=zQM (show k<vs.length by omega)
  rw[zWb hf hv,List.length_append]
  have:=yQx hw hW k (by omega) (by omega)
  have:=xX4 (sh:=sh) (v:=v) (hw f (List.mem_of_getElem? hf)) (λh=>(hW k f v hf hv h).1)
  omega
theorem zZ2(l:List Fld)(k:Nat):((l.take k).filter (·.null)).length<=(l.filter (·.null)).length:=((List.take_sublist k l).filter _).length_le
structure yJ8(w:World)(r3 m7 b:Nat)(t l6:SV)(g:Bool)(N:Nat)(bits:List Bool)(acc:List UInt8)(w':World):Prop where
 pu:Pu w w'
 rcd:w'.heap[r3]?=some (.cells #[.bool g,.slice t.a t.len t.cap] 67)
 out:w'.heap[m7]?=some (.cells #[u8V (yZa g)] 5)
 fl:zQf w w' l6 (flN N bits)
 bld:Lib.IsBuilderF 220 5 b b (Lib.byteCells acc) w'
 lt:b<w'.heap.size
theorem yJ8.below {w:World} {r3 m7 b:Nat} {t l6:SV} {g:Bool} {N:Nat} {bits:List Bool} {acc acc':List UInt8} {w' w2:World} (h:yJ8 w r3 m7 b t l6 g N bits acc w') (h3:r3<b) (mY:m7<b) (h6:∀k ∈ zQe l6,k<b) (hb:w.heap.size<=b) (hB:Below b w' w2) (hbld:Lib.IsBuilderF 220 5 b b (Lib.byteCells acc') w2):yJ8 w r3 m7 b t l6 g N bits acc' w2:=
 ⟨Below.trans h.pu (hB.mono hb),by rw[hB.block _ h3];exact h.rcd,by rw[hB.block _ mY];exact h.out,h.fl.fr (xZB hB) λk hk e=>by have:=h6 k hk;have e:b<=k:=e;omega,hbld,Nat.lt_of_lt_of_le h.lt hB.size⟩
theorem row_c {w:World} {sh:Fld->Val->List UInt8} {l:List Fld} {s t:SV} {r:Rec} (h:zX6 w s l) (hr:zX6 w t r.v) (hl:r.v.length=l.length) (ja:l.length<=16) (hwid:WOk l) (hW:yK8 sh l r.v) (hne:zXP sh l r.v ≠ []) :
  Calls prog 158 #[.slice s.a s.len s.cap,.agg #[.bool r.gone,.slice t.a t.len t.cap]] w λe w'=>∃q:SV,e=.returned (.slice q.a q.len q.cap)/\zQf w w' q (zJK sh l r)/\Pu w w':=by
 refine yWf _ _ _ w _ ?_
 have hsl:=h.len
 have htl:=hr.len
 have hnl:=zVJ l
 have hN0:(zXo l)=((l.filter (·.null)).length+7) / 8:=rfl
 refine alB λw1 aq ay=>alB λw2 ar aN=>⟨_,cl0 (ar.blk ay),?_⟩
 have l1:w.heap.size<w1.heap.size:=zQx ay
 have l2:w1.heap.size<w2.heap.size:=zQx aN
 have aF:=aq.trans ar
 -- behind the first byte
 have main:∀{w3:World},Pu w w3->w3.heap[w.heap.size]?=some (.cells #[.bool r.gone,.slice t.a t.len t.cap] 67)->w3.heap[w1.heap.size]?=some (.cells #[u8V (yZa r.gone)] 5)->
   Calls prog 203 #[.slice s.a s.len s.cap] w3 λe oP=>∃iI:Int,e=.returned (.int .i64 iI)/\∃dm:SV,∃kI:World,(Instr.makeSlice 22 (.int .i64 iI) (.int .i64 iI)).run prog oP=.ok (.slice dm.a dm.len dm.cap) kI/\
    alE (.cells #[.pointer none,.slice none 0 0] 220) kI λr7 sB=>
    yJY (λe w'=>∃q:SV,e=.returned (.slice q.a q.len q.cap)/\zQf w w' q (zJK sh l r)/\Pu w w') (some (⟨w.heap.size,0,none⟩:Addr)) ⟨(some ⟨w1.heap.size,0,none⟩),1,1⟩ dm (some (⟨r7,0,none⟩:Addr)) 0 s ((s.len:Nat):Int) 0 [] sB:=λ{w3} ax br zY=>by
  refine(zWo (h.pu ax)).mono ?_
  rintro e w4 ⟨rfl,aK⟩
  obtain⟨i,i1,i2,i3,i4⟩:=info_parts yVC
  obtain⟨w5,e5,zZ,aU,s5⟩:=zVK (P:=prog) (w:=w4) u37 i1 i2 i3 .i64 .i64 (zXo l) (by rw[i4];omega) (by omega)
  refine⟨_,rfl,⟨some ⟨w4.heap.size,0,none⟩,zXo l,zXo l⟩,w5,e5,alB λw6 bC fV=>?_⟩
  have l3:w1.heap.size<w3.heap.size:=zQx zY
  have z4:w3.heap.size<=w4.heap.size:=aK.size
  have fl6:zQf w w6 ⟨some ⟨w4.heap.size,0,none⟩,zXo l,zXo l⟩ (flN (zXo l) []):=by
   refine⟨(?_:zQl w5 5 1 _ _).pu bC,λb hb=>by simp[zQe]at hb;have:=ax.size;omega⟩
   rw[xYj,List.map_replicate]
   rw[show(Value.int IntKind.u8 0).cells=#[.int .u8 0]from rfl,toList_madeCells_one,Nat.mul_one]at zZ
   exact zZ
  have xH:yJ8 w w.heap.size w1.heap.size w5.heap.size t ⟨some ⟨w4.heap.size,0,none⟩,zXo l,zXo l⟩ r.gone (zXo l) [] [] w6:=
   ⟨((ax.trans aK).trans aU).trans bC,((aK.trans aU).trans bC).blk br,((aK.trans aU).trans bC).blk zY,fl6,xYn fV,zQx fV⟩
  have c3:w.heap.size<w5.heap.size:=by omega
  have c12:w1.heap.size<w5.heap.size:=by omega
  have c6:∀k ∈ zQe (⟨some ⟨w4.heap.size,0,none⟩,zXo l,zXo l⟩:SV),k<w5.heap.size:=λk hk=>by simp[zQe]at hk;omega
  have rZ:w.heap.size<=w5.heap.size:=by omega
  generalize sN:(⟨some ⟨w4.heap.size,0,none⟩,zXo l,zXo l⟩:SV)=l6 at *
  have hl6len:l6.len=zXo l:=by rw[←sN]
  refine zQw l.length (λk u w'=>u.2=(k:Int)/\u.1=((zXt (l.take k) (r.v.take k)).length:Nat)/\yJ8 w w.heap.size w1.heap.size w5.heap.size t l6 r.gone (zXo l) (zXt (l.take k) (r.v.take k)) (zXP sh (l.take k) (r.v.take k)) w') ⟨rfl,rfl,xH⟩ ?_
  rintro k J ⟨u1,u2⟩ w7 hk ⟨sO,hu1,st⟩ hJ
  obtain rfl:u2=(k:Int):=sO
  obtain rfl:u1=((zXt (l.take k) (r.v.take k)).length:Nat):=hu1
  have hcl:=yQx hwid hW k hk (by omega)
  dsimp only
  refine Br.of (λd=>?_) (λd=>?_)
  ·have aI:k<l.length:=by have:=zQk d;omega
   obtain⟨f,hf⟩:=zQM aI
   obtain⟨v,hv⟩:=zQM (show k<r.v.length by omega)
   obtain⟨a,ha,hi,_,_,_,k0,k1,k2,k3⟩:=zJd (h.pu st.pu) hf
   refine⟨a,ha,by omega,by omega,_,k0,_,k1,_,k2,_,k3,yQk rfl s23.symm rfl λw8 cj hs8 j1=>?_⟩
   obtain⟨m,hm,hmi,_,_,v0,v1,v2⟩:=yVs (hr.pu (st.pu.trans cj)) hv
   refine⟨t,cl (cj.blk st.rcd) 1,m,hm,by omega,by omega,_,v0,_,v1,_,v2,yQk rfl s25.symm rfl λw9 cI hs9 oq=>?_⟩
   have sP:=cI.blk j1
   have o7:=cj.trans cI
   have hlt:=st.lt
   have z79:=o7.size
   have up:∀{w':World} {B:Nat->Prop} {bits:List Bool},Fr B w7 w'->(∀i,B i->i<w5.heap.size)->(¬B w.heap.size)->(¬B w1.heap.size)->(∀i,B i->w.heap.size<=i)->zQf w w' l6 (flN (zXo l) bits)->yJ8 w w.heap.size w1.heap.size w5.heap.size t l6 r.gone (zXo l) bits (zXP sh (l.take k) (r.v.take k)) w':=λ{w' B bits} hf q1 q2 q3 q4 q5=>
    ⟨st.pu.andNew hf q4,hf.blk st.rcd q2,hf.blk st.out q3,q5,yJU st.bld hf λi hi hB=>by have:=q1 i hB;omega,Nat.lt_of_lt_of_le hlt hf.size⟩
   -- the end of the round
   have rest:∀{wz:World} {bits:List Bool},yJ8 w w.heap.size w1.heap.size w5.heap.size t l6 r.gone (zXo l) bits (zXP sh (l.take k) (r.v.take k)) wz->wz.heap[w7.heap.size]?=some (.cells #[.string f.name,.int .i64 f.kind,.int .i64 f.width,.bool f.null] 129)->wz.heap[w8.heap.size]?=some (.cells #[.int .i64 v.kind,.int .i64 v.n,.string v.s] 73)->
     bits=zXt (l.take (k+1)) (r.v.take (k+1))->∀{nb:Int},nb=(bits.length:Nat)->yJI J w7.heap.size w8.heap.size (some ⟨w5.heap.size,0,none⟩) nb (k:Int) wz:=λ{wz bits} q1 q2 q3 q4 {nb} q5=>by
    refine xXg (sh:=sh) (by have:=hwid f (List.mem_of_getElem? hf);omega) (hW k f v hf hv) q2 q3 q1.bld q1.lt (by omega) λw' hb' hbl=>?_
    rw[zQa (by omega) (by omega)]
    refine hJ _ _ aI ⟨by dsimp only;omega,by rw[q5,q4],?_⟩
    rw[←q4,zWb hf hv]
    exact q1.below c3 c12 c6 rZ hbl hb'
   have hns:=yQG hf hv
   refine⟨_,cl sP 3,Br.of (λd1=>⟨_,cl0 oq,Br.of (λd2=>?_) (λd2=>?_)⟩) (λd1=>?_)⟩
   ·
    rw[if_pos d1,decide_eq_true (zQE d2)]at hns
    generalize hbits:zXt (l.take k) (r.v.take k)=bits at *
    have hm1:bits.length+1<=(l.filter (·.null)).length:=by
     have h1:=zW7 (l.take (k+1)) (r.v.take (k+1))
     have h2:=zZ2 l (k+1)
     rw[hns]at h1;simp only[List.length_append,List.length_singleton]at h1;omega
    obtain⟨q,ρ,hqr,hρ⟩:∃q ρ,bits.length=8 * q+ρ/\ρ<8:=⟨bits.length / 8,bits.length % 8,by omega,by omega⟩
    have hqN:q<zXo l:=by omega
    have e1:((bits.length:Nat):Int).tdiv 8=(q:Int):=by rw[Int.tdiv_eq_ediv_of_nonneg (by omega)];omega
    have e2:((bits.length:Nat):Int).tmod 8=(ρ:Int):=by rw[Int.tmod_eq_emod_of_nonneg (by omega)];omega
    rw[e1,e2,zQa (n:=(q:Int)) (by omega) (by omega),zQa (n:=((bits.length:Nat):Int)+1) (by have:=List.length_filter_le (·.null) l;omega) (by have:=List.length_filter_le (·.null) l;omega)]
    refine zQc λaO dP hh10=>?_
    have z7:zQf w aO l6 (flN (zXo l) bits):=(st.fl.pu o7).pu dP
    have hbl:=xQs hqr hρ
    have hpow:2 ^ ρ<=128:=by
     rcases(by omega:ρ=0∨ρ=1∨ρ=2∨ρ=3∨ρ=4∨ρ=5∨ρ=6∨ρ=7)with rfl|rfl|rfl|rfl|rfl|rfl|rfl|rfl <;> decide
    obtain⟨a6,ha6,hc6⟩:=z7.cell (xKp hqN)
    have ebyte:u8V (UInt8.ofNat (zZs bits q))=.int .u8 ((zZs bits q:Nat):Int):=by
     unfold u8V;congr 2;simp;omega
    rw[ebyte]at hc6
    refine⟨rfl,by omega,a6,ha6,by omega,by omega,_,by rw[zXh,Nat.mul_one];exact hc6,rfl,by omega,by omega,?_⟩
    rw[zXh,zXh,Nat.mul_one,or_bit ρ hρ _ hbl,zJ3]
    have ev:zZD ((zZs bits q+2 ^ ρ:Nat):Int)=UInt8.ofNat (zZs bits q+2 ^ ρ):=by rw[zY6];congr 1;omega
    rw[ev]
    obtain⟨a7,ha7,hst⟩:=z7.1.st1 (j:=q) (by simp[zWV];exact hqN) (u8V (UInt8.ofNat (zZs bits q+2 ^ ρ))) (K:=λbt=>yJI J w7.heap.size w8.heap.size (some ⟨w5.heap.size,0,none⟩) (((bits.length:Nat):Int)+1) (k:Int) bt) λaR rN mX hs11=>by
     rw[←List.map_set,←xJg hqr hρ hqN]at rN
     have hfa:Fr (· ∈ zQe l6) w7 aR:=(Fr.pu (o7.trans dP):Fr (· ∈ zQe l6) w7 aO).trans mX λ_ h _=>h
     refine rest (up hfa c6 (λhc=>?_) (λhc=>?_) (λi hi=>st.fl.2 i hi) ⟨rN,st.fl.2⟩) (mX.blk (dP.blk sP) λhc=>by have:=c6 _ hc;omega) (mX.blk (dP.blk oq) λhc=>by have:=c6 _ hc;have:=cj.size;omega) hns.symm (by simp)
     ·rw[←sN]at hc;simp[zQe]at hc;omega
     ·rw[←sN]at hc;simp[zQe]at hc;omega
    exact⟨a7,ha7,by omega,by omega,hst⟩
   ·rw[if_pos d1,decide_eq_false (zQm d2)]at hns
    rw[zQa (n:=((zXt (l.take k) (r.v.take k)).length:Int)+1) (by have:=zW7 (l.take k) (r.v.take k);have:=zZ2 l k;have:=List.length_filter_le (·.null) l;omega) (by have:=zW7 (l.take k) (r.v.take k);have:=zZ2 l k;have:=List.length_filter_le (·.null) l;omega)]
    refine rest (bits:=zXt (l.take k) (r.v.take k) ++ [false]) (up (B:=λ_=>False) (Fr.pu o7) (λ_ h=>h.elim) (λh=>h) (λh=>h) (λ_ h=>h.elim) ?_) sP oq hns.symm (by simp)
    rw[xQ3];exact st.fl.pu o7
   ·rw[if_neg (by rw[d1];simp),List.append_nil]at hns
    exact rest (up (B:=λ_=>False) (Fr.pu o7) (λ_ h=>h.elim) (λh=>h) (λh=>h) (λ_ h=>h.elim) (st.fl.pu o7)) sP oq hns.symm rfl
  ·have aI:k=l.length:=by have:=zQd d;omega
   subst aI
   rw[List.take_length,List.take_of_length_le (show r.v.length<=l.length by omega)]at *
   have hlt:=st.lt
   have out:zQf w w7 ⟨some ⟨w1.heap.size,0,none⟩,1,1⟩ [yZa r.gone]:=zQf.box (l:=[yZa r.gone]) st.out (by omega) (by simp)
   obtain⟨oV,w8,e8,r8,f8,blk8⟩:=out.app' st.pu.size (m:=l6) (news:=flN (zXo l) (zXt l r.v)) st.fl.len (λj b hj=>st.fl.cell hj) (by simp only[List.length_singleton,zWV];omega)
   have hbld8:=yJU st.bld f8 λi hi hB=>by simp[zQe]at hB;omega
   have z8:=f8.size
   have cj:Pu w w8:=st.pu.andNew f8 λi hi=>out.2 i hi
   obtain⟨g,cap,hbg,hcell,hgl,hcall⟩:=zKy hbld8 hne
   have hg7:g<w7.heap.size:=by
    obtain⟨g',cap',_,hcell',hgl',_⟩:=zKy st.bld hne
    have e1:w8.heap[w5.heap.size]?=w7.heap[w5.heap.size]?:=f8.block _ hlt (by simp[zQe];omega)
    have e2:w8.cell? ⟨w5.heap.size,1,none⟩=w7.cell? ⟨w5.heap.size,1,none⟩:=World.cell?_of_block e1
    rw[e2,hcell']at hcell
    simp only[Option.some.injEq,Value.slice.injEq,Addr.mk.injEq]at hcell
    omega
   refine⟨oV,w8,e8,hcall.mono ?_⟩
   rintro e w9 ⟨rfl,hfg⟩
   have r9:zQf w w9 oV ([yZa r.gone] ++ flN (zXo l) (zXt l r.v)):=r8.fr hfg λb hb e=>by
    have e:b=g:=e
    rcases blk8 b hb with h1|h1
    ·simp[zQe]at h1;omega
    ·omega
   have hbl:Fr (w5.heap.size<=·) w8 w9:=⟨hfg.os,hfg.tape,hfg.output,hfg.size,λi hi hn=>hfg.block i hi (λe=>hn (by have e:i=g:=e;omega))⟩
   have cI:Pu w w9:=cj.andNew hbl λi hi=>Nat.le_trans rZ hi
   obtain⟨q,aO,e10,dI,f10⟩:=r9.str cI.size (zXP sh l r.v) (by simp only[List.length_append,List.length_singleton,zWV];omega)
   exact⟨_,rfl,q,aO,e10,q,rfl,dI,cI.andNew f10 λi hi=>r9.2 i hi⟩
 refine Br.of (λd=>⟨_,rfl,by omega,by omega,?_⟩) (λd=>main aF (ar.blk ay) (by rw[d];exact aN))
 show st1 ((⟨w1.heap.size,0,none⟩:Addr).add 0) _ w2 _
 rw[zQr]
 refine zQt aN (by decide) λw3 sQ br=>main ?_ ?_ (by rw[d];exact br)
 ·exact aF.andNew (B:=(·=w1.heap.size)) (by rw[sQ];exact Fr.cell w2 _ 0 _) λi hi=>by omega
 ·exact(by rw[sQ];exact Fr.cell w2 _ 0 _:Fr (·=w1.heap.size) w2 w3).blk (ar.blk ay) (by omega)
end Go.Proofs.YtaeecpjhfmcliaaGreatDoor
/- Table: the row with its code; the table that each law looks at. No condition. -/
namespace Go.Proofs.YtaeecpjhfmcliaaGreatDoor
open Go.Sh Go.RowKit Tryz
def yQz(f:Fld)(v:Val):List UInt8:=v.s.data.toList ++ List.replicate (f.width.toNat - v.s.size) 32
theorem yJp (f:Fld) (v:Val) (hw:(v.s.size:Int)<=f.width/\f.width<=1000) (w:World):Calls prog 186 #[yQb f,zJA v] w λe w'=>e=.returned (.string (bs (yQz f v)))/\Pu w w':=by
 refine yVB _ _ _ _ _ _ _ w _ ?_
 refine alB λw1 aq ay=>alB λw2 ar aN=>zQc λw3 ax _=>?_
 have bn:=ar.trans ax
 refine⟨λu=>Pu w3 u,Pu.refl _,v.s,λu hu=>cl (hu.blk (ax.blk aN)) 2,f.width,λu hu=>cl (hu.blk (bn.blk ay)) 2,v.s,λu hu=>cl (hu.blk (ax.blk aN)) 2,?_⟩
 rw[zQa (by omega) (by omega)]
 have e1:f.width - ((v.s.size:Nat):Int)=((f.width.toNat - v.s.size:Nat):Int):=by omega
 rw[e1]
 refine(zKJ 32 _ (by omega) w3).mono ?_
 rintro e w4 ⟨rfl,aK⟩
 refine⟨_,rfl,aK,?_,?_,(aq.trans bn).trans aK⟩
 ·have e4:=zQ8 (List.replicate (f.width.toNat - v.s.size) 32);rw[List.length_replicate]at e4;omega
 ·rw[zJ4,zQN];rfl
def zJs(t:Tbl)(k:Int):Int:=if zQh t ≠ 0 then zQh t else if k<1∨(t.recs.length:Int)<k then 4 else 0
def yQq(sh:Fld->Val->List UInt8)(t:Tbl)(k:Int):List UInt8:=if zJs t k=0 then(match t.recs[(k - 1).toNat]? with|some x=>zJK sh t.fields x|none=>[])else []
theorem zY0{l:List Fld}{p:Int}{r:Rec}(h:zQ0 l p r=0):r.v.length=l.length/\zKs l p r.v=true:=by
 by_cases h1:r.v.length=l.length
 ·rw[zJ5 h1]at h
  refine⟨h1,?_⟩
  cases hx:zKs l p r.v
  ·rw[hx]at h;simp at h
  ·rfl
 ·rw[zVc h1]at h;omega
theorem zJj{l:List Fld}{p:Int}:∀{rs:List Rec},zXu l p rs=0->∀x ∈ rs,zQ0 l p x=0
 | [],_,_,hx=>by cases hx
 | a :: rs,h,x,hx=>by
  unfold zXu at h
  by_cases h1:zQ0 l p a ≠ 0
  ·rw[if_pos h1]at h;exact absurd h h1
  ·rw[if_neg h1]at h
   rcases List.mem_cons.1 hx with rfl|hx
   ·simpa using h1
   ·exact zJj h x hx
theorem rowE_c {w:World} {t:Tbl} {f r:SV} {sh:Fld->Val->List UInt8} (h:zXz w t f r) (hl:Lim.ok t.fields) (k:Int) (hk:zZL k) (hW:zQh t=0->∀x ∈ t.recs,yK8 sh t.fields x.v/\zXP sh t.fields x.v ≠ []) :
  Calls prog 144 #[zWR t f r,.int .i64 k] w λe w'=>∃q:SV,e=.returned (.tuple #[.slice q.a q.len q.cap,.int .i64 (zJs t k)])/\zQf w w' q (yQq sh t k)/\Pu w w':=by
 refine yWs _ _ _ _ w _ ?_
 refine alB λw1 aq ay=>⟨_,cl ay 0,_,cl ay 1,_,cl ay 2,(zZy (h.pu aq) hl).mono ?_⟩
 rintro e w2 ⟨rfl,ar⟩
 have dN:=aq.trans ar
 have hrl:=h.recs.len
 have no:∀{c:Int},c ≠ 0->zJs t k=c->∃q:SV,Ending.returned (.tuple #[.slice none 0 0,.int .i64 c])=.returned (.tuple #[.slice q.a q.len q.cap,.int .i64 (zJs t k)])/\zQf w w2 q (yQq sh t k)/\Pu w w2:=λh1 h2=>
  ⟨⟨none,0,0⟩,by rw[h2],by unfold yQq;rw[if_neg (by rw[h2];exact h1)];exact zQf.nil w w2,dN⟩
 refine⟨_,rfl,Br.of (λd=>no (zQ1 d) (by unfold zJs;rw[if_pos (zQ1 d)])) (λd=>Br.of (λd1=>no (c:=4) (by decide) ?_) (λd1=>⟨_,cl (ar.blk ay) 2,Br.of (λd2=>no (c:=4) (by decide) ?_) (λd2=>?_)⟩))⟩
 ·unfold zJs;rw[if_neg (by rw[zQs d];simp),if_pos (.inl (zQk d1))]
 ·unfold zJs;rw[if_neg (by rw[zQs d];simp),if_pos (.inr (by have:=zQk d2;omega))]
 have hv:=zQs d
 have d1:=zQd d1
 have d2:=zQd d2
 obtain⟨hpg,hvf,cK,hfb⟩:=zKR hv
 obtain⟨_,hall,_,ja,_⟩:=zXl hvf
 have hki:(k - 1).toNat<t.recs.length:=by omega
 obtain⟨x,hx⟩:=zQM hki
 have hxm:=List.mem_of_getElem? hx
 obtain⟨hxl,_⟩:=zY0 (zJj hfb x hxm)
 have hc:zJs t k=0:=by unfold zJs;rw[if_neg (by rw[hv];simp),if_neg (by omega)]
 refine zQc λw3 ax _=>?_
 have bn:=ar.trans ax
 have aV:=aq.trans bn
 rw[zQa (by omega) (by have:=h.recs.lim;omega)]
 obtain⟨a,q,ha,hi,hq,c0,c1⟩:=zWi (h.recs.pu aV) hx
 refine⟨_,cl (bn.blk ay) 1,_,cl (bn.blk ay) 2,a,ha,by omega,by omega,_,c0,_,c1,(row_c (sh:=sh) (h.fields.pu aV) hq hxl ja (WOk.of hall) (hW hv x hxm).1 (hW hv x hxm).2).mono ?_⟩
 rintro e w4 ⟨o,rfl,ho,aK⟩
 refine⟨o,rfl,o,by rw[hc],?_,aV.trans aK⟩
 unfold yQq;rw[if_pos hc,hx];exact ho.low aV.size
theorem xZR{w0 w:World}{s:SV}{l:List UInt8}(h:zQf w0 w s l):(convert 22 9 (.slice s.a s.len s.cap)).run prog w=.ok (.string (bs l)) w:=by
 obtain⟨⟨hl,ho⟩,_⟩:=h
 rcases ho with rfl|⟨g,cur,h3,h4,h5,h6,h7,h8⟩
 ·have:l=[]:=by simpa using hl
  subst this
  exact Lib.run_convert_nil_bytes w 22 9 5 0 u37 u5 u9
 ·have hsl:s.len=(bs l).size:=by rw[zQ8];simp at hl;omega
  rw[h3,hsl]
  refine Lib.run_convert_whole w 22 5 9 u37 u5 u9 g 0 (bs l) (λi hi=>?_) s.cap
  rw[Nat.zero_add,zQF h4]
  have hi':i<l.length:=by rw[zQ8]at hi;exact hi
  have h1:(cur.toList.take (s.len * 1))[i]?=some (u8V (l[i])):=by rw[h8];simp[hi']
  rw[List.getElem?_take]at h1
  split at h1
  ·have h2:cur[i]?=some (u8V l[i]):=by simpa using h1
   rw[h2];rfl
  ·cases h1
end Go.Proofs.YtaeecpjhfmcliaaGreatDoor
/- Table: lengths and offsets; how large a table is; the law on which tables there are. No condition. -/
namespace Go.Proofs.YtaeecpjhfmcliaaGreatDoor
open Go.Sh Go.RowKit Tryz
theorem zVi{w:World}{s:SV}{l:List Val}(h:zX6 w s l):Calls prog 58 #[.slice s.a s.len s.cap] w λe w'=>∃n:Int,e=.returned (.int .i64 n)/\Pu w w':=by
 refine yYY _ w _ ?_
 have hlen:=h.len
 have hlim:=h.lim
 refine zQw l.length (λk t w'=>t.2=(k:Int)/\Pu w w') ⟨rfl,Pu.refl _⟩ ?_
 rintro k J ⟨t1,t2⟩ w2 hk ⟨ht,hp⟩ hJ
 obtain rfl:t2=(k:Int):=ht
 dsimp only
 refine Br.of (λd=>?_) (λd=>⟨_,rfl,hp⟩)
 have aI:k<l.length:=by have:=zQk d;omega
 obtain⟨v,hv⟩:=zQM aI
 obtain⟨a,ha,hi,_,_,c0,c1,c2⟩:=yVs (h.pu hp) hv
 refine⟨a,ha,by omega,by omega,_,c2,?_⟩
 rw[zQa (n:=(k:Int)+1) (by omega) (by omega)]
 exact hJ _ _ aI ⟨by dsimp only;omega,hp⟩
theorem xZL{w:World}{t:Tbl}{f r:SV}(h:zXz w t f r):Calls prog 57 #[zWR t f r] w λe w'=>∃n:Int,e=.returned (.int .i64 n)/\Pu w w':=by
 refine yYo _ _ _ w _ (alB λw1 aq ay=>⟨_,cl ay 1,?_⟩)
 have hfl:=h.fields.len
 have hfm:=h.fields.lim
 have hrl:=h.recs.len
 have hrm:=h.recs.lim
 refine zQw t.fields.length (λk u w'=>u.2=(k:Int)/\Pu w1 w') ⟨rfl,Pu.refl _⟩ ?_
 rintro k J ⟨u1,u2⟩ w2 hk ⟨hu,hp⟩ hJ
 obtain rfl:u2=(k:Int):=hu
 dsimp only
 refine⟨_,cl (hp.blk ay) 1,Br.of (λd=>?_) (λd=>?_)⟩
 ·have aI:k<t.fields.length:=by have:=zQk d;omega
  obtain⟨x,hx⟩:=zQM aI
  obtain⟨a,ha,hi,_,_,c,_⟩:=zJd (h.fields.pu (aq.trans hp)) hx
  refine⟨_,cl (hp.blk ay) 1,a,ha,by omega,by omega,_,c,?_⟩
  rw[zQa (n:=(k:Int)+1) (by omega) (by omega)]
  exact hJ _ _ aI ⟨by dsimp only;omega,hp⟩
 clear hJ J
 refine zQw t.recs.length (λk u w'=>u.2=(k:Int)/\Pu w1 w') ⟨rfl,hp⟩ ?_
 rintro k J ⟨u1,u2⟩ w2 hk ⟨hu,hp⟩ hJ
 obtain rfl:u2=(k:Int):=hu
 dsimp only
 refine⟨_,cl (hp.blk ay) 2,Br.of (λd=>?_) (λd=>⟨_,rfl,aq.trans hp⟩)⟩
 have aI:k<t.recs.length:=by have:=zQk d;omega
 obtain⟨x,hx⟩:=zQM aI
 obtain⟨a,q,ha,hi,hq,c0,c1⟩:=zWi (h.recs.pu (aq.trans hp)) hx
 refine⟨_,cl (hp.blk ay) 2,a,ha,by omega,by omega,_,c1,(zVi hq).mono ?_⟩
 rintro e w3 ⟨n,rfl,ax⟩
 refine⟨n,rfl,?_⟩
 rw[zQa (n:=(k:Int)+1) (by omega) (by omega)]
 exact hJ _ _ aI ⟨by dsimp only;omega,hp.trans ax⟩
theorem u55:prog.underlying 52=some (.slice 3):=by kernel_rfl
theorem info3:(prog.info? 3).map (λi=>(i.zero,i.size,i.bytes))=some (some (.int .i64 0),1,8):=by kernel_rfl
def zKm(w0 w:World)(s:SV)(l:List Int):Prop:=zQl w 3 1 s (l.map yWS)/\∀b ∈ zQe s,w0.heap.size<=b
theorem zKm.len{w0 w:World}{s:SV}{l:List Int}(h:zKm w0 w s l):s.len=l.length:=by have:=h.1.1;simp at this;omega
theorem zKm.pu{w0 w w':World}{s:SV}{l:List Int}(h:zKm w0 w s l)(hp:Pu w w'):zKm w0 w' s l:=⟨h.1.pu hp,h.2⟩
theorem zKm.nil(w0 w:World):zKm w0 w ⟨none,0,0⟩ []:=⟨zQl.nil w 3 1,by simp[zQe]⟩
theorem zKm.low{w0 w1 w:World}{s:SV}{l:List Int}(h:zKm w1 w s l)(hz:w0.heap.size<=w1.heap.size):zKm w0 w s l:=⟨h.1,λb hb=>Nat.le_trans hz (h.2 b hb)⟩
theorem zKm.push {w0 w:World} {s:SV} {l:List Int} (h:zKm w0 w s l) (hz:w0.heap.size<=w.heap.size) {r:Nat} {n:Int} (hr:w.heap[r]?=some (.cells #[.int .i64 n] 3)) (hb:l.length<=1000000) :
  ∃(s':SV) (w':World),(Builtin.append_ #[52,52] 52 #[.slice s.a s.len s.cap,.slice (some ⟨r,0,none⟩) 1 1]).run prog w=.ok (.slice s'.a s'.len s'.cap) w'/\zKm w0 w' s' (l ++ [n])/\Fr (· ∈ zQe s) w w':=by
 have h1:=h.len
 obtain⟨s',w',hra,hrow,hf,hblk,_⟩:=xZD (P:=prog) (ty:=52) u55 info3 rfl h.1 (a:=⟨r,0,none⟩) (u:=.int .i64 n) (by rw[zQF hr];rfl) rfl (by omega)
 refine⟨s',w',hra,⟨by simpa using hrow,λb hb=>?_⟩,hf⟩
 rcases hblk b hb with h2|h2
 ·exact h.2 b h2
 ·omega
theorem xXd{w:World}{s:SV}{l:List Fld}(h:zX6 w s l)(hl:Lim.ok l):Calls prog 128 #[.slice s.a s.len s.cap] w λe w'=>e=.returned (.tuple #[.int .i64 (if zQT l=0 then zXK l else 0),.int .i64 (zQT l)])/\Pu w w':=by
 refine yVj _ w _ ((zZJ h hl).mono ?_)
 rintro e w1 ⟨rfl,aq⟩
 refine⟨_,rfl,Br.of (λd=>⟨by rw[if_neg (zQ1 d)],aq⟩) (λd=>(zVS (h.pu aq) (WOk.of (zXl (zQs d)).2.1)).mono ?_)⟩
 rintro e w2 ⟨rfl,ar⟩
 exact⟨_,rfl,by rw[zQs d];rfl,aq.trans ar⟩
end Go.Proofs.YtaeecpjhfmcliaaGreatDoor
/- Table: the law on what a value becomes in a field. No condition. -/
namespace Go.Proofs.YtaeecpjhfmcliaaGreatDoor
open Go.Sh Go.RowKit Tryz
theorem zKT{α:Type}(p:α->Bool):∀l:List α,(l.dropWhile p).dropWhile p=l.dropWhile p
 | []=>rfl
 | a :: l=>by
  by_cases h:p a=true
  ·rw[List.dropWhile_cons,if_pos h];exact zKT p l
  ·rw[List.dropWhile_cons,if_neg h,List.dropWhile_cons,if_neg h]
theorem xXB(l:List UInt8):zZw (zZw l)=zZw l:=by
 unfold zZw;rw[List.reverse_reverse,zKT]
theorem yJf(a b:Val)(w:World):Calls prog 140 #[zJA a,zJA b] w λe w'=>e=.returned (.bool (decide (a=b)))/\Pu w w':=by
 refine yWe _ _ _ _ _ _ w _ ?_
 refine alB λw1 aq ay=>alB λw2 ar aN=>?_
 have hp:=aq.trans ar
 have q1:=ar.blk ay
 refine⟨_,cl0 q1,_,cl0 aN,Br.of (λd=>⟨_,cl q1 1,_,cl aN 1,Br.of (λd1=>⟨_,cl q1 2,_,cl aN 2,?_,hp⟩) (λd1=>⟨?_,hp⟩)⟩) (λd=>⟨?_,hp⟩)⟩
 ·rw[zX7]
  congr 2
  have e1:a.kind=b.kind:=zQE d
  have e2:a.n=b.n:=zQE d1
  refine zZC ⟨λe3=>?_,λe=>by rw[e]⟩
  obtain⟨a1,a2,a3⟩:=a;obtain⟨b1,b2,b3⟩:=b
  simp only at e1 e2 e3
  subst e1 e2 e3;rfl
 ·rw[decide_eq_false (λe=>zQm d1 (by rw[e]))]
 ·rw[decide_eq_false (λe=>zQm d (by rw[e]))]
end Go.Proofs.YtaeecpjhfmcliaaGreatDoor
/- Table: records of empty values, places of names; the law on them. No condition. -/
namespace Go.Proofs.YtaeecpjhfmcliaaGreatDoor
open Go.Sh Go.RowKit Tryz
theorem u44:prog.underlying 38=some (.slice 73):=by kernel_rfl
theorem info25:(prog.info? 73).map (λi=>(i.zero,i.size,i.bytes))=some (some (.agg #[.int .i64 0,.int .i64 0,.string ⟨#[]⟩]),3,32):=by kernel_rfl
theorem s46:zX9 prog 67=2:=by kernel_rfl
theorem zXA(v:Val):(zVA v).length=3:=rfl
def zJF(w0 w:World)(s:SV)(l:List Val):Prop:=zQl w 73 3 s (l.flatMap zVA)/\∀b ∈ zQe s,w0.heap.size<=b
theorem zJF.len{w0 w:World}{s:SV}{l:List Val}(h:zJF w0 w s l):s.len=l.length:=h.1.len zXA (by decide)
theorem zJF.pu{w0 w w':World}{s:SV}{l:List Val}(h:zJF w0 w s l)(hp:Pu w w'):zJF w0 w' s l:=⟨h.1.pu hp,h.2⟩
theorem zJF.fr{B:Nat->Prop}{w0 w w':World}{s:SV}{l:List Val}(h:zJF w0 w s l)(hf:Fr B w w')(hn:∀k ∈ zQe s,¬B k):zJF w0 w' s l:=⟨h.1.fr hf hn,h.2⟩
theorem zJF.nil(w0 w:World):zJF w0 w ⟨none,0,0⟩ []:=⟨zQl.nil w 73 3,by simp[zQe]⟩
theorem zJF.low{w0 w1 w:World}{s:SV}{l:List Val}(h:zJF w1 w s l)(hz:w0.heap.size<=w1.heap.size):zJF w0 w s l:=⟨h.1,λb hb=>Nat.le_trans hz (h.2 b hb)⟩
theorem zJF.push {w0 w:World} {s:SV} {l:List Val} (h:zJF w0 w s l) (hz:w0.heap.size<=w.heap.size) {r:Nat} {v:Val} {c:Array Value} (hr:w.heap[r]?=some (.cells c 73)) (hc:c=#[.int .i64 v.kind,.int .i64 v.n,.string v.s]) (hb:l.length<=1000000) :
  ∃(s':SV) (w':World),(Builtin.append_ #[38,38] 38 #[.slice s.a s.len s.cap,.slice (some ⟨r,0,none⟩) 1 1]).run prog w=.ok (.slice s'.a s'.len s'.cap) w'/\zJF w0 w' s' (l ++ [v])/\Fr (· ∈ zQe s) w w':=by
 subst hc
 have h1:=h.len
 obtain⟨s',w',hra,hrow,hf,hblk,_⟩:=zQy (P:=prog) (ty:=38) u44 info25 rfl (by decide) h.1 (A:=some ⟨r,0,none⟩) (m:=1) (c:=1) (news:=zVA v) rfl (λj u hu=>⟨_,rfl,by rw[cl hr];simpa using hu⟩) (λu hu=>by simp[zVA]at hu;rcases hu with rfl|rfl|rfl <;> rfl) (by omega)
 refine⟨s',w',hra,⟨by simpa using hrow,λb hb=>?_⟩,hf⟩
 rcases hblk b hb with h2|h2
 ·exact h.2 b h2
 ·omega
structure RdV(w:World)(s:SV)(l:List Val):Prop where
 len:s.len=l.length
 lim:l.length<=140737488355328
 get:∀i v,l[i]?=some v->∃a,s.a=some a/\w.cell? ((a.add (i * 3)).add 0)=some (.int .i64 v.kind)/\w.cell? ((a.add (i * 3)).add 1)=some (.int .i64 v.n)/\w.cell? ((a.add (i * 3)).add 2)=some (.string v.s)
theorem RdV.pu{w w':World}{s:SV}{l:List Val}(h:RdV w s l)(hp:Pu w w'):RdV w' s l:=⟨h.len,h.lim,λi v hv=>by
 obtain⟨a,h1,h2,h3,h4⟩:=h.get i v hv
 exact⟨a,h1,hp.cell h2,hp.cell h3,hp.cell h4⟩⟩
theorem RdV.of{w:World}{s:SV}{l:List Val}(h:zX6 w s l):RdV w s l:=⟨h.len,by have:=h.lim;have:=h.len;omega,λi v hv=>by
 obtain⟨a,h1,_,_,_,h2,h3,h4⟩:=yVs h hv
 exact⟨a,h1,h2,h3,h4⟩⟩
theorem zJF.rd{w0 w:World}{s:SV}{l:List Val}(h:zJF w0 w s l)(hb:l.length<=140737488355328):RdV w s l:=⟨h.len,hb,λi v hv=>by
 obtain⟨a,h1,_,h2⟩:=h.1.elem zXA hv (o:=0) rfl
 obtain⟨a',pT,_,h3⟩:=h.1.elem zXA hv (o:=1) rfl
 obtain⟨a'',h1'',_,h4⟩:=h.1.elem zXA hv (o:=2) rfl
 rw[h1]at pT h1'';cases pT;cases h1''
 exact⟨a,h1,h2,h3,h4⟩⟩
theorem zJ6 {α:Type} {a b:List α} {k:Nat} (h:a.take k=b.take k) {x y:α} (hx:a[k]?=some x) (hy:b[k]?=some y) (e:x=y):a.take (k+1)=b.take (k+1):=by
 rw[zQB hx,zQB hy,h,e]
theorem yZz{w:World}{s t:SV}{a b:List Val}(ha:RdV w s a)(hb:RdV w t b):Calls prog 105 #[.slice s.a s.len s.cap,.slice t.a t.len t.cap] w λe w'=>e=.returned (.bool (decide (a=b)))/\Pu w w':=by
 refine yVJ _ _ w _ ?_
 have hla:=ha.len
 have hlb:=hb.len
 have hlim:=ha.lim
 refine Br.of (λd=>⟨by rw[decide_eq_false (λe=>zQ1 d (by rw[hla,hlb,e]))],Pu.refl _⟩) (λd=>?_)
 have hab:a.length=b.length:=by have:=zQs d;omega
 refine zQw a.length (λk t w'=>t=(k:Int)/\a.take k=b.take k/\Pu w w') ⟨rfl,by simp,Pu.refl _⟩ ?_
 rintro k J t w2 hk ⟨ht,he,hp⟩ hJ
 obtain rfl:t=(k:Int):=ht
 refine Br.of (λd1=>zQc λw3 ax _=>?_) (λd1=>?_)
 ·have aI:k<a.length:=by have:=zQk d1;omega
  obtain⟨x,hx⟩:=zQM aI
  obtain⟨y,hy⟩:=zQM (show k<b.length by omega)
  obtain⟨p,hpa,c0,c1,c2⟩:=((ha.pu hp).pu ax).get k x hx
  obtain⟨q,hqa,e0,e1,e2⟩:=((hb.pu hp).pu ax).get k y hy
  refine⟨p,hpa,by omega,by omega,_,c0,_,c1,_,c2,q,hqa,by omega,by omega,_,e0,_,e1,_,e2,(yJf x y w3).mono ?_⟩
  rintro e w4 ⟨rfl,aK⟩
  refine⟨_,rfl,Br.of (λd2=>⟨?_,(hp.trans ax).trans aK⟩) (λd2=>?_)⟩
  ·rw[decide_eq_false]
   intro e
   subst e
   rw[hx]at hy
   cases hy
   simp at d2
  ·rw[zQa (by omega) (by omega)]
   exact hJ _ _ aI ⟨by omega,zJ6 he hx hy (by simpa using d2),(hp.trans ax).trans aK⟩
 ·have aI:k=a.length:=by have:=zQd d1;omega
  subst aI
  rw[List.take_length,hab,List.take_length]at he
  exact⟨by rw[decide_eq_true he],hp⟩
theorem yZS{w:World}{s t:SV}{x y:Bool}{a b:List Val}(ha:RdV w s a)(hb:RdV w t b):Calls prog 70 #[.agg #[.bool x,.slice s.a s.len s.cap],.agg #[.bool y,.slice t.a t.len t.cap]] w λe w'=>e=.returned (.bool (decide (x=y) && decide (a=b)))/\Pu w w':=by
 refine xXC _ _ _ _ w _ (alB λw1 aq ay=>alB λw2 ar aN=>?_)
 have hp:=aq.trans ar
 have q1:=ar.blk ay
 refine⟨_,cl0 q1,_,cl0 aN,Br.of (λd=>⟨_,cl q1 1,_,cl aN 1,(yZz (ha.pu hp) (hb.pu hp)).mono ?_⟩) (λd=>⟨?_,hp⟩)⟩
 ·rintro e w3 ⟨rfl,ax⟩
  exact⟨_,rfl,by rw[decide_eq_true (p:=x=y) (by simpa using d)];rfl,hp.trans ax⟩
 ·rw[decide_eq_false (p:=x=y) (by simpa using d)];rfl
theorem yYX(n:Int)(w:World):Calls prog 45 #[.int .i64 n] w λe w'=>e=.returned (zJA ⟨2,n,⟨#[]⟩⟩)/\Pu w w':=by
 refine xQJ _ w _ (yQk rfl s25.symm rfl λw1 aq _ ay=>?_)
 exact⟨_,cl ay 0,_,cl ay 1,_,cl ay 2,rfl,aq⟩
def zJi(l:List Fld):List Val:=if zQT l=0 then l.map zXp else []
theorem xQa {α β:Type} (g:α->β) {l:List α} {k:Nat} {x:α} (h:l[k]?=some x):(l.take (k+1)).map g=(l.take k).map g ++ [g x]:=by
 rw[zQB h,List.map_append];rfl
theorem xY6{w:World}{s:SV}{l:List Fld}(h:zX6 w s l)(hl:Lim.ok l):Calls prog 164 #[.slice s.a s.len s.cap] w λe w'=>∃q:SV,e=.returned (.tuple #[.agg #[.bool false,.slice q.a q.len q.cap],.int .i64 (zQT l)])/\zJF w w' q (zJi l)/\Pu w w':=by
 refine yVd _ w _ (alB λw1 aq ay=>(zZJ (h.pu aq) hl).mono ?_)
 rintro e w2 ⟨rfl,ar⟩
 have aN:=ar.blk ay
 refine⟨_,rfl,Br.of (λd=>zQi aN s46.symm rfl rfl λw3 br fU qF=>⟨_,cl br 0,⟨none,0,0⟩,cl br 1,⟨none,0,0⟩,rfl,by unfold zJi;rw[if_neg (zQ1 d)];exact zJF.nil w w3,(aq.trans ar).andNew fU λi hi=>by omega⟩) (λd=>alB λw3 ax br=>?_)⟩
 have hv:=zQs d
 have ja:=(zXl hv).2.2.2.1
 have hlen:=h.len
 have aV:=(aq.trans ar).trans ax
 have z1:=aq.size
 have z2:=ar.size
 have z3:=ax.size
 have lt2:w2.heap.size<w3.heap.size:=zQx br
 have ng:w.heap.size<w1.heap.size:=zQx ay
 refine zQw l.length (λk t w'=>t=(k:Int)/\∃q:SV,w'.heap[w.heap.size]?=some (.cells #[.bool false,.slice none 0 0] 67)/\w'.heap[w2.heap.size]?=some (.cells #[.bool false,.slice q.a q.len q.cap] 67)/\zJF w3 w' q ((l.take k).map zXp)/\w3.heap.size<=w'.heap.size/\Pu w w') ⟨rfl,⟨none,0,0⟩,ax.blk aN,br,zJF.nil w3 w3,Nat.le_refl _,aV⟩ ?_
 rintro k J t w4 hk ⟨ht,q,a1,a2,a3,a4,hp⟩ hJ
 obtain rfl:t=(k:Int):=ht
 have htl:=List.length_take_le k l
 refine Br.of (λd1=>?_) (λd1=>?_)
 ·have aI:k<l.length:=by have:=zQk d1;omega
  obtain⟨f,hf⟩:=zQM aI
  obtain⟨a,ha,hi,_,_,_,c0,c1,c2,c3⟩:=zJd (h.pu hp) hf
  refine⟨a,ha,by omega,by omega,_,c0,_,c1,_,c2,_,c3,yQk rfl s23.symm rfl λw5 aU oo bu=>zQc λw6 bC _=>?_⟩
  have b6:=(aU.trans bC).blk a2
  refine⟨λu=>Pu w6 u,Pu.refl _,q,λu hu=>cl (hu.blk b6) 1,f.name,λu hu=>cl (hu.blk (bC.blk bu)) 0,f.kind,λu hu=>cl (hu.blk (bC.blk bu)) 1,f.width,λu hu=>cl (hu.blk (bC.blk bu)) 2,f.null,λu hu=>cl (hu.blk (bC.blk bu)) 3,(yYE f w6).mono ?_⟩
  rintro e w7 ⟨rfl,cH⟩
  refine⟨_,_,_,rfl,cH,alB λw8 cj j1=>⟨cH.trans cj,?_⟩⟩
  have o8:=(((aU.trans bC).trans cH).trans cj)
  have z48:=o8.size
  obtain⟨q',w9,e9,r9,f9⟩:=(a3.pu o8).push (by omega) j1 rfl (by rw[List.length_map];omega)
  have n2:¬w2.heap.size ∈ zQe q:=λhc=>by have:=a3.2 _ hc;omega
  have n1:¬w.heap.size ∈ zQe q:=λhc=>by have:=a3.2 _ hc;omega
  have oq:=f9.blk (o8.blk a2) n2
  have hb9':=f9.blk (o8.blk a1) n1
  refine⟨q',w9,e9,zQt (o:=1) oq (by simp) λwx ex hbx=>?_⟩
  have fx:Fr (·=w2.heap.size) w9 wx:=by rw[ex];exact Fr.cell w9 _ _ _
  have zx:wx.heap.size=w9.heap.size:=by rw[ex];simp
  have z9:=f9.size
  rw[zQa (by omega) (by omega)]
  refine hJ _ _ aI ⟨by omega,q',fx.blk hb9' (by omega),hbx,by rw[xQa _ hf];exact r9.fr fx λi hi=>by have:=r9.2 i hi;omega,by omega,?_⟩
  have p9:Pu w w9:=(hp.trans o8).andNew f9 λi hi=>by have:=a3.2 i hi;omega
  exact p9.andNew fx λi hi=>by omega
 ·have aI:k=l.length:=by have:=zQd d1;omega
  subst aI
  rw[List.take_length]at a3
  refine⟨_,cl a2 0,q,cl a2 1,zQi a1 s46.symm rfl rfl λw5 bu cL oo=>⟨_,cl bu 0,q,cl bu 1,q,by rw[hv],?_,hp.andNew cL λi hi=>by omega⟩⟩
  unfold zJi;rw[if_pos hv]
  exact(a3.fr cL λi hi=>by have:=a3.2 i hi;omega).low (by omega)
def yQj(l:List Fld)(s:ByteArray):Option Nat:=l.findIdx? λf=>decide (f.name=s)
def xJs(l:List Fld)(s:ByteArray):Int:=((yQj l s).getD 0:Nat)
theorem xYF{w:World}{s:SV}{l:List Fld}(h:zX6 w s l)(nm:ByteArray):Calls prog 82 #[.slice s.a s.len s.cap,.string nm] w λe w'=>e=.returned (.tuple #[.int .i64 (xJs l nm),.bool (yQj l nm).isSome])/\Pu w w':=by
 refine xQ5 _ _ w _ (alB λw1 aq ay=>?_)
 have tells:yK3 l 114 #[.pointer (some ⟨w.heap.size,0,none⟩)] (λf=>decide (f.name=nm)) w1:=⟨by kernel_rfl,λf hf w2 ar=>by
  refine yWG _ _ _ _ _ w2 _ (alB λw3 ax br=>⟨_,cl0 br,_,cl0 ((ar.trans ax).blk ay),?_,ax⟩)
  rw[zX7]⟩
 refine(zYm (h.pu aq) tells).mono ?_
 rintro e w2 ⟨rfl,ar⟩
 refine⟨_,rfl,_,w2,yJF _ _ _ _ _ _,?_,aq.trans ar⟩
 unfold xJs yQj
 cases l.findIdx? λf=>decide (f.name=nm)with
 | none=>rfl
 | some k=>
  dsimp only
  rw[Int.max_eq_left (by omega),decide_eq_true (by omega)];rfl
theorem xJc{w:World}{s:SV}{l:List Fld}(h:zX6 w s l)(nm:ByteArray):Calls prog 103 #[.slice s.a s.len s.cap,.string nm] w λe w'=>e=.returned (.tuple #[.int .i64 (xJs l nm),.bool (yQj l nm).isSome])/\Pu w w':=by
 refine yW9 _ _ w _ ?_
 have hlen:=h.len
 have hlim:=h.lim
 refine zQw l.length (λk t w'=>t=(k:Int)/\(∀f ∈ l.take k,decide (f.name=nm)=false)/\Pu w w') ⟨rfl,by simp,Pu.refl _⟩ ?_
 rintro k J t w2 hk ⟨ht,hno,hp⟩ hJ
 obtain rfl:t=(k:Int):=ht
 refine Br.of (λd=>?_) (λd=>?_)
 ·have aI:k<l.length:=by have:=zQk d;omega
  obtain⟨f,hf⟩:=zQM aI
  obtain⟨a,ha,hi,_,_,c,_⟩:=zJd (h.pu hp) hf
  refine⟨a,ha,by omega,by omega,_,c,?_⟩
  rw[zX7]
  refine Br.of (λd1=>?_) (λd1=>?_)
  ·have:yQj l nm=some k:=zV0 hno hf d1
   refine⟨?_,hp⟩
   unfold xJs;rw[this];rfl
  ·rw[zQa (by omega) (by omega)]
   refine hJ _ _ aI ⟨by omega,λf' hf'=>?_,hp⟩
   rw[zQB hf,List.mem_append,List.mem_singleton]at hf'
   rcases hf' with hf'|rfl
   ·exact hno f' hf'
   ·exact d1
 ·have aI:k=l.length:=by have:=zQd d;omega
  subst aI
  rw[List.take_length]at hno
  have:yQj l nm=none:=by unfold yQj;rw[List.findIdx?_eq_none_iff];exact λx hx=>by rw[hno x hx]
  refine⟨?_,hp⟩
  unfold xJs;rw[this];rfl
end Go.Proofs.YtaeecpjhfmcliaaGreatDoor
/- Table: in which records two tables differ; the law on it. No condition. -/
namespace Go.Proofs.YtaeecpjhfmcliaaGreatDoor
open Go.Sh Go.RowKit Tryz
theorem xZT:zYA prog 129 [.str,.int .i64,.int .i64,.bool]=true:=by kernel_rfl
theorem xYV:prog.eqGuardType prog.depth 129=false:=by kernel_rfl
theorem xQR:zYA prog 73 [.int .i64,.int .i64,.str]=true:=by kernel_rfl
theorem under4:prog.underlying 4=some .bool:=by kernel_rfl
theorem xJb{a b:Fld}(h:zVT a=zVT b):a=b:=by
 obtain⟨a1,a2,a3,a4⟩:=a;obtain⟨b1,b2,b3,b4⟩:=b
 simp[zVT]at h;simp[h]
theorem neFld(x y:Operand)(a b:Fld)(w:World):(eqS .neq 129 x y (yQb a) (yQb b)).run prog w=.ok (.bool (!decide (a=b))) w:=by
 refine yKq (ks:=[.str,.int .i64,.int .i64,.bool]) (xs:=zVT a) (ys:=zVT b) xZT xYV rfl rfl ?_ w
 rw[decide_eq_true_iff]
 exact⟨λh=>by rw[h],xJb⟩
theorem neVal(x y:Operand)(a b:Val)(w:World):(eqS .neq 73 x y (zJA a) (zJA b)).run prog w=.ok (.bool (!decide (a=b))) w:=by
 refine yKq (ks:=[.int .i64,.int .i64,.str]) (xs:=zVA a) (ys:=zVA b) xQR xXE rfl rfl ?_ w
 rw[decide_eq_true_iff]
 exact⟨λh=>by rw[h],yKn⟩
structure RdF(w:World)(s:SV)(l:List Fld):Prop where
 len:s.len=l.length
 lim:l.length<=140737488355328
 get:∀i f,l[i]?=some f->∃a,s.a=some a/\w.cell? ((a.add (i * 4)).add 0)=some (.string f.name)/\w.cell? ((a.add (i * 4)).add 1)=some (.int .i64 f.kind)/\w.cell? ((a.add (i * 4)).add 2)=some (.int .i64 f.width)/\w.cell? ((a.add (i * 4)).add 3)=some (.bool f.null)
theorem RdF.pu{w w':World}{s:SV}{l:List Fld}(h:RdF w s l)(hp:Pu w w'):RdF w' s l:=⟨h.len,h.lim,λi v hv=>by
 obtain⟨a,h1,h2,h3,h4,h5⟩:=h.get i v hv
 exact⟨a,h1,hp.cell h2,hp.cell h3,hp.cell h4,hp.cell h5⟩⟩
theorem RdF.of{w:World}{s:SV}{l:List Fld}(h:zX6 w s l):RdF w s l:=⟨h.len,by have:=h.lim;have:=h.len;omega,λi v hv=>by
 obtain⟨a,h1,_,_,_,_,h2,h3,h4,h5⟩:=zJd h hv
 exact⟨a,h1,h2,h3,h4,h5⟩⟩
theorem yXk {α:Type} {a b:List α} {k:Nat} {x y:α} (hx:a[k]?=some x) (hy:b[k]?=some y) (h:x ≠ y):a ≠ b:=λe=>by
 subst e;rw[hx]at hy;cases hy;exact h rfl
theorem xZ0{w:World}{s t:SV}{a b:List Fld}(ha:RdF w s a)(hb:RdF w t b):Calls prog 107 #[.slice s.a s.len s.cap,.slice t.a t.len t.cap] w λe w'=>e=.returned (.bool (decide (a=b)))/\Pu w w':=by
 refine yWI _ _ w _ ?_
 have hla:=ha.len
 have hlb:=hb.len
 have hlim:=ha.lim
 refine Br.of (λd=>⟨by rw[decide_eq_false (λe=>zQ1 d (by rw[hla,hlb,e]))],Pu.refl _⟩) (λd=>?_)
 have hab:a.length=b.length:=by have:=zQs d;omega
 refine zQw a.length (λk t w'=>t=(k:Int)/\a.take k=b.take k/\Pu w w') ⟨rfl,by simp,Pu.refl _⟩ ?_
 rintro k J t w2 hk ⟨ht,he,hp⟩ hJ
 obtain rfl:t=(k:Int):=ht
 refine Br.of (λd1=>zQc λw3 ax _=>?_) (λd1=>?_)
 ·have aI:k<a.length:=by have:=zQk d1;omega
  obtain⟨x,hx⟩:=zQM aI
  obtain⟨y,hy⟩:=zQM (show k<b.length by omega)
  obtain⟨p,hpa,c0,c1,c2,c3⟩:=((ha.pu hp).pu ax).get k x hx
  obtain⟨q,hqa,e0,e1,e2,e3⟩:=((hb.pu hp).pu ax).get k y hy
  refine⟨p,hpa,by omega,by omega,_,c0,_,c1,_,c2,_,c3,q,hqa,by omega,by omega,_,e0,_,e1,_,e2,_,e3,_,λw=>neFld _ _ x y w,Br.of (λd2=>⟨?_,hp.trans ax⟩) (λd2=>?_)⟩
  ·rw[decide_eq_false (yXk hx hy (by simpa using d2))]
  ·rw[zQa (by omega) (by omega)]
   exact hJ _ _ aI ⟨by omega,zJ6 he hx hy (by simpa using d2),hp.trans ax⟩
 ·have aI:k=a.length:=by have:=zQd d1;omega
  subst aI
  rw[List.take_length,hab,List.take_length]at he
  exact⟨by rw[decide_eq_true he],hp⟩
theorem yZK{w:World}{s t:SV}{a b:List Fld}(ha:RdF w s a)(hb:RdF w t b):Calls prog 69 #[.slice s.a s.len s.cap,.slice t.a t.len t.cap] w λe w'=>e=.returned (.bool (decide (a=b)))/\Pu w w':=by
 refine xXM _ _ w _ ?_
 have hla:=ha.len
 have hlb:=hb.len
 have hlim:=ha.lim
 refine Br.of (λd=>⟨by rw[decide_eq_false (λe=>zQ1 d (by rw[hla,hlb,e]))],Pu.refl _⟩) (λd=>?_)
 have hab:a.length=b.length:=by have:=zQs d;omega
 refine zQw a.length (λk t w'=>t=(k:Int)/\a.take k=b.take k/\Pu w w') ⟨rfl,by simp,Pu.refl _⟩ ?_
 rintro k J t w2 hk ⟨ht,he,hp⟩ hJ
 obtain rfl:t=(k:Int):=ht
 refine Br.of (λd1=>zQc λw3 ax _=>?_) (λd1=>?_)
 ·have aI:k<a.length:=by have:=zQk d1;omega
  obtain⟨x,hx⟩:=zQM aI
  obtain⟨y,hy⟩:=zQM (show k<b.length by omega)
  obtain⟨p,hpa,c0,c1,c2,c3⟩:=((ha.pu hp).pu ax).get k x hx
  obtain⟨q,hqa,e0,e1,e2,e3⟩:=((hb.pu hp).pu ax).get k y hy
  refine⟨p,hpa,by omega,by omega,_,c0,_,c1,_,c2,_,c3,q,hqa,by omega,by omega,_,e0,_,e1,_,e2,_,e3,_,λw=>neFld _ _ x y w,Br.of (λd2=>⟨?_,hp.trans ax⟩) (λd2=>?_)⟩
  ·rw[decide_eq_false (yXk hx hy (by simpa using d2))]
  ·rw[zQa (by omega) (by omega)]
   exact hJ _ _ aI ⟨by omega,zJ6 he hx hy (by simpa using d2),hp.trans ax⟩
 ·have aI:k=a.length:=by have:=zQd d1;omega
  subst aI
  rw[List.take_length,hab,List.take_length]at he
  exact⟨by rw[decide_eq_true he],hp⟩
theorem xZQ{w:World}{s t:SV}{a b:List Val}(ha:RdV w s a)(hb:RdV w t b):Calls prog 108 #[.slice s.a s.len s.cap,.slice t.a t.len t.cap] w λe w'=>e=.returned (.bool (decide (a=b)))/\Pu w w':=by
 refine yVa _ _ w _ ?_
 have hla:=ha.len
 have hlb:=hb.len
 have hlim:=ha.lim
 refine Br.of (λd=>⟨by rw[decide_eq_false (λe=>zQ1 d (by rw[hla,hlb,e]))],Pu.refl _⟩) (λd=>?_)
 have hab:a.length=b.length:=by have:=zQs d;omega
 refine zQw a.length (λk t w'=>t=(k:Int)/\a.take k=b.take k/\Pu w w') ⟨rfl,by simp,Pu.refl _⟩ ?_
 rintro k J t w2 hk ⟨ht,he,hp⟩ hJ
 obtain rfl:t=(k:Int):=ht
 refine Br.of (λd1=>zQc λw3 ax _=>?_) (λd1=>?_)
 ·have aI:k<a.length:=by have:=zQk d1;omega
  obtain⟨x,hx⟩:=zQM aI
  obtain⟨y,hy⟩:=zQM (show k<b.length by omega)
  obtain⟨p,hpa,c0,c1,c2⟩:=((ha.pu hp).pu ax).get k x hx
  obtain⟨q,hqa,e0,e1,e2⟩:=((hb.pu hp).pu ax).get k y hy
  refine⟨p,hpa,by omega,by omega,_,c0,_,c1,_,c2,q,hqa,by omega,by omega,_,e0,_,e1,_,e2,_,λw=>neVal _ _ x y w,Br.of (λd2=>⟨?_,hp.trans ax⟩) (λd2=>?_)⟩
  ·rw[decide_eq_false (yXk hx hy (by simpa using d2))]
  ·rw[zQa (by omega) (by omega)]
   exact hJ _ _ aI ⟨by omega,zJ6 he hx hy (by simpa using d2),hp.trans ax⟩
 ·have aI:k=a.length:=by have:=zQd d1;omega
  subst aI
  rw[List.take_length,hab,List.take_length]at he
  exact⟨by rw[decide_eq_true he],hp⟩
def zYI(a b:List Rec)(i:Nat):Bool:=!decide (a[i]?=b[i]?)
def zVq(a b:List Rec)(n:Nat):List Int:=((List.range n).filter (zYI a b)).map λ(i:Nat)=>(i:Int)+1
theorem xJy{a b:List Rec}{n:Nat}(h:zYI a b n=true):zVq a b (n+1)=zVq a b n ++ [(n:Int)+1]:=by
 simp[zVq,List.range_succ,List.filter_append,h]
theorem xYr{a b:List Rec}{n:Nat}(h:zYI a b n=false):zVq a b (n+1)=zVq a b n:=by
 simp[zVq,List.range_succ,List.filter_append,h]
theorem xJk(a b:List Rec)(n:Nat):(zVq a b n).length<=n:=by
 unfold zVq;rw[List.length_map]
 have:=List.length_filter_le (zYI a b) (List.range n)
 simpa using this
def xVD(a b:Tbl):List Int × Int:=if zQh a ≠ 0 then([],zQh a)else if zQh b ≠ 0 then([],zQh b)else if a.page ≠ b.page∨a.fields ≠ b.fields then([],10)else(zVq a.recs b.recs (max a.recs.length b.recs.length),0)
theorem zWQ{t:Tbl}(h:zQh t=0):zQW t.page=true/\zQT t.fields=0/\t.recs.length<=300/\zXu t.fields t.page t.recs=0:=by
 unfold zQh at h
 split at h
 ·rename_i h1
  split at h
  ·rename_i h2;exact absurd h h2
  ·rename_i h2
   split at h
   ·cases h
   ·rename_i h3;exact⟨h1,by omega,by omega,h⟩
 ·cases h
theorem xVA{x y:Rec}:(x=y) ↔ (x.gone=y.gone/\x.v=y.v):=by
 obtain⟨a,b⟩:=x;obtain⟨c,d⟩:=y;simp
theorem yKr{a b:List Rec}{i:Nat}(hm:i<max a.length b.length)(h:a.length<=i∨b.length<=i):zYI a b i=true:=by
 unfold zYI
 rw[Bool.not_eq_true',decide_eq_false_iff_not]
 intro e
 rcases h with h|h
 ·rw[List.getElem?_eq_none h,List.getElem?_eq_getElem (by omega)]at e;cases e
 ·rw[List.getElem?_eq_none (l:=b) h,List.getElem?_eq_getElem (by omega)]at e;cases e
theorem xY8 {a b:List Rec} {i:Nat} {x y:Rec} (hx:a[i]?=some x) (hy:b[i]?=some y):zYI a b i=!(decide (x.gone=y.gone) && decide (x.v=y.v)):=by
 unfold zYI
 rw[hx,hy]
 congr 1
 rw[←Bool.decide_and]
 refine zZC ?_
 rw[Option.some_inj,xVA]
theorem zVW {w0 w:World} {s:SV} {a b:List Rec} {k:Nat} (h:zKm w0 w s (zVq a b k)) (hp:Pu w0 w) (hk:k<1000) {J:SV × Int->World->Prop}
  (hJ:∀(s':SV) w',zKm w0 w' s' (zVq a b (k+1))->Pu w0 w'->J (s',(k:Int)+1) w') (hd:zYI a b k=true) :
  alE (.cells #[.int .i64 (IntKind.i64.wrap ((k:Int)+1))] 3) w λr w4=>∃j5:SV,∃w5:World,(Builtin.append_ #[52,52] 52 #[.slice s.a s.len s.cap,.slice (some ⟨r,0,none⟩) 1 1]).run prog w4=.ok (.slice j5.a j5.len j5.cap) w5/\J (j5,IntKind.i64.wrap ((k:Int)+1)) w5:=by
 rw[zQa (by omega) (by omega)]
 refine alB λw4 aK dx=>?_
 have hl:=xJk a b k
 obtain⟨s',w5,e5,r5,f5⟩:=(h.pu aK).push (hp.trans aK).size dx (by omega)
 refine⟨s',w5,e5,hJ s' w5 (by rw[xJy hd];exact r5) ?_⟩
 exact(hp.trans aK).andNew f5 λi hi=>h.2 i hi
theorem yQS {w:World} {r:Nat} {t:Tbl} {f q:SV} (h:w.heap[r]?=some (.cells #[.int .i64 t.page,.slice f.a f.len f.cap,.slice q.a q.len q.cap] 35)):w.cell? ((⟨r,0,none⟩:Addr).add 0)=some (.int .i64 t.page)/\w.cell? ((⟨r,0,none⟩:Addr).add 1)=some (.slice f.a f.len f.cap)/\w.cell? ((⟨r,0,none⟩:Addr).add 2)=some (.slice q.a q.len q.cap):=⟨cl h 0,cl h 1,cl h 2⟩
theorem xJo{w:World}{a b:Tbl}{fa ra fb rb:SV}(ha:zXz w a fa ra)(hb:zXz w b fb rb)(la:Lim.ok a.fields)(lb:Lim.ok b.fields):Calls prog 72 #[zWR a fa ra,zWR b fb rb] w
  λe w'=>∃q:SV,e=.returned (.tuple #[.slice q.a q.len q.cap,.int .i64 (xVD a b).2])/\zKm w w' q (xVD a b).1/\Pu w w':=by
 refine xZg _ _ _ _ _ _ w _ (alB λw1 aq ay=>alB λw2 ar aN=>?_)
 have aF:=aq.trans ar
 have b1:∀{wz},Pu w2 wz->_:=λ{wz} (h:Pu w2 wz)=>yQS (t:=a) (f:=fa) (q:=ra) (h.blk (ar.blk ay))
 have b2:∀{wz},Pu w2 wz->_:=λ{wz} (h:Pu w2 wz)=>yQS (t:=b) (f:=fb) (q:=rb) (h.blk aN)
 refine⟨_,(b1 (Pu.refl _)).1,_,(b1 (Pu.refl _)).2.1,_,(b1 (Pu.refl _)).2.2,(zZy (ha.pu aF) la).mono ?_⟩
 rintro e w3 ⟨rfl,ax⟩
 refine⟨_,rfl,Br.of (λd=>⟨⟨none,0,0⟩,by unfold xVD;rw[if_pos (zQ1 d)],by unfold xVD;rw[if_pos (zQ1 d)];exact zKm.nil w w3,aF.trans ax⟩) (λd=>?_)⟩
 have va:=zQs d
 refine⟨_,(b2 ax).1,_,(b2 ax).2.1,_,(b2 ax).2.2,(zZy (hb.pu (aF.trans ax)) lb).mono ?_⟩
 rintro e w4 ⟨rfl,aK⟩
 have p4:=ax.trans aK
 have eA:xVD a b=if zQh b ≠ 0 then([],zQh b)else if a.page ≠ b.page∨a.fields ≠ b.fields then([],10)else(zVq a.recs b.recs (max a.recs.length b.recs.length),0):=by unfold xVD;rw[if_neg (by omega)]
 refine⟨_,rfl,Br.of (λd=>⟨⟨none,0,0⟩,by rw[eA,if_pos (zQ1 d)],by rw[eA,if_pos (zQ1 d)];exact zKm.nil w w4,aF.trans p4⟩) (λd=>?_)⟩
 have vb:=zQs d
 rw[if_neg (by omega)]at eA
 have c1:=(b1 p4).1
 have c2:=(b2 p4).1
 rw[yYd]at c1 c2
 refine⟨_,c1,_,c2,Br.of (λd=>⟨⟨none,0,0⟩,by rw[eA,if_pos (.inl (zQ1 d))],by rw[eA,if_pos (.inl (zQ1 d))];exact zKm.nil w w4,aF.trans p4⟩) (λd=>⟨_,(b1 p4).2.1,_,(b2 p4).2.1,?_⟩)⟩
 have hpg:=zQs d
 refine(xZ0 (RdF.of (ha.fields.pu (aF.trans p4))) (RdF.of (hb.fields.pu (aF.trans p4)))).mono ?_
 rintro e w5 ⟨rfl,aU⟩
 have p5:=p4.trans aU
 refine⟨_,rfl,Br.of (λd=>⟨⟨none,0,0⟩,by rw[eA,if_pos (.inr (by simpa using d))],by rw[eA,if_pos (.inr (by simpa using d))];exact zKm.nil w w5,aF.trans p5⟩) (λd=>⟨_,(b1 p5).2.2,_,(b2 p5).2.2,_,w5,yJF _ _ _ _ _ _,?_⟩)⟩
 rw[if_neg (by rintro(h|h);exact h hpg;exact h (by simpa using d))]at eA
 have hla:=ha.recs.len
 have hlb:=hb.recs.len
 have ma:=(zWQ va).2.2.1
 have mb:=(zWQ vb).2.2.1
 refine zQw (max a.recs.length b.recs.length) (λk t w'=>t.2=(k:Int)/\zKm w2 w' t.1 (zVq a.recs b.recs k)/\Pu w2 w') ⟨rfl,zKm.nil w2 w5,p5⟩ ?_
 rintro k J ⟨t1,t2⟩ w6 hk ⟨ht,hr,hp⟩ hJ
 obtain rfl:t2=(k:Int):=ht
 have hr:zKm w2 w6 t1 (zVq a.recs b.recs k):=hr
 dsimp only
 refine Br.of (λd1=>zQc λw7 cH _=>?_) (λd1=>?_)
 ·have aI:k<max a.recs.length b.recs.length:=by have:=zQk d1;omega
  have p7:=hp.trans cH
  have pR:=hr.pu cH
  refine⟨_,(b1 p7).2.2,Br.of (λd2=>?_) (λd2=>⟨_,(b2 p7).2.2,Br.of (λd3=>?_) (λd3=>⟨_,(b1 p7).2.2,?_⟩)⟩)⟩
  ·exact zVW pR p7 (by omega) (λs' w' h1 h2=>hJ _ _ aI ⟨by dsimp only;omega,h1,h2⟩) (yKr aI (.inl (by have:=zQk d2;omega)))
  ·exact zVW pR p7 (by omega) (λs' w' h1 h2=>hJ _ _ aI ⟨by dsimp only;omega,h1,h2⟩) (yKr aI (.inr (by have:=zQk d3;omega)))
  have d2:=zQd d2
  have d3:=zQd d3
  obtain⟨x,hx⟩:=zQM (show k<a.recs.length by omega)
  obtain⟨y,hy⟩:=zQM (show k<b.recs.length by omega)
  obtain⟨p,sx,hpa,_,vx,x0,x1⟩:=zWi (ha.recs.pu (aF.trans p7)) hx
  obtain⟨q,sy,hqa,_,vy,y0,y1⟩:=zWi (hb.recs.pu (aF.trans p7)) hy
  have x00:=x0
  have y00:=y0
  rw[yYd]at x00 y00
  have hd:=xY8 hx hy
  refine⟨p,hpa,by omega,by omega,_,x00,_,(b2 p7).2.2,q,hqa,by omega,by omega,_,y00,_,λw=>xZS under4 _ _ _ _ w,Br.of (λd4=>?_) (λd4=>?_)⟩
  ·exact zVW pR p7 (by omega) (λs' w' h1 h2=>hJ _ _ aI ⟨by dsimp only;omega,h1,h2⟩) (by rw[hd,decide_eq_false (by simpa using d4)];rfl)
  have d4:x.gone=y.gone:=by simpa using d4
  refine⟨_,(b1 p7).2.2,p,hpa,by omega,by omega,_,x1,_,(b2 p7).2.2,q,hqa,by omega,by omega,_,y1,(xZQ (RdV.of vx) (RdV.of vy)).mono ?_⟩
  rintro e w8 ⟨rfl,cj⟩
  refine⟨_,rfl,Br.of (λd5=>?_) (λd5=>?_)⟩
  ·exact zVW (pR.pu cj) (p7.trans cj) (by omega) (λs' w' h1 h2=>hJ _ _ aI ⟨by dsimp only;omega,h1,h2⟩) (by rw[hd,decide_eq_true d4];simpa using d5)
  ·show J (t1,IntKind.i64.wrap ((k:Int)+1)) w8
   rw[zQa (by omega) (by omega)]
   refine hJ _ _ aI ⟨by dsimp only;omega,?_,p7.trans cj⟩
   dsimp only
   rw[xYr (by rw[hd,decide_eq_true d4];simpa using d5)]
   exact pR.pu cj
 ·have aI:k=max a.recs.length b.recs.length:=by have:=zQd d1;omega
  subst aI
  exact⟨t1,by rw[eA],by rw[eA];exact hr.low aF.size,aF.trans hp⟩
end Go.Proofs.YtaeecpjhfmcliaaGreatDoor
/- The log: a store in plain words: what each call tells, and what it leaves. No program in sight. No condition. -/
namespace Go.Proofs.YtaeecpjhfmcliaaGreatDoor
open Go.Sh Go.RowKit Tryz
structure Sto where
 t:Tbl
 lev:List Tbl
 done:List Tbl
def Sto.new(t:Tbl):Sto:=⟨t,[],[t]⟩
def Sto.last(σ:Sto):Tbl:=σ.done.getLast?.getD σ.t
def zZv(σ:Sto):Sto:=if σ.lev=[]/\σ.t ≠ σ.last then { σ with done:=σ.done ++ [σ.t] }else σ
def zJT(σ:Sto):Int:=if 8<=σ.lev.length then 3 else 0
def zJa(σ:Sto):Sto:=if 8<=σ.lev.length then σ else { σ with lev:=σ.lev ++ [σ.t] }
def zJf(σ:Sto):Int:=if σ.lev=[]then 9 else 0
def xV3(σ:Sto):Sto:=if σ.lev=[]then σ else zZv { σ with lev:=σ.lev.dropLast }
def zVj(σ:Sto):Sto:=if σ.lev=[]then σ else { σ with t:=σ.lev.getLast?.getD σ.t,lev:=σ.lev.dropLast }
def zXd(σ:Sto)(k:Int):Bool:=decide (1<=k) && decide (k<=σ.t.recs.length)
def zXJ(σ:Sto)(l:List Rec):Sto:=zZv { σ with t:={ σ.t with recs:=l } }
def yZU(σ:Sto)(r:Rec):Int:=if 300<=σ.t.recs.length then 3 else zQ0 σ.t.fields σ.t.page r
def xVU(σ:Sto)(r:Rec):Sto:=if yZU σ r=0 then zXJ σ (σ.t.recs ++ [r])else σ
def yYf(σ:Sto)(r:Rec):Int:=if yZU σ r=0 then σ.t.recs.length+1 else 0
def yZV(σ:Sto)(k:Int)(r:Rec):Int:=if zXd σ k then zQ0 σ.t.fields σ.t.page r else 4
def xV0(σ:Sto)(k:Int)(r:Rec):Sto:=if yZV σ k r=0 then zXJ σ (σ.t.recs.set (k - 1).toNat r)else σ
def zYN(σ:Sto)(k:Int):Int:=if zXd σ k then 0 else 4
def yJL(σ:Sto)(k:Int)(g:Bool):Sto:=if zXd σ k then zXJ σ (σ.t.recs.modify (k - 1).toNat λr=>{ r with gone:=g })else σ
def yXF(σ:Sto)(k:Int)(nm:ByteArray)(v:Val):Int:=match yQj σ.t.fields nm with
 | none=>4
 | some i=>if zXd σ k then(zZO (σ.t.fields.getD i default) σ.t.page v).2 else 4
def yWk(σ:Sto)(k:Int)(nm:ByteArray)(v:Val):Sto:=match yQj σ.t.fields nm with
 | none=>σ
 | some i=>if zXd σ k/\(zZO (σ.t.fields.getD i default) σ.t.page v).2=0 then zXJ σ (σ.t.recs.modify (k - 1).toNat λr=>{ r with v:=r.v.set i (zZO (σ.t.fields.getD i default) σ.t.page v).1 })else σ
def zVE(σ:Sto):Int:=if σ.lev=[]then 0 else 9
def yVi:Tbl:=⟨0,[],[]⟩
def yZY(σ:Sto)(n:Int):Int:=if 0<=n/\n<σ.done.length then 0 else 1
def yQh(σ:Sto)(n:Int):Tbl:=if 0<=n/\n<σ.done.length then σ.done.getD n.toNat yVi else yVi
def zJt(σ:Sto):List Int:=zVq σ.last.recs σ.t.recs (max σ.last.recs.length σ.t.recs.length)
end Go.Proofs.YtaeecpjhfmcliaaGreatDoor
/- The log: numbers, sums and records as bytes; the first record of bytes. In plain words. No condition but those stated. -/
namespace Go.Proofs.YtaeecpjhfmcliaaGreatDoor
open Go.Sh Go.RowKit Tryz
def zJb(n:Nat):Nat->List UInt8
 | 0=>[]
 | k+1=>UInt8.ofNat (n % 256) :: zJb (n / 256) k
def zQX:List UInt8->Nat
 | []=>0
 | c :: l=>c.toNat+256 * zQX l
theorem zQ6:∀(n k:Nat),(zJb n k).length=k
 | _,0=>rfl
 | n,k+1=>by simp[zJb,zQ6 (n / 256) k]
theorem zJ0:∀(n k:Nat),zQX (zJb n k)=n % 256 ^ k
 | n,0=>by simp[zJb,zQX,Nat.mod_one]
 | n,k+1=>by
  have h1:(UInt8.ofNat (n % 256)).toNat=n % 256:=by rw[UInt8.toNat_ofNat'];exact Nat.mod_eq_of_lt (Nat.lt_of_lt_of_le (Nat.mod_lt _ (by decide)) (by decide))
  rw[zJb,zQX,zJ0,h1,Nat.pow_succ,Nat.mul_comm (256 ^ k) 256,Nat.mod_mul]
def yW5(n:Nat)(c:UInt8):Nat:=(n * 16777619 % 4294967296) ^^^ c.toNat
theorem xZM(n:Nat)(c:UInt8):yW5 n c<4294967296:=by
 have h1:n * 16777619 % 4294967296<2 ^ 32:=Nat.mod_lt _ (by decide)
 have h2:c.toNat<2 ^ 32:=Nat.lt_of_lt_of_le c.toNat_lt (by decide)
 exact Nat.xor_lt_two_pow h1 h2
def yQR(l:List UInt8):Nat:=l.foldl yW5 7
theorem yJq(l:List UInt8):yQR l<4294967296:=by
 have key:∀(l:List UInt8) (n:Nat),n<4294967296->l.foldl yW5 n<4294967296:=λl=>by
  induction l with
  | nil=>exact λn h=>h
  | cons c l ih=>exact λn h=>ih _ (xZM n c)
 exact key l 7 (by decide)
def zKd(kind:UInt8)(body:List UInt8):List UInt8:=kind :: (zJb body.length 4 ++ body)
def zZT(kind:UInt8)(body:List UInt8):List UInt8:=zKd kind body ++ zJb (yQR (zKd kind body)) 4
theorem zW4(k:UInt8)(b:List UInt8):(zKd k b).length=5+b.length:=by simp[zKd,zQ6];omega
theorem zJm(k:UInt8)(b:List UInt8):(zZT k b).length=9+b.length:=by simp[zZT,zW4,zQ6];omega
def zZ9(b:List UInt8):Option (UInt8 × List UInt8 × List UInt8):=
 if b.length<9 then none
 else if b.length<zQX ((b.drop 1).take 4)+9 then none
 else if zQX ((b.drop (5+zQX ((b.drop 1).take 4))).take 4) ≠ yQR (b.take (5+zQX ((b.drop 1).take 4)))then none
 else some (b.headD 0,(b.drop 5).take (zQX ((b.drop 1).take 4)),b.drop (9+zQX ((b.drop 1).take 4)))
theorem yXn {b more body:List UInt8} {k:UInt8} (h:zZ9 b=some (k,body,more)):more.length<b.length:=by
 unfold zZ9 at h
 split at h
 ·cases h
 split at h
 ·cases h
 split at h
 ·cases h
 simp only[Option.some.injEq,Prod.mk.injEq]at h
 rw[←h.2.2,List.length_drop]
 omega
theorem yZx(k:UInt8)(body rest:List UInt8):zZT k body ++ rest=k :: (zJb body.length 4 ++ (body ++ (zJb (yQR (zKd k body)) 4 ++ rest))):=by simp[zZT,zKd]
theorem yKg{k:UInt8}{body rest:List UInt8}(hb:body.length<4294967296):zQX (((zZT k body ++ rest).drop 1).take 4)=body.length:=by
 rw[yZx,List.drop_succ_cons,List.drop_zero,List.take_append_of_le_length (by rw[zQ6];omega),List.take_of_length_le (by rw[zQ6];omega),zJ0]
 exact Nat.mod_eq_of_lt hb
theorem yY6{k:UInt8}{body rest:List UInt8}(hb:body.length<4294967296):zZ9 (zZT k body ++ rest)=some (k,body,rest):=by
 have hl:(zZT k body ++ rest).length=9+body.length+rest.length:=by rw[List.length_append,zJm]
 have h5:(zZT k body ++ rest).drop (5+body.length)=zJb (yQR (zKd k body)) 4 ++ rest:=by
  rw[zZT,List.append_assoc,show 5+body.length=(zKd k body).length from(zW4 _ _).symm,List.drop_left]
 have t5:(zZT k body ++ rest).take (5+body.length)=zKd k body:=by
  rw[zZT,List.append_assoc,show 5+body.length=(zKd k body).length from(zW4 _ _).symm,List.take_left]
 have d9:(zZT k body ++ rest).drop (9+body.length)=rest:=by
  rw[show 9+body.length=(zZT k body).length from(zJm _ _).symm,List.drop_left]
 have b5:((zZT k body ++ rest).drop 5).take body.length=body:=by
  rw[yZx]
  have e:k :: (zJb body.length 4 ++ (body ++ (zJb (yQR (zKd k body)) 4 ++ rest)))=(k :: zJb body.length 4) ++ (body ++ (zJb (yQR (zKd k body)) 4 ++ rest)):=rfl
  rw[e,show 5=(k :: zJb body.length 4).length by simp[zQ6],List.drop_left,List.take_left]
 unfold zZ9
 rw[yKg hb,if_neg (by omega),if_neg (by omega),h5,t5,d9,b5,List.take_append_of_le_length (by rw[zQ6];omega),List.take_of_length_le (by rw[zQ6];omega),zJ0,
  Nat.mod_eq_of_lt (show yQR (zKd k body)<256 ^ 4 from yJq _),if_neg (by simp)]
 rfl
theorem yWD {k:UInt8} {body p:List UInt8} (hb:body.length<4294967296) (hp:p <+: zZT k body) (hl:p.length<(zZT k body).length):zZ9 p=none:=by
 unfold zZ9
 by_cases h9:p.length<9
 ·rw[if_pos h9]
 ·have hr:zQX ((p.drop 1).take 4)=body.length:=by
   obtain⟨q,hq⟩:=hp
   have h1:=yKg (k:=k) (rest:=[]) hb
   rw[List.append_nil,←hq,List.drop_append_of_le_length (by omega),List.take_append_of_le_length (by rw[List.length_drop];omega)]at h1
   exact h1
  rw[zJm]at hl
  rw[if_neg h9,hr,if_pos (by omega)]
end Go.Proofs.YtaeecpjhfmcliaaGreatDoor
/- Table: days and dates, in plain words. No condition. -/
namespace Go.Proofs.YtaeecpjhfmcliaaGreatDoor
def zJZ(y:Nat):Bool:=(decide (y % 4=0) && decide (y % 100 ≠ 0)) || decide (y % 400=0)
def zJ7(y m:Nat):Nat:=if m=2 then(if zJZ y then 29 else 28)else if m=4∨m=6∨m=9∨m=11 then 30 else 31
def zQ4(y:Nat):Nat->Nat
 | 0=>0
 | m+1=>zQ4 y m+zJ7 y (m+1)
def zQz(y:Nat):Nat:=365 * (y - 1)+(y - 1) / 4 - (y - 1) / 100+(y - 1) / 400
def zQV(y m d:Nat):Prop:=1<=y/\y<=9999/\1<=m/\m<=12/\1<=d/\d<=zJ7 y m
instance (y m d:Nat):Decidable (zQV y m d):=by unfold zQV;exact inferInstance
def zZ7(y m d:Nat):Nat:=zQz y+zQ4 y (m - 1)+d
theorem zXX{y:Nat}(h:1<=y):zQz (y+1)=zQz y+(if zJZ y then 366 else 365):=by
 obtain⟨k,rfl⟩:∃k,y=k+1:=⟨y - 1,by omega⟩
 unfold zQz zJZ
 simp only[Nat.add_sub_cancel]
 by_cases h1:(k+1) % 4=0 <;> by_cases h2:(k+1) % 100=0 <;> by_cases h3:(k+1) % 400=0 <;> simp[h1,h2,h3] <;> omega
theorem zZW(y:Nat):zQ4 y 12=if zJZ y then 366 else 365:=by
 simp only[zQ4,zJ7]
 cases zJZ y <;> rfl
theorem zXV(y:Nat):∀{a b:Nat},a<=b->zQ4 y a<=zQ4 y b:=by
 intro a b h
 induction h with
 | refl=>exact Nat.le_refl _
 | step _ ih=>exact Nat.le_trans ih (by simp[zQ4])
theorem zXT{a b:Nat}(h0:1<=a)(h:a<=b):zQz a<=zQz b:=by
 induction h with
 | refl=>exact Nat.le_refl _
 | step h ih=>exact Nat.le_trans ih (by rw[zXX (Nat.le_trans h0 h)];omega)
theorem zQV.month{y m d:Nat}(h:zQV y m d):zQ4 y (m - 1)+d<=zQ4 y m:=by
 obtain⟨_,_,h3,_,_,h6⟩:=h
 obtain⟨k,rfl⟩:∃k,m=k+1:=⟨m - 1,by omega⟩
 simp only[zQ4,Nat.add_sub_cancel]
 omega
theorem zQV.year{y m d:Nat}(h:zQV y m d):zQz y<zZ7 y m d/\zZ7 y m d<=zQz (y+1):=by
 have h1:=h.month
 have h2:=zXV y h.2.2.2.1
 rw[zZW,]at h2
 rw[zXX h.1]
 have:=h.2.2.2.2.1
 unfold zZ7
 omega
theorem yKN{y m d y' m' d':Nat}(h:zQV y m d)(h':zQV y' m' d')(e:zZ7 y m d=zZ7 y' m' d'):y=y'/\m=m'/\d=d':=by
 have a:=h.year
 have a':=h'.year
 have ey:y=y':=by
  rcases Nat.lt_trichotomy y y' with hlt|rfl|hlt
  ·have:=zXT (a:=y+1) (by omega) (show y+1<=y' by omega);omega
  ·rfl
  ·have:=zXT (a:=y'+1) (by omega) (show y'+1<=y by omega);omega
 subst ey
 have b:=h.month
 have b':=h'.month
 unfold zZ7 at e
 have c:=h.2.2.2.2.1
 have c':=h'.2.2.2.2.1
 have c3:=h.2.2.1
 have c3':=h'.2.2.1
 have em:m=m':=by
  rcases Nat.lt_trichotomy m m' with hlt|rfl|hlt
  ·have:=zXV y (show m<=m' - 1 by omega);omega
  ·rfl
  ·have:=zXV y (show m'<=m - 1 by omega);omega
 subst em
 exact⟨rfl,rfl,by omega⟩
theorem zK9:zQz 10000=3652059:=by decide
theorem zYe{y:Nat}(h:1<=y):365 * (y - 1)<=zQz y/\zQz y<=366 * (y - 1):=by
 unfold zQz;omega
theorem yZg(y m:Nat):zQ4 y m<=31 * m:=by
 induction m with
 | zero=>simp[zQ4]
 | succ m ih=>simp only[zQ4,zJ7];split <;> (try split) <;> omega
end Go.Proofs.YtaeecpjhfmcliaaGreatDoor
/- Table: days and dates, as both packages compute them. No condition. -/
namespace Go.Proofs.YtaeecpjhfmcliaaGreatDoor
open Go.Sh Go.RowKit Tryz
theorem yYp(a b:Int):(a == b)=decide (a=b):=by simp[BEq.beq]
theorem zW8(n k:Nat):((n:Int)).tmod (k:Int)=((n % k:Nat):Int):=by rw[Int.tmod_eq_emod_of_nonneg (by omega)];norm_cast
theorem zK6(n k:Nat):((n:Int)).tdiv (k:Int)=((n / k:Nat):Int):=by rw[Int.tdiv_eq_ediv_of_nonneg (by omega)];norm_cast
theorem leap_c(n:Nat)(w:World):Calls prog 239 #[.int .i64 (n:Int)] w λe w'=>e=.returned (.bool (zJZ n))/\Pu w w':=by
 have e4:(n:Int).tmod 4=((n % 4:Nat):Int):=zW8 n 4
 have sR:(n:Int).tmod 100=((n % 100:Nat):Int):=zW8 n 100
 have sT:(n:Int).tmod 400=((n % 400:Nat):Int):=zW8 n 400
 refine yVb _ w _ ⟨rfl,by decide,Br.of (λd=>⟨rfl,by decide,Br.of (λd1=>⟨?_,Pu.refl w⟩) (λd1=>⟨rfl,by decide,?_,Pu.refl w⟩)⟩) (λd=>⟨?_,Pu.refl w⟩)⟩
 ·have d:=zQE d;have d1:=zQ1 d1
  rw[show zJZ n=true from by unfold zJZ;rw[decide_eq_true (show n % 4=0 by omega),decide_eq_true (show n % 100 ≠ 0 by omega)];rfl]
 ·have d:=zQE d;have d1:=zQs d1
  rw[yYp,show zJZ n=decide (n % 400=0)from by unfold zJZ;rw[decide_eq_false (show ¬n % 100 ≠ 0 by omega),Bool.and_false,Bool.false_or]]
  congr 2;simp only[decide_eq_decide];omega
 ·have d:=zQm d
  rw[show zJZ n=false from by unfold zJZ;rw[decide_eq_false (show ¬n % 4=0 by omega),decide_eq_false (show ¬n % 400=0 by omega)];rfl]
theorem s184:zX9 prog 258=12:=by kernel_rfl
def md12:Array Value:=#[.int .i64 31,.int .i64 28,.int .i64 31,.int .i64 30,.int .i64 31,.int .i64 30,.int .i64 31,.int .i64 31,.int .i64 30,.int .i64 31,.int .i64 30,.int .i64 31]
theorem md_at{m:Nat}(h:1<=m/\m<=12):md12[m - 1]?=some (.int .i64 ((if m=2 then 28 else if m=4∨m=6∨m=9∨m=11 then 30 else 31:Nat):Int)):=by
 rcases(by omega:m=1∨m=2∨m=3∨m=4∨m=5∨m=6∨m=7∨m=8∨m=9∨m=10∨m=11∨m=12)with rfl|rfl|rfl|rfl|rfl|rfl|rfl|rfl|rfl|rfl|rfl|rfl <;> rfl
theorem zJO(y m:Nat)(h:1<=m/\m<=12)(w:World):Calls prog 236 #[.int .i64 (y:Int),.int .i64 (m:Int)] w λe w'=>e=.returned (.int .i64 (zJ7 y m:Nat))/\Pu w w':=by
 refine yVv _ _ w _ (yQk rfl s184.symm rfl λw1 aq _ ay=>?_)
 rw[zQa (n:=(m:Int) - 1) (by omega) (by omega)]
 have em:((m:Int) - 1).toNat * 1=m - 1:=by omega
 have hc:∀{wz:World},Pu w1 wz->wz.cell? ((⟨w.heap.size,0,none⟩:Addr).add (((m:Int) - 1).toNat * 1))=some (.int .i64 ((if m=2 then 28 else if m=4∨m=6∨m=9∨m=11 then 30 else 31:Nat):Int)):=λ{wz} hz=>by
  rw[em,cl (hz.blk ay)];exact md_at h
 refine Br.of (λd=>(leap_c y w1).mono ?_) (λd=>⟨by omega,by omega,_,hc (Pu.refl _),?_,aq⟩)
 ·have d:=zQE d
  have d:m=2:=by omega
  rintro e w2 ⟨rfl,ar⟩
  refine⟨_,rfl,Br.of (λd1=>⟨?_,aq.trans ar⟩) (λd1=>⟨by omega,by omega,_,hc ar,?_,aq.trans ar⟩)⟩
  ·unfold zJ7;rw[if_pos d,if_pos d1];rfl
  ·unfold zJ7;rw[if_pos d,if_pos d,if_neg (by rw[d1];simp)]
 ·have d:=zQm d
  have d:¬m=2:=by omega
  unfold zJ7;rw[if_neg d,if_neg d]
theorem zWa(y:Nat)(h:1<=y/\y<=10000)(w:World):Calls prog 237 #[.int .i64 (y:Int)] w λe w'=>e=.returned (.int .i64 (zQz y:Nat))/\Pu w w':=by
 obtain⟨p,rfl⟩:∃p,y=p+1:=⟨y - 1,by omega⟩
 have e0:(((p+1:Nat):Int) - 1)=(p:Int):=by omega
 have e4:=zK6 p 4
 have sR:=zK6 p 100
 have sT:=zK6 p 400
 refine yWE _ w _ ⟨rfl,by decide,rfl,by decide,rfl,by decide,?_,Pu.refl w⟩
 have e4:(p:Int).tdiv 4=((p / 4:Nat):Int):=e4
 have sR:(p:Int).tdiv 100=((p / 100:Nat):Int):=sR
 have sT:(p:Int).tdiv 400=((p / 400:Nat):Int):=sT
 rw[e0,zQa (n:=(p:Int)) (by omega) (by omega),e4,sR,sT,zQa (n:=((p / 4:Nat):Int)) (by omega) (by omega),zQa (n:=((p / 100:Nat):Int)) (by omega) (by omega),zQa (n:=((p / 400:Nat):Int)) (by omega) (by omega),zQa (n:=365 * (p:Int)) (by omega) (by omega),zQa (n:=365 * (p:Int)+_) (by omega) (by omega),zQa (n:=365 * (p:Int)+_ - _) (by omega) (by omega),zQa (by omega) (by omega)]
 unfold zQz
 rw[Nat.add_sub_cancel]
 congr 2
 omega
def yXc(y m d:Nat):Ending:=.returned (.tuple #[.int .i64 ((if zQV y m d then zZ7 y m d else 0:Nat):Int),.int .i64 (if zQV y m d then 0 else 1)])
theorem zVM(y m:Nat):zJ7 y m<=31/\28<=zJ7 y m:=by unfold zJ7;split <;> (try split) <;> omega
theorem days_c(y m d:Nat)(w:World):Calls prog 226 #[.int .i64 (y:Int),.int .i64 (m:Int),.int .i64 (d:Int)] w λe w'=>e=yXc y m d/\Pu w w':=by
 have no:¬zQV y m d->∀{w'},Pu w w'->zVw (λe w'=>e=yXc y m d/\Pu w w') (y:Int) (m:Int) (d:Int) true [] w':=λh w' hp=>Br.t rfl ⟨by unfold yXc;rw[if_neg h,if_neg h];rfl,hp⟩
 refine yWO _ _ _ w _ ?_
 refine Br.of (λd0=>no (λh=>by have:=h.1;have:=zQk d0;omega) (Pu.refl w)) (λd0=>Br.of (λd1=>no (λh=>by have:=h.2.1;have:=zQk d1;omega) (Pu.refl w)) (λd1=>Br.of (λd2=>no (λh=>by have:=h.2.2.1;have:=zQk d2;omega) (Pu.refl w)) (λd2=>Br.of (λd3=>no (λh=>by have:=h.2.2.2.1;have:=zQk d3;omega) (Pu.refl w)) (λd3=>Br.of (λd4=>no (λh=>by have:=h.2.2.2.2.1;have:=zQk d4;omega) (Pu.refl w)) (λd4=>?_)))))
 have d0:=zQd d0
 have d1:=zQd d1
 have d2:=zQd d2
 have d3:=zQd d3
 have d4:=zQd d4
 refine(zJO y m (by omega) w).mono ?_
 rintro e w1 ⟨rfl,aq⟩
 refine⟨_,rfl,?_⟩
 by_cases hd:d<=zJ7 y m
 ·have hD:zQV y m d:=⟨by omega,by omega,by omega,by omega,by omega,hd⟩
  have hml:=zVM y m
  rw[decide_eq_false (by omega)]
  refine Br.f rfl ((zWa y (by omega) w1).mono ?_)
  rintro e w2 ⟨rfl,ar⟩
  have hyl:=zYe (y:=y) (by omega)
  refine⟨_,rfl,?_⟩
  rw[zQa (n:=((zQz y:Nat):Int)+(d:Int)) (by omega) (by omega),zQa (n:=(m:Int) - 1) (by omega) (by omega)]
  refine zQw (m - 1) (λk t w'=>t.2=(k:Int)/\t.1=((zQz y+d+zQ4 y k:Nat):Int)/\Pu w w') ⟨rfl,by simp[zQ4],aq.trans ar⟩ ?_
  rintro k J ⟨t1,t2⟩ w3 hk ⟨h2,h1,hp⟩ hJ
  obtain rfl:t2=(k:Int):=h2
  obtain rfl:t1=((zQz y+d+zQ4 y k:Nat):Int):=h1
  dsimp only
  refine Br.of (λd5=>?_) (λd5=>?_)
  ·have aI:k<m - 1:=by have:=zQk d5;omega
   rw[zQa (n:=(k:Int)+1) (by omega) (by omega)]
   refine(zJO y (k+1) (by omega) w3).mono ?_
   rintro e w4 ⟨rfl,aK⟩
   have hmf:=yZg y k
   have hmd:=zVM y (k+1)
   refine⟨_,rfl,?_⟩
   rw[zQa (by omega) (by omega)]
   refine hJ _ _ aI ⟨by dsimp only;omega,?_,hp.trans aK⟩
   dsimp only[zQ4];omega
  ·have aI:k=m - 1:=by have:=zQd d5;omega
   subst aI
   refine⟨?_,hp⟩
   unfold yXc zZ7;rw[if_pos hD,if_pos hD,show zQz y+d+zQ4 y (m - 1)=zQz y+zQ4 y (m - 1)+d by omega]
 ·rw[decide_eq_true (by omega)]
  exact no (λh=>hd h.2.2.2.2.2) aq
theorem kQf(n:Nat)(h:1<=n/\n<=3652059)(w:World):Calls prog 234 #[.int .i64 (n:Int)] w λe w'=>∃y m d:Nat,zQV y m d/\zZ7 y m d=n/\e=.returned (.tuple #[.int .i64 (y:Int),.int .i64 (m:Int),.int .i64 (d:Int),.int .i64 0])/\Pu w w':=by
 refine yV5 _ w _ ((yJz (n:Int) w).mono ?_)
 rintro e w1 ⟨rfl,aq⟩
 rw[decide_eq_true (show(0:Int)<=n by omega),decide_eq_true (show(n:Int)<=3652059 by omega)]
 refine⟨_,rfl,Br.f rfl (Br.of (λd=>absurd (zQE d) (by omega)) (λd=>⟨rfl,by decide,?_⟩))⟩
 rw[show((n:Int).tdiv 366)=((n / 366:Nat):Int)from zK6 n 366,zQa (n:=((n / 366:Nat):Int)) (by omega) (by omega),zQa (by omega) (by omega)]
 have y0:zQz (n / 366+1)<n:=by unfold zQz;rw[Nat.add_sub_cancel];omega
 have hend:=zK9
 refine zQw 10000 (λk t w'=>t=((n / 366+1+k:Nat):Int)/\zQz (n / 366+1+k)<n/\Pu w w') ⟨by omega,y0,aq⟩ ?_
 rintro k J t w2 hk ⟨ht,hy,hp⟩ hJ
 have hy9:n / 366+1+k<=9999:=by
  rcases Nat.lt_or_ge (n / 366+1+k) 10000 with h1|h1
  ·omega
  ·have:=zXT (a:=10000) (by omega) h1;omega
 generalize hyy:n / 366+1+k=y at *
 obtain rfl:t=(y:Int):=ht
 refine(?_:xXX _ J _ _ _ _)
 show Calls prog 237 #[.int .i64 (IntKind.i64.wrap ((y:Int)+1))] w2 _
 rw[zQa (n:=(y:Int)+1) (by omega) (by omega)]
 refine(zWa (y+1) (by omega) w2).mono ?_
 rintro e w3 ⟨rfl,ax⟩
 refine⟨_,rfl,Br.of (λd1=>?_) (λd1=>?_)⟩
 ·have hlt:zQz (y+1)<n:=by have:=zQk d1;omega
  refine hJ _ _ (by omega) ⟨by omega,by rw[show n / 366+1+(k+1)=y+1 by omega];exact hlt,hp.trans ax⟩
 have hge:n<=zQz (y+1):=by have:=zQd d1;omega
 have y1:1<=y:=by omega
 refine(zWa y (by omega) w3).mono ?_
 rintro e w4 ⟨rfl,aK⟩
 refine⟨_,rfl,?_⟩
 clear hJ J d1
 have hyl:=zYe y1
 rw[zQa (by omega) (by omega)]
 have hys:=zXX y1
 have wQ:=zZW y
 refine zQw 11 (λk t w'=>t.2=((k+1:Nat):Int)/\t.1=((n - zQz y - zQ4 y k:Nat):Int)/\zQz y+zQ4 y k<n/\Pu w w') ⟨rfl,by simp[zQ4];omega,by simp[zQ4];omega,(hp.trans ax).trans aK⟩ ?_
 rintro k2 J ⟨t1,t2⟩ w5 aI ⟨h2,h1,hlt,aU⟩ hJ
 obtain rfl:t2=((k2+1:Nat):Int):=h2
 obtain rfl:t1=((n - zQz y - zQ4 y k2:Nat):Int):=h1
 dsimp only
 refine(zJO y (k2+1) (by omega) w5).mono ?_
 rintro e w6 ⟨rfl,bC⟩
 have hml:=zVM y (k2+1)
 have hmf:zQ4 y (k2+1)=zQ4 y k2+zJ7 y (k2+1):=rfl
 refine⟨_,rfl,Br.of (λd1=>(zJO y (k2+1) (by omega) w6).mono ?_) (λd1=>?_)⟩
 ·rintro e w7 ⟨rfl,cH⟩
  have hgt:=zQk d1
  have k10:k2<11:=by
   rcases Nat.lt_or_ge k2 11 with h|h
   ·exact h
   ·exfalso
    have:k2=11:=by omega
    subst this
    have:zQ4 y 12=zQ4 y 11+zJ7 y 12:=rfl
    split at wQ <;> split at hys <;> simp_all <;> omega
  refine⟨_,rfl,?_⟩
  rw[zQa (by omega) (by omega),zQa (by omega) (by omega)]
  refine hJ _ _ k10 ⟨by dsimp only;omega,by dsimp only;omega,by omega,(aU.trans bC).trans cH⟩
 ·have hle:=zQd d1
  refine⟨y,k2+1,n - zQz y - zQ4 y k2,⟨y1,hy9,by omega,by omega,by omega,by omega⟩,?_,rfl,aU.trans bC⟩
  unfold zZ7;rw[Nat.add_sub_cancel];omega
end Go.Proofs.YtaeecpjhfmcliaaGreatDoor
