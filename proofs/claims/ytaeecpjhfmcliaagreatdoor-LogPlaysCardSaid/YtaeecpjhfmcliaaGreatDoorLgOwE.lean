import Derived.Test.YtaeecpjhfmcliaaGreatDoorLgOwD
import Derived.Test.YtaeecpjhfmcliaaGreatDoorLgOwC
/- Table: the program's reading of a row's bytes. No condition. -/
set_option maxRecDepth 100000
set_option maxHeartbeats 2000000
set_option linter.unusedVariables false
set_option linter.unusedSimpArgs false
noncomputable section
namespace Go.Proofs.YtaeecpjhfmcliaaGreatDoor
open Go.Sh Go.RowKit Tryz
def appV(aD:SV)(p6:Option Addr)(c:Array Value)(K:World->Prop)(w:World):Prop:=
 alE (.cells c 73) w λcB dU=>∃aF:SV,∃dw:World,(Builtin.append_ #[38,38] 38 #[.slice aD.a aD.len aD.cap,.slice (some ⟨cB,0,none⟩) 1 1]).run prog dU=.ok (.slice aF.a aF.len aF.cap) dw/\
 zQf p6 λm8=>st1 (m8.add 1) (.slice aF.a aF.len aF.cap) dw λfj=>K fj
def xYJ(p6:Option Addr)(aO:Nat)(K:World->Prop)(w:World):Prop:=
 zQf p6 λpG=>∃aD:SV,w.cell? (pG.add 1)=some (.slice aD.a aD.len aD.cap)/\
 ∃ax:Int,w.cell? ((⟨aO,0,none⟩:Addr).add 0)=some (.int .i64 ax)/\
 ∃ay:Int,w.cell? ((⟨aO,0,none⟩:Addr).add 1)=some (.int .i64 ay)/\
 ∃az:ByteArray,w.cell? ((⟨aO,0,none⟩:Addr).add 2)=some (.string az)/\
 appV aD p6 #[.int .i64 ax,.int .i64 ay,.string az] K w
structure zYX(w0 wr:World)(r4 r6:Nat)(g:Bool)(vs:List Val)(w:World):Prop where
 ex:∃q:SV,w.heap[r6]?=some (.cells #[.bool g,.slice q.a q.len q.cap] 67)/\zJH wr w q vs
 b4:w.heap[r4]?=some (.cells #[.bool false,.slice none 0 0] 67)
 sz:wr.heap.size<=w.heap.size
 pu:Pu w0 w
 l4:r4<wr.heap.size
 l6:r6<wr.heap.size
 ne:r4 ≠ r6
 z4:w0.heap.size<=r4
 z6:w0.heap.size<=r6
theorem zYX.on{w0 wr w w':World}{r4 r6:Nat}{g:Bool}{vs:List Val}(h:zYX w0 wr r4 r6 g vs w)(hp:Pu w w'):zYX w0 wr r4 r6 g vs w':=by
 obtain⟨q,h1,h2⟩:=h.ex
 exact⟨⟨q,hp.blk h1,h2.pu hp⟩,hp.blk h.b4,Nat.le_trans h.sz hp.size,h.pu.trans hp,h.l4,h.l6,h.ne,h.z4,h.z6⟩
theorem xW2 {w0 wr w:World} {r4 r6:Nat} {g:Bool} {vs:List Val} (h:zYX w0 wr r4 r6 g vs w) {q:SV} (h6:w.heap[r6]?=some (.cells #[.bool g,.slice q.a q.len q.cap] 67)) (hq:zJH wr w q vs) {v:Val} {c:Array Value} (hc:c=#[.int .i64 v.kind,.int .i64 v.n,.string v.s]) (hl:vs.length<=1000000) {K:World->Prop}
  (hK:∀w',zYX w0 wr r4 r6 g (vs ++ [v]) w'->K w'):appV q (some ⟨r6,0,none⟩) c K w:=by
 refine alB λw1 ar aA=>?_
 have h1:=h.on ar
 have z1:=ar.size
 have z:=h.sz
 obtain⟨q',w2,e2,r2,f2⟩:=(hq.pu ar).push (by omega) aA hc hl
 have n6:¬r6 ∈ zQe q:=λhc=>by have:=hq.2 _ hc;have:=h.l6;omega
 have n4:¬r4 ∈ zQe q:=λhc=>by have:=hq.2 _ hc;have:=h.l4;omega
 have b6:=f2.blk (ar.blk h6) n6
 have b4:=f2.blk h1.b4 n4
 refine⟨q',w2,e2,zQu (o:=1) b6 (by simp) λwx ex hbx=>?_⟩
 have fx:Fr (·=r6) w2 wx:=by rw[ex];exact Fr.cell w2 _ _ _
 have zx:wx.heap.size=w2.heap.size:=by rw[ex];simp
 have z2:=f2.size
 have h46:=h.ne
 have hz6:=h.z6
 have hl6:=h.l6
 have hl4:=h.l4
 have hz4:=h.z4
 refine hK wx ⟨⟨q',hbx,r2.fr fx λi hi=>by have:=r2.2 i hi;omega⟩,fx.blk b4 (by omega),by omega,?_,h.l4,h.l6,h.ne,h.z4,h.z6⟩
 have p2:Pu w0 w2:=h1.pu.andNew f2 λi hi=>by have:=hq.2 i hi;omega
 exact p2.andNew fx λi hi=>by omega
theorem xXG {w0 wr w:World} {r4 r6 aO:Nat} {g:Bool} {vs:List Val} (h:zYX w0 wr r4 r6 g vs w) {v:Val} (hv:w.heap[aO]?=some (.cells #[.int .i64 v.kind,.int .i64 v.n,.string v.s] 73)) (hl:vs.length<=1000000) {K:World->Prop}
  (hK:∀w',zYX w0 wr r4 r6 g (vs ++ [v]) w'->K w'):xYJ (some ⟨r6,0,none⟩) aO K w:=by
 obtain⟨q,h6,hq⟩:=h.ex
 exact⟨q,cl h6 1,_,cl hv 0,_,cl hv 1,_,cl hv 2,xW2 h h6 hq rfl hl hK⟩
def zKu(K:Bool->World->Prop)(p6:Option Addr)(b9 ok:Bool)(aO:Nat)(w:World):Prop:=Br b9 (xYJ p6 aO (K ok) w) (xYJ p6 aO (K false) w)
def yJZ(K:Bool->World->Prop)(p6:Option Addr)(b9:Bool)(cq:Nat)(bG:SV)(w9:World):Prop:=
 dwE w9 λbF=>
 ∃S1:World->Prop,S1 bF/\
 ∃kY:Int,(∀w',S1 w'->w'.cell? ((⟨cq,0,none⟩:Addr).add 1)=some (.int .i64 kY))/\
 (
 Calls prog 145 #[] bF λe bH=>
 ∃eV:Option Nat,e=.returned (.map eV)/\
 ∃S2:World->Prop,S2 bH/\(∀u,S2 u->S1 u)/\
 ∃bL:Int,∃bM:Int,∃bN:Int,∃bO:Value,∃aR:Value,(∀w',S2 w'->(Instr.lookup 176 (.map eV) (.int .i64 kY) false).run prog w'=.ok (.agg #[.int .u8 bL,.int .i64 bM,.int .i64 bN,bO,aR]) w')/\
 (
 ∃dN:ByteArray,∃bU:World,(convert 22 9 (.slice bG.a bG.len bG.cap)).run prog bH=.ok (.string dN) bU/\
 ∃S3:World->Prop,S3 bU/\(∀u,S3 u->S2 u)/\
 (
 fnE aR λf75 first75 be=>
 zQ5 prog f75=true/\Calls prog f75 (first75.toList ++ (([.string dN]:List Value) ++ be.toList)).toArray bU λe cM=>
 ∃am:Int,∃ao:Int,∃ap:ByteArray,∃aG:Bool,e=.returned (.tuple #[.agg #[.int .i64 am,.int .i64 ao,.string ap],.bool aG])/\
 alE (.cells #[.int .i64 0,.int .i64 0,.string (⟨#[]⟩:ByteArray)] 73) cM λaO bT=>
 stA prog 73 (⟨aO,0,none⟩:Addr) #[.int .i64 am,.int .i64 ao,.string ap] bT λbX=>
 zKu K p6 b9 aG aO bX)/\(
 alE (.cells #[.int .i64 0,.int .i64 0,.string (⟨#[]⟩:ByteArray)] 73) bU λaO gd=>
 ∃S4:World->Prop,S4 gd/\(∀u,S4 u->S3 u)/\
 fnE aR λf75 first75 be=>
 zQ5 prog f75=true/\Calls prog f75 (first75.toList ++ (([.string dN]:List Value) ++ be.toList)).toArray gd λe fU=>
 ∃am:Int,∃ao:Int,∃ap:ByteArray,∃aG:Bool,e=.returned (.tuple #[.agg #[.int .i64 am,.int .i64 ao,.string ap],.bool aG])/\
 stA prog 73 (⟨aO,0,none⟩:Addr) #[.int .i64 am,.int .i64 ao,.string ap] fU λfV=>
 zKu K p6 b9 aG aO fV))/\(
 alE (.cells #[.int .i64 0,.int .i64 0,.string (⟨#[]⟩:ByteArray)] 73) bH λaO wt=>
 ∃S5:World->Prop,S5 wt/\(∀u,S5 u->S2 u)/\
 ∃dN:ByteArray,∃fo:World,(convert 22 9 (.slice bG.a bG.len bG.cap)).run prog wt=.ok (.string dN) fo/\
 ∃S6:World->Prop,S6 fo/\(∀u,S6 u->S5 u)/\
 fnE aR λf75 first75 be=>
 zQ5 prog f75=true/\Calls prog f75 (first75.toList ++ (([.string dN]:List Value) ++ be.toList)).toArray fo λe o9=>
 ∃am:Int,∃ao:Int,∃ap:ByteArray,∃aG:Bool,e=.returned (.tuple #[.agg #[.int .i64 am,.int .i64 ao,.string ap],.bool aG])/\
 stA prog 73 (⟨aO,0,none⟩:Addr) #[.int .i64 am,.int .i64 ao,.string ap] o9 λkA=>
 zKu K p6 b9 aG aO kA))/\(
 (
 ∃dN:ByteArray,∃oy:World,(convert 22 9 (.slice bG.a bG.len bG.cap)).run prog bF=.ok (.string dN) oy/\
 ∃S7:World->Prop,S7 oy/\(∀u,S7 u->S1 u)/\
 (
 Calls prog 145 #[] oy λe oW=>
 ∃eV:Option Nat,e=.returned (.map eV)/\
 ∃S8:World->Prop,S8 oW/\(∀u,S8 u->S7 u)/\
 ∃bL:Int,∃bM:Int,∃bN:Int,∃bO:Value,∃aR:Value,(∀w',S8 w'->(Instr.lookup 176 (.map eV) (.int .i64 kY) false).run prog w'=.ok (.agg #[.int .u8 bL,.int .i64 bM,.int .i64 bN,bO,aR]) w')/\
 (
 fnE aR λf75 first75 be=>
 zQ5 prog f75=true/\Calls prog f75 (first75.toList ++ (([.string dN]:List Value) ++ be.toList)).toArray oW λe pH=>
 ∃am:Int,∃ao:Int,∃ap:ByteArray,∃aG:Bool,e=.returned (.tuple #[.agg #[.int .i64 am,.int .i64 ao,.string ap],.bool aG])/\
 alE (.cells #[.int .i64 0,.int .i64 0,.string (⟨#[]⟩:ByteArray)] 73) pH λaO qA=>
 stA prog 73 (⟨aO,0,none⟩:Addr) #[.int .i64 am,.int .i64 ao,.string ap] qA λoe=>
 zKu K p6 b9 aG aO oe)/\(
 alE (.cells #[.int .i64 0,.int .i64 0,.string (⟨#[]⟩:ByteArray)] 73) oW λaO wk=>
 ∃S9:World->Prop,S9 wk/\(∀u,S9 u->S8 u)/\
 fnE aR λf75 first75 be=>
 zQ5 prog f75=true/\Calls prog f75 (first75.toList ++ (([.string dN]:List Value) ++ be.toList)).toArray wk λe oA=>
 ∃am:Int,∃ao:Int,∃ap:ByteArray,∃aG:Bool,e=.returned (.tuple #[.agg #[.int .i64 am,.int .i64 ao,.string ap],.bool aG])/\
 stA prog 73 (⟨aO,0,none⟩:Addr) #[.int .i64 am,.int .i64 ao,.string ap] oA λoq=>
 zKu K p6 b9 aG aO oq))/\(
 alE (.cells #[.int .i64 0,.int .i64 0,.string (⟨#[]⟩:ByteArray)] 73) oy λaO yG=>
 ∃S10:World->Prop,S10 yG/\(∀u,S10 u->S7 u)/\
 Calls prog 145 #[] yG λe yH=>
 ∃eV:Option Nat,e=.returned (.map eV)/\
 ∃S11:World->Prop,S11 yH/\(∀u,S11 u->S10 u)/\
 ∃bL:Int,∃bM:Int,∃bN:Int,∃bO:Value,∃aR:Value,(∀w',S11 w'->(Instr.lookup 176 (.map eV) (.int .i64 kY) false).run prog w'=.ok (.agg #[.int .u8 bL,.int .i64 bM,.int .i64 bN,bO,aR]) w')/\
 fnE aR λf75 first75 be=>
 zQ5 prog f75=true/\Calls prog f75 (first75.toList ++ (([.string dN]:List Value) ++ be.toList)).toArray yH λe w89=>
 ∃am:Int,∃ao:Int,∃ap:ByteArray,∃aG:Bool,e=.returned (.tuple #[.agg #[.int .i64 am,.int .i64 ao,.string ap],.bool aG])/\
 stA prog 73 (⟨aO,0,none⟩:Addr) #[.int .i64 am,.int .i64 ao,.string ap] w89 λqk=>
 zKu K p6 b9 aG aO qk))/\(
 alE (.cells #[.int .i64 0,.int .i64 0,.string (⟨#[]⟩:ByteArray)] 73) bF λaO oG=>
 ∃S12:World->Prop,S12 oG/\(∀u,S12 u->S1 u)/\
 (
 Calls prog 145 #[] oG λe qU=>
 ∃eV:Option Nat,e=.returned (.map eV)/\
 ∃S13:World->Prop,S13 qU/\(∀u,S13 u->S12 u)/\
 ∃bL:Int,∃bM:Int,∃bN:Int,∃bO:Value,∃aR:Value,(∀w',S13 w'->(Instr.lookup 176 (.map eV) (.int .i64 kY) false).run prog w'=.ok (.agg #[.int .u8 bL,.int .i64 bM,.int .i64 bN,bO,aR]) w')/\
 ∃dN:ByteArray,∃oH:World,(convert 22 9 (.slice bG.a bG.len bG.cap)).run prog qU=.ok (.string dN) oH/\
 ∃S14:World->Prop,S14 oH/\(∀u,S14 u->S13 u)/\
 fnE aR λf75 first75 be=>
 zQ5 prog f75=true/\Calls prog f75 (first75.toList ++ (([.string dN]:List Value) ++ be.toList)).toArray oH λe wu=>
 ∃am:Int,∃ao:Int,∃ap:ByteArray,∃aG:Bool,e=.returned (.tuple #[.agg #[.int .i64 am,.int .i64 ao,.string ap],.bool aG])/\
 stA prog 73 (⟨aO,0,none⟩:Addr) #[.int .i64 am,.int .i64 ao,.string ap] wu λjQ=>
 zKu K p6 b9 aG aO jQ)/\(
 ∃dN:ByteArray,∃oI:World,(convert 22 9 (.slice bG.a bG.len bG.cap)).run prog oG=.ok (.string dN) oI/\
 ∃S15:World->Prop,S15 oI/\(∀u,S15 u->S12 u)/\
 Calls prog 145 #[] oI λe qV=>
 ∃eV:Option Nat,e=.returned (.map eV)/\
 ∃S16:World->Prop,S16 qV/\(∀u,S16 u->S15 u)/\
 ∃bL:Int,∃bM:Int,∃bN:Int,∃bO:Value,∃aR:Value,(∀w',S16 w'->(Instr.lookup 176 (.map eV) (.int .i64 kY) false).run prog w'=.ok (.agg #[.int .u8 bL,.int .i64 bM,.int .i64 bN,bO,aR]) w')/\
 fnE aR λf75 first75 be=>
 zQ5 prog f75=true/\Calls prog f75 (first75.toList ++ (([.string dN]:List Value) ++ be.toList)).toArray qV λe wA=>
 ∃am:Int,∃ao:Int,∃ap:ByteArray,∃aG:Bool,e=.returned (.tuple #[.agg #[.int .i64 am,.int .i64 ao,.string ap],.bool aG])/\
 stA prog 73 (⟨aO,0,none⟩:Addr) #[.int .i64 am,.int .i64 ao,.string ap] wA λjR=>
 zKu K p6 b9 aG aO jR)))
theorem yWw {K:Bool->World->Prop} {p6:Option Addr} {b9:Bool} {cq:Nat} {bG:SV} {w9:World} {f:Fld} {part:List UInt8} (hb:w9.heap[cq]?=some (.cells #[.string f.name,.int .i64 f.kind,.int .i64 f.width,.bool f.null] 129)) (hf:zQo f=true) (hl:ByV w9 bG part)
  (tail:∀(wz:World) (aO:Nat),Pu w9 wz->wz.heap[aO]?=some (.cells #[.int .i64 (zJh f.kind part).kind,.int .i64 (zJh f.kind part).n,.string (zJh f.kind part).s] 73)->zKu K p6 b9 (okS f.kind part) aO wz):yJZ K p6 b9 cq bG w9:=by
 obtain⟨R5,hk5,hbody,hcall0⟩:=xJf hf
 have hsz:(bs part).size<=140737488355328:=by rw[zQ8,←hl.len];exact hl.lim
 have hcall:∀w,Calls prog R5.rd #[.string (bs part)] w λe w'=>e=.returned (.tuple #[zJ5 (zJh f.kind part),.bool (okS f.kind part)])/\Pu w w':=λw=>by
  have:=hcall0 (bs part) hsz w
  rw[zQN]at this;exact this
 have kin:∀wz,Calls prog 145 #[] wz λe w'=>∃m:Nat,e=.returned (.map (some m))/\(∀u,Pu w' u->(Instr.lookup 176 (.map (some m)) (.int .i64 f.kind) false).run prog u=.ok (.agg #[.int .u8 R5.letter,.int .i64 R5.least,.int .i64 R5.most,.func (.func R5.wr) #[] #[],.func (.func R5.rd) #[] #[]]) u)/\Pu wz w':=λwz=>by
  refine(zVf wz).mono ?_
  rintro e w' ⟨m,rfl,hm,_,hp⟩
  refine⟨m,rfl,λu hu=>?_,hp⟩
  have:=zW4 (hm.pu hu) f.kind false
  rw[hk5]at this;exact this
 have conv:∀{wz},Pu w9 wz->(convert 22 9 (.slice bG.a bG.len bG.cap)).run prog wz=.ok (.string (bs part)) wz:=λ{wz} h=>yZQ (hl.pu h)
 -- the call, then the variable
 have ca:∀{wz:World},Pu w9 wz->Calls prog R5.rd #[.string (bs part)] wz λe cM=>∃am:Int,∃ao:Int,∃ap:ByteArray,∃aG:Bool,e=.returned (.tuple #[.agg #[.int .i64 am,.int .i64 ao,.string ap],.bool aG])/\
   alE (.cells #[.int .i64 0,.int .i64 0,.string (⟨#[]⟩:ByteArray)] 73) cM λaO bT=>stA prog 73 (⟨aO,0,none⟩:Addr) #[.int .i64 am,.int .i64 ao,.string ap] bT λbX=>zKu K p6 b9 aG aO bX:=λ{wz} hz=>by
  refine(hcall wz).mono ?_
  rintro e w1 ⟨rfl,ar⟩
  exact⟨_,_,_,_,rfl,yQr rfl s25.symm rfl λw2 aq rM aN=>tail w2 _ ((hz.trans ar).trans aq) aN⟩
 -- the call, behind the variable
 have ac:∀{wz:World} {aO:Nat},Pu w9 wz->wz.heap[aO]?=some (.cells #[.int .i64 0,.int .i64 0,.string (⟨#[]⟩:ByteArray)] 73)->w9.heap.size<=aO->Calls prog R5.rd #[.string (bs part)] wz λe cM=>∃am:Int,∃ao:Int,∃ap:ByteArray,∃aG:Bool,e=.returned (.tuple #[.agg #[.int .i64 am,.int .i64 ao,.string ap],.bool aG])/\
   stA prog 73 (⟨aO,0,none⟩:Addr) #[.int .i64 am,.int .i64 ao,.string ap] cM λbX=>zKu K p6 b9 aG aO bX:=λ{wz aO} hz iB hr=>by
  refine(hcall wz).mono ?_
  rintro e w1 ⟨rfl,ar⟩
  exact⟨_,_,_,_,rfl,zQg (ar.blk iB) s25.symm rfl rfl λw2 aN fW rM=>tail w2 _ ((hz.trans ar).andNew fW λi hi=>by omega) aN⟩
 refine zQc λbF dQ _=>⟨λu=>Pu bF u,Pu.refl _,f.kind,λu hu=>cl (hu.blk (dQ.blk hb)) 1,(kin bF).mono ?_,?_,alB λw2 aq aN=>?_⟩
 ·rintro e w1 ⟨m,rfl,hm,ar⟩
  have q1:=dQ.trans ar
  refine⟨some m,rfl,λu=>Pu w1 u,Pu.refl _,λu hu=>ar.trans hu,_,_,_,_,_,hm,⟨bs part,w1,conv q1,λu=>Pu w1 u,Pu.refl _,λu hu=>hu,⟨hbody,ca q1⟩,alB λw2 aq aN=>⟨λu=>Pu w2 u,Pu.refl _,λu hu=>aq.trans hu,hbody,ac (q1.trans aq) aN q1.size⟩⟩,alB λw2 aq aN=>?_⟩
  exact⟨λu=>Pu w2 u,Pu.refl _,λu hu=>aq.trans hu,bs part,w2,conv (q1.trans aq),λu=>Pu w2 u,Pu.refl _,λu hu=>hu,hbody,ac (q1.trans aq) aN q1.size⟩
 ·refine⟨bs part,bF,conv dQ,λu=>Pu bF u,Pu.refl _,λu hu=>hu,(kin bF).mono ?_,alB λw2 aq aN=>?_⟩
  ·rintro e w1 ⟨m,rfl,hm,ar⟩
   have q1:=dQ.trans ar
   exact⟨some m,rfl,λu=>Pu w1 u,Pu.refl _,λu hu=>ar.trans hu,_,_,_,_,_,hm,⟨hbody,ca q1⟩,alB λw2 aq aN=>⟨λu=>Pu w2 u,Pu.refl _,λu hu=>aq.trans hu,hbody,ac (q1.trans aq) aN q1.size⟩⟩
  ·refine⟨λu=>Pu w2 u,Pu.refl _,λu hu=>aq.trans hu,(kin w2).mono ?_⟩
   rintro e w1 ⟨m,rfl,hm,ar⟩
   exact⟨some m,rfl,λu=>Pu w1 u,Pu.refl _,λu hu=>ar.trans hu,_,_,_,_,_,hm,hbody,ac ((dQ.trans aq).trans ar) (ar.blk aN) dQ.size⟩
 ·refine⟨λu=>Pu w2 u,Pu.refl _,λu hu=>aq.trans hu,(kin w2).mono ?_,bs part,w2,conv (dQ.trans aq),λu=>Pu w2 u,Pu.refl _,λu hu=>hu,(kin w2).mono ?_⟩
  ·rintro e w1 ⟨m,rfl,hm,ar⟩
   exact⟨some m,rfl,λu=>Pu w1 u,Pu.refl _,λu hu=>ar.trans hu,_,_,_,_,_,hm,bs part,w1,conv ((dQ.trans aq).trans ar),λu=>Pu w1 u,Pu.refl _,λu hu=>hu,hbody,ac ((dQ.trans aq).trans ar) (ar.blk aN) dQ.size⟩
  ·rintro e w1 ⟨m,rfl,hm,ar⟩
   exact⟨some m,rfl,λu=>Pu w1 u,Pu.refl _,λu hu=>ar.trans hu,_,_,_,_,_,hm,hbody,ac ((dQ.trans aq).trans ar) (ar.blk aN) dQ.size⟩
theorem yZ0 {w:World} {l:List Fld} {s t:SV} {d:List UInt8} (h:zX3 w s l) (hall:l.all zQo=true) (iP:l.length<=16) (ht:ByV w t d) (hd:(d.length:Int)=zXG l) :
  Calls prog 163 #[.slice s.a s.len s.cap,.slice t.a t.len t.cap] w λe w'=>∃(g ok:Bool) (vs:List Val) (q:SV),e=.returned (.tuple #[.agg #[.bool g,.slice q.a q.len q.cap],.bool ok])/\zJH w w' q vs/\vs.length=l.length/\(∀v ∈ vs,zJe v.kind/\zJe v.n)/\Pu w w'/\
   ∀(r:Rec) (p:Int),zX7 l p r.v->zJI zQv l r=d->g=r.gone/\vs=r.v/\ok=true:=by
 have hsl:=h.len
 have htl:=ht.len
 have hnl:=zYc l
 have hwide:=zJp (WOk.of hall)
 have hlw:(l.map (·.width)).sum<=254 * l.length:=hwide.2
 have hd0:0<d.length:=by unfold zXG at hd;omega
 have hdb:(d.length:Int)<=10000:=by unfold zXG at hd;omega
 have hdw:1+zXo l<=d.length:=by unfold zXG at hd;omega
 refine yV7 _ _ w _ (alB λw1 ar aA=>?_)
 obtain⟨b0,sO⟩:=zQK hd0
 obtain⟨a0,ha0,hc0⟩:=(ht.pu ar).get _ _ sO
 refine⟨a0,ha0,by omega,by omega,_,hc0,yQr rfl s46.symm rfl λw2 aq rM aN=>(zWu (h.pu (ar.trans aq))).mono ?_⟩
 rintro e w3 ⟨rfl,au⟩
 refine⟨_,rfl,?_⟩
 have l1:w.heap.size<w1.heap.size:=zQy aA
 have l2:w1.heap.size<w2.heap.size:=zQy aN
 have z3:=au.size
 have xB:zYX w w2 w.heap.size w1.heap.size (((b0.toNat:Nat):Int) == 42) [] w3:=⟨⟨⟨none,0,0⟩,au.blk aN,zJH.nil w2 w3⟩,(aq.trans au).blk aA,z3,(ar.trans aq).trans au,by omega,l2,by omega,Nat.le_refl _,by omega⟩
 rw[zQa (by omega) (by omega)]
 refine zQx l.length (λk u w'=>u.2.2.2=(k:Int)/\u.1=(yQi l k:Nat)/\u.2.1=(zXN l k:Nat)/\∃vs:List Val,vs.length=k/\(∀v ∈ vs,zJe v.kind/\zJe v.n)/\zYX w w2 w.heap.size w1.heap.size (((b0.toNat:Nat):Int) == 42) vs w'/\
   ∀(r:Rec) (p:Int),zX7 l p r.v->zJI zQv l r=d->vs=r.v.take k/\u.2.2.1=true) ⟨rfl,by show(1:Int)+((zXo l:Nat):Int)=_;unfold yQi;simp,rfl,[],rfl,by simp,xB,λr p _ _=>⟨by simp,rfl⟩⟩ ?_
 rintro k J ⟨u1,u2,u3,u4⟩ w4 hk ⟨e4,e1,e2,vs,hvl,sD,st,hcond⟩ hJ
 obtain rfl:u4=(k:Int):=e4
 obtain rfl:u1=(yQi l k:Nat):=e1
 obtain rfl:u2=(zXN l k:Nat):=e2
 have hcond:∀(r:Rec) (p:Int),zX7 l p r.v->zJI zQv l r=d->vs=r.v.take k/\u3=true:=hcond
 have hnk:=yJN l k
 have hfl:=List.length_filter_le (·.null) l
 dsimp only
 refine Br.of (λq=>?_) (λq=>?_)
 ·have aH:k<l.length:=by have:=zQj q;omega
  obtain⟨f,hf⟩:=zQK aH
  have hfB:=List.all_eq_true.1 hall f (List.mem_of_getElem? hf)
  have hwf:=zXq hfB
  have hoff:=xYD hall hf
  obtain⟨a,ha,hi,_,_,_,c0,c1,c2,c3⟩:=zJi (h.pu st.pu) hf
  refine⟨a,ha,by omega,by omega,_,c0,_,c1,_,c2,_,c3,yQr rfl s23.symm rfl λw5 aT ou bq=>⟨_,cl bq 2,_,cl bq 2,?_⟩⟩
  have wQ:=st.on aT
  have ht5:=ht.pu wQ.pu
  obtain⟨bG,e40,h40⟩:=ht5.part3 (lo:=yQi l k) (hi:=yQi l k+f.width.toNat) (by omega) (by omega)
  rw[show yQi l k+f.width.toNat - yQi l k=f.width.toNat by omega]at h40
  have ew:IntKind.i64.wrap (((yQi l k:Nat):Int)+f.width)=((yQi l k+f.width.toNat:Nat):Int):=by rw[zQa (by omega) (by omega)];omega
  rw[ew,zQa (n:=((zXN l k:Nat):Int)+1) (by omega) (by omega)]
  refine⟨bG,w5,e40,_,cl bq 2,_,cl bq 3,?_⟩
  rw[ew]
  have hpart:∀(r:Rec) (p:Int),zX7 l p r.v->zJI zQv l r=d->∀v,r.v[k]?=some v->(d.drop (yQi l k)).take f.width.toNat=zQv f v:=λr p hR hrow v hv=>xZs hall hR hrow hf hv
  generalize hpt:(d.drop (yQi l k)).take f.width.toNat=part at *
  -- behind the value
  have next:∀{nk:Int} {v:Val} {b:Bool} {w':World},nk=(zXN l (k+1):Nat)->zJe v.kind/\zJe v.n->zYX w w2 w.heap.size w1.heap.size (((b0.toNat:Nat):Int) == 42) (vs ++ [v]) w'->
    (∀(r:Rec) (p:Int),zX7 l p r.v->zJI zQv l r=d->u3=true->∀v',r.v[k]?=some v'->v=v'/\b=true)->J (((yQi l k+f.width.toNat:Nat):Int),nk,b,IntKind.i64.wrap ((k:Int)+1)) w':=λ{nk v b w'} q1 q2 q3 q4=>by
   rw[zQa (by omega) (by omega)]
   refine hJ _ _ aH ⟨by dsimp only;omega,by dsimp only;rw[yYu hall hf],q1,vs ++ [v],by simp[hvl],λx hx=>?_,q3,λr p hR hrow=>?_⟩
   ·rcases List.mem_append.1 hx with hx|hx
    ·exact sD x hx
    ·simp at hx;subst hx;exact q2
   ·obtain⟨h1,h2⟩:=hcond r p hR hrow
    obtain⟨v',hv'⟩:=zQK (l:=r.v) (k:=k) (by have:=hR.1;omega)
    obtain⟨h3,h4⟩:=q4 r p hR hrow h2 v' hv'
    exact⟨by rw[zQC hv',←h1,h3],h4⟩
  -- a value that is there
  have reg:∀{nk:Int},nk=(zXN l (k+1):Nat)->(∀(r:Rec) (p:Int),zX7 l p r.v->zJI zQv l r=d->∀v',r.v[k]?=some v'->v'.kind ≠ 0)->
    yJZ (λb w'=>J (((yQi l k+f.width.toNat:Nat):Int),nk,b,IntKind.i64.wrap ((k:Int)+1)) w') (some ⟨w1.heap.size,0,none⟩) u3 w4.heap.size bG w5:=λ{nk} hnk hkind=>by
   refine yWw bq hfB h40 λwz aO hz iB=>?_
   have stz:=wQ.on hz
   refine Br.of (λq1=>xXG stz (v:=zJh f.kind part) iB (by omega) λw' st'=>next hnk (yJT _ _) st' λr p hR hrow hu v' hv'=>?_) (λq1=>xXG stz (v:=zJh f.kind part) iB (by omega) λw' st'=>next hnk (yJT _ _) st' λr p hR hrow hu v' hv'=>?_)
   ·have:=yVl (hR.2 k f v' hf hv') (hkind r p hR hrow v' hv')
    rw[←hpart r p hR hrow v' hv']at this;exact this
   ·rw[q1]at hu;cases hu
  refine Br.of (λq1=>⟨rfl,by decide,?_⟩) (λq1=>reg (by rw[zVe hf,if_neg (by rw[q1];simp)]) λr p hR hrow v' hv' h0=>?_)
  ·have hm1:zXN l k+1<=(l.filter (·.null)).length:=by
    have h1:=zVe hf
    rw[if_pos q1]at h1
    have h2:=yJN l (k+1)
    omega
   have hq:zXN l k / 8<zXo l:=by unfold zXo;omega
   have e1:((zXN l k:Nat):Int).tdiv 8=((zXN l k / 8:Nat):Int):=zKM _ 8
   have e2:((zXN l k:Nat):Int).tmod 8=((zXN l k % 8:Nat):Int):=zW6 _ 8
   rw[e1,e2,zQa (n:=((zXN l k / 8:Nat):Int)) (by omega) (by omega),zQa (n:=1+((zXN l k / 8:Nat):Int)) (by omega) (by omega)]
   obtain⟨bf,hbf⟩:=zQK (l:=d) (k:=1+zXN l k / 8) (by omega)
   obtain⟨af,haf,hcf⟩:=ht5.get _ _ hbf
   refine⟨af,haf,by omega,by omega,_,by rw[show(1+((zXN l k / 8:Nat):Int)).toNat=1+zXN l k / 8 by omega];exact hcf,rfl,by decide,by omega,?_⟩
   rw[zXn,bit_p _ bf.toNat_lt _ (Nat.mod_lt _ (by decide))]
   have enk:((zXN l k:Nat):Int)+1=((zXN l (k+1):Nat):Int):=by rw[zVe hf,if_pos q1];omega
   refine Br.of (λq2=>?_) (λq2=>reg enk λr p hR hrow v' hv' h0=>?_)
   ·obtain⟨q,h6,sv⟩:=wQ.ex
    refine⟨q,cl h6 1,xW2 (v:=noV) wQ h6 sv rfl (by omega) λw' st'=>next enk ⟨⟨by decide,by decide⟩,⟨by decide,by decide⟩⟩ st' λr p hR hrow hu v' hv'=>⟨?_,hu⟩⟩
    have hbit:=yKh hR hrow hf hv' q1 hbf
    rw[q2]at hbit
    have h0:v'.kind=0:=by simpa using hbit.symm
    have hRv:=hR.2 k f v' hf hv'
    cases hRv with
    | nil hv hn=>exact hv.symm
    | truth hk hw hv hn=>rw[hv]at h0;exact absurd h0 (by simp)
    | num hk hw hv hn hl=>rw[hv]at h0;exact absurd h0 (by simp)
    | date hk hw hv hn=>rw[hv]at h0;exact absurd h0 (by simp)
    | text hk hw hv hl hb ht=>rw[hv]at h0;exact absurd h0 (by simp)
    | memo hk hw hv hn=>rw[hv]at h0;exact absurd h0 (by simp)
   ·have hbit:=yKh hR hrow hf hv' q1 hbf
    rw[q2,decide_eq_true h0]at hbit;cases hbit
  ·have hRv:=hR.2 k f v' hf hv'
   cases hRv with
   | nil hv hn=>rw[q1]at hn;cases hn
   | truth hk hw hv hn=>rw[hv]at h0;exact absurd h0 (by simp)
   | num hk hw hv hn hl=>rw[hv]at h0;exact absurd h0 (by simp)
   | date hk hw hv hn=>rw[hv]at h0;exact absurd h0 (by simp)
   | text hk hw hv hl hb ht=>rw[hv]at h0;exact absurd h0 (by simp)
   | memo hk hw hv hn=>rw[hv]at h0;exact absurd h0 (by simp)
 ·have aH:k=l.length:=by have:=zQd q;omega
  subst aH
  obtain⟨q,h6,hq⟩:=st.ex
  have hne:=st.ne
  refine⟨_,cl h6 0,q,cl h6 1,zQg st.b4 s46.symm rfl rfl λw5 bq dq ou=>⟨_,cl bq 0,q,cl bq 1,_,u3,vs,q,rfl,?_,hvl,sD,st.pu.andNew dq λi hi=>by omega,λr p hR hrow=>?_⟩⟩
  ·exact(hq.fr dq λi hi=>by have:=hq.2 i hi;omega).low (by omega)
  ·obtain⟨h1,h2⟩:=hcond r p hR hrow
   refine⟨?_,by rw[h1,List.take_of_length_le (by have:=hR.1;omega)],h2⟩
   rw[xZW hrow sO]
   cases r.gone <;> decide
end Go.Proofs.YtaeecpjhfmcliaaGreatDoor
/- Table: the reference's reading of a row's bytes. No condition. -/
set_option maxHeartbeats 2000000
namespace Go.Proofs.YtaeecpjhfmcliaaGreatDoor
open Go.Sh Go.RowKit Tryz
def w84(K:Int->Int->World->Prop)(l0:SV)(n8 n7:Int)(bT:World):Prop:=
 ∃a21:Addr,l0.a=some a21/\0<=n8/\n8<((l0.len:Nat):Int)/\
 ∃sk:Int,bT.cell? ((a21.add (n8.toNat * 4)).add 2)=some (.int .i64 sk)/\K sk n7 bT
end Go.Proofs.YtaeecpjhfmcliaaGreatDoor
/- Table: rows of fields and of records that a call has made; a field's entry, read by both packages. No condition. -/
set_option maxHeartbeats 1000000
namespace Go.Proofs.YtaeecpjhfmcliaaGreatDoor
open Go.Sh Go.RowKit Tryz
theorem u32':prog.underlying 32=some (.slice 129):=by kernel_rfl
theorem info23:(prog.info? 129).map (λi=>(i.zero,i.size,i.bytes))=some (some (.agg #[.string ⟨#[]⟩,.int .i64 0,.int .i64 0,.bool false]),4,40):=by kernel_rfl
theorem u33:prog.underlying 33=some (.slice 67):=by kernel_rfl
theorem info46:(prog.info? 67).map (λi=>(i.zero,i.size,i.bytes))=some (some (.agg #[.bool false,.slice none 0 0]),2,32):=by kernel_rfl
theorem zZx(f:Fld):(zVV f).length=4:=rfl
def zKz(w0 w:World)(s:SV)(l:List Fld):Prop:=zQl w 129 4 s (l.flatMap zVV)/\∀b ∈ zQe s,w0.heap.size<=b
theorem zKz.len{w0 w:World}{s:SV}{l:List Fld}(h:zKz w0 w s l):s.len=l.length:=h.1.len zZx (by decide)
theorem zKz.pu{w0 w w':World}{s:SV}{l:List Fld}(h:zKz w0 w s l)(hp:Pu w w'):zKz w0 w' s l:=⟨h.1.pu hp,h.2⟩
theorem zKz.fr{B:Nat->Prop}{w0 w w':World}{s:SV}{l:List Fld}(h:zKz w0 w s l)(hf:Fr B w w')(hn:∀k ∈ zQe s,¬B k):zKz w0 w' s l:=⟨h.1.fr hf hn,h.2⟩
theorem zKz.nil(w0 w:World):zKz w0 w ⟨none,0,0⟩ []:=⟨zQl.nil w 129 4,by simp[zQe]⟩
theorem zKz.low{w0 w1 w:World}{s:SV}{l:List Fld}(h:zKz w1 w s l)(hz:w0.heap.size<=w1.heap.size):zKz w0 w s l:=⟨h.1,λb hb=>Nat.le_trans hz (h.2 b hb)⟩
theorem zKz.push {w0 w:World} {s:SV} {l:List Fld} (h:zKz w0 w s l) (hz:w0.heap.size<=w.heap.size) {r:Nat} {f:Fld} {c:Array Value} (hr:w.heap[r]?=some (.cells c 129)) (hc:c=#[.string f.name,.int .i64 f.kind,.int .i64 f.width,.bool f.null]) (hb:l.length<=1000000) :
  ∃(s':SV) (w':World),(Builtin.append_ #[32,32] 32 #[.slice s.a s.len s.cap,.slice (some ⟨r,0,none⟩) 1 1]).run prog w=.ok (.slice s'.a s'.len s'.cap) w'/\zKz w0 w' s' (l ++ [f])/\Fr (· ∈ zQe s) w w':=by
 subst hc
 have h1:=h.len
 obtain⟨s',w',hra,hrow,hf,hblk,_⟩:=zQz (P:=prog) (ty:=32) u32' info23 rfl (by decide) h.1 (A:=some ⟨r,0,none⟩) (m:=1) (c:=1) (news:=zVV f) rfl (λj u hu=>⟨_,rfl,by rw[cl hr];simpa using hu⟩) (λu hu=>by simp[zVV]at hu;rcases hu with rfl|rfl|rfl|rfl <;> rfl) (by omega)
 refine⟨s',w',hra,⟨by simpa using hrow,λb hb=>?_⟩,hf⟩
 rcases hblk b hb with h2|h2
 ·exact h.2 b h2
 ·omega
def F64(l:List Fld):Prop:=∀f ∈ l,zJe f.kind/\zJe f.width
def V64(l:List Val):Prop:=∀v ∈ l,zJe v.kind/\zJe v.n
theorem zKz.rd{w0 w:World}{s:SV}{l:List Fld}(h:zKz w0 w s l)(hb:l.length<=1000000)(oN:F64 l):zX3 w s l:=⟨h.len,h.1.le_cap.1,by have:=h.len;omega,λi f hf=>by
 obtain⟨a,h1,_,c0⟩:=h.1.elem zZx hf (o:=0) rfl
 obtain⟨a1,pA,_,c1⟩:=h.1.elem zZx hf (o:=1) rfl
 obtain⟨a2,h1'',_,c2⟩:=h.1.elem zZx hf (o:=2) rfl
 obtain⟨a3,h1''',_,c3⟩:=h.1.elem zZx hf (o:=3) rfl
 rw[h1]at pA h1'' h1''';cases pA;cases h1'';cases h1'''
 refine⟨a,h1,zVV f,⟨rfl,oN f (List.mem_of_getElem? hf)⟩,λj v hv=>?_⟩
 rcases j with _|_|_|_|j <;> simp[zVV]at hv
 ·subst hv;exact c0
 ·subst hv;exact c1
 ·subst hv;exact c2
 ·subst hv;exact c3⟩
theorem zJH.rdS{w0 w:World}{s:SV}{l:List Val}(h:zJH w0 w s l)(hb:l.length<=1000000)(oN:V64 l):zX3 w s l:=⟨h.len,h.1.le_cap.1,by have:=h.len;omega,λi f hf=>by
 obtain⟨a,h1,_,c0⟩:=h.1.elem zX6 hf (o:=0) rfl
 obtain⟨a1,pA,_,c1⟩:=h.1.elem zX6 hf (o:=1) rfl
 obtain⟨a2,h1'',_,c2⟩:=h.1.elem zX6 hf (o:=2) rfl
 rw[h1]at pA h1'';cases pA;cases h1''
 refine⟨a,h1,zVt f,⟨rfl,oN f (List.mem_of_getElem? hf)⟩,λj v hv=>?_⟩
 rcases j with _|_|_|j <;> simp[zVt]at hv
 ·subst hv;exact c0
 ·subst hv;exact c1
 ·subst hv;exact c2⟩
def yKp(x:Bool × SV):List Value:=[.bool x.1,.slice x.2.a x.2.len x.2.cap]
theorem zQL(x:Bool × SV):(yKp x).length=2:=rfl
theorem zQr{w:World}{e e':TypeId}{sz sz':Nat}{s s':SV}{vs vs':List Value}(h:zQl w e sz s vs)(h':zQl w e' sz' s' vs')(hne:e ≠ e'):∀k ∈ zQe s,¬k ∈ zQe s':=λk hk hk'=>by
 obtain⟨_,rfl|⟨g,cur,h3,h4,_⟩⟩:=h
 ·simp[zQe]at hk
 obtain⟨_,rfl|⟨g',cur',h3',h4',_⟩⟩:=h'
 ·simp[zQe]at hk'
 simp[zQe,h3]at hk
 simp[zQe,h3']at hk'
 subst hk;subst hk'
 rw[h4]at h4'
 simp only[Option.some.injEq,Obj.cells.injEq]at h4'
 exact hne h4'.2.1
def zJY(w0 w:World)(s:SV)(rs:List Rec):Prop:=∃qs:List (Bool × SV),zQl w 67 2 s (qs.flatMap yKp)/\(∀b ∈ zQe s,w0.heap.size<=b)/\qs.length=rs.length/\∀(i:Nat) (r:Rec) (x:Bool × SV),rs[i]?=some r->qs[i]?=some x->x.1=r.gone/\zJH w0 w x.2 r.v
theorem zJY.len{w0 w:World}{s:SV}{rs:List Rec}(h:zJY w0 w s rs):s.len=rs.length:=by
 obtain⟨qs,h1,_,h3,_⟩:=h
 rw[h1.len zQL (by decide),h3]
theorem zJY.own{w0 w:World}{s:SV}{rs:List Rec}(h:zJY w0 w s rs):∀b ∈ zQe s,w0.heap.size<=b:=h.choose_spec.2.1
theorem zJY.pu{w0 w w':World}{s:SV}{rs:List Rec}(h:zJY w0 w s rs)(hp:Pu w w'):zJY w0 w' s rs:=by
 obtain⟨qs,h1,h2,h3,h4⟩:=h
 exact⟨qs,h1.pu hp,h2,h3,λi r x hr hx=>⟨(h4 i r x hr hx).1,(h4 i r x hr hx).2.pu hp⟩⟩
theorem zJY.one {w0 w w':World} {b:Nat} {s:SV} {rs:List Rec} (h:zJY w0 w s rs) (hf:Fr (·=b) w w') (hb:b<w0.heap.size):zJY w0 w' s rs:=by
 obtain⟨qs,h1,h2,h3,h4⟩:=h
 exact⟨qs,h1.fr hf λk hk e=>by have:=h2 k hk;omega,h2,h3,λi r x hr hx=>⟨(h4 i r x hr hx).1,(h4 i r x hr hx).2.fr hf λk hk e=>by have:=(h4 i r x hr hx).2.2 k hk;omega⟩⟩
theorem zJY.low{w0 w1 w:World}{s:SV}{rs:List Rec}(h:zJY w1 w s rs)(hz:w0.heap.size<=w1.heap.size):zJY w0 w s rs:=by
 obtain⟨qs,h1,h2,h3,h4⟩:=h
 exact⟨qs,h1,λb hb=>Nat.le_trans hz (h2 b hb),h3,λi r x hr hx=>⟨(h4 i r x hr hx).1,(h4 i r x hr hx).2.low hz⟩⟩
theorem zJY.nil(w0 w:World):zJY w0 w ⟨none,0,0⟩ []:=⟨[],zQl.nil w 67 2,by simp[zQe],rfl,λi r x hr=>by simp at hr⟩
theorem zJY.push {w0 w:World} {s q:SV} {rs:List Rec} {g:Bool} {vs:List Val} (h:zJY w0 w s rs) (hz:w0.heap.size<=w.heap.size) (hq:zJH w0 w q vs) {r:Nat} {c:Array Value} (hr:w.heap[r]?=some (.cells c 67)) (hc:c=#[.bool g,.slice q.a q.len q.cap]) (hb:rs.length<=1000000) :
  ∃(s':SV) (w':World),(Builtin.append_ #[33,33] 33 #[.slice s.a s.len s.cap,.slice (some ⟨r,0,none⟩) 1 1]).run prog w=.ok (.slice s'.a s'.len s'.cap) w'/\zJY w0 w' s' (rs ++ [⟨g,vs⟩])/\Fr (· ∈ zQe s) w w':=by
 subst hc
 have h1:=h.len
 obtain⟨qs,r1,r2,r3,r4⟩:=h
 obtain⟨s',w',hra,hrow,hf,hblk,_⟩:=zQz (P:=prog) (ty:=33) u33 info46 rfl (by decide) r1 (A:=some ⟨r,0,none⟩) (m:=1) (c:=1) (news:=yKp (g,q)) rfl (λj u hu=>⟨_,rfl,by rw[cl hr];simpa[yKp] using hu⟩) (λu hu=>by simp[yKp]at hu;rcases hu with rfl|rfl <;> rfl) (by omega)
 refine⟨s',w',hra,⟨qs ++ [(g,q)],by simpa using hrow,λb hb=>?_,by simp[r3],λi rr x jg hx=>?_⟩,hf⟩
 ·rcases hblk b hb with h2|h2
  ·exact r2 b h2
  ·omega
 ·rcases Nat.lt_trichotomy i rs.length with hi|hi|hi
  ·rw[List.getElem?_append_left hi]at jg
   rw[List.getElem?_append_left (by omega)]at hx
   obtain⟨e1,e2⟩:=r4 i rr x jg hx
   exact⟨e1,e2.fr hf (zQr e2.1 r1 (by decide))⟩
  ·subst hi
   rw[List.getElem?_append_right (Nat.le_refl _),Nat.sub_self]at jg
   rw[←r3,List.getElem?_append_right (Nat.le_refl _),Nat.sub_self]at hx
   simp at jg hx;subst jg hx
   exact⟨rfl,hq.fr hf (zQr hq.1 r1 (by decide))⟩
  ·rw[List.getElem?_eq_none (by simp;omega)]at jg;cases jg
def R64(rs:List Rec):Prop:=∀r ∈ rs,V64 r.v/\r.v.length<=1000000
theorem zJY.rd{w0 w:World}{s:SV}{rs:List Rec}(h:zJY w0 w s rs)(hb:rs.length<=1000000)(oN:R64 rs):zX3 w s rs:=by
 have hl:=h.len
 obtain⟨qs,r1,r2,r3,r4⟩:=h
 refine⟨hl,r1.le_cap.1,by omega,λi r hr=>?_⟩
 obtain⟨x,hx⟩:=zQK (l:=qs) (k:=i) (by have:=(List.getElem?_eq_some_iff.1 hr).1;omega)
 obtain⟨e1,e2⟩:=r4 i r x hr hx
 obtain⟨a,h1,_,c0⟩:=r1.elem zQL hx (o:=0) rfl
 obtain⟨a1,pA,_,c1⟩:=r1.elem zQL hx (o:=1) rfl
 rw[h1]at pA;cases pA
 obtain⟨q1,q2⟩:=oN r (List.mem_of_getElem? hr)
 refine⟨a,h1,_,⟨x.2,rfl,e2.rdS q2 q1⟩,λj v hv=>?_⟩
 rcases j with _|_|j <;> simp at hv
 ·subst hv;rw[←e1];exact c0
 ·subst hv;exact c1
def yQd(l:List UInt8):List UInt8:=(l.reverse.dropWhile (· == 0)).reverse
theorem xYT(s:ByteArray)(hs:s.size<=140737488355328)(w:World):Calls prog 119 #[.string s,.string ⟨#[0]⟩] w λe w'=>e=.returned (.string (bs (yQd s.data.toList)))/\Pu w w':=
 (Any.strings_TrimRight_one Tryz.lays162 s 0 (by decide) w (by omega)).mono λe w' ⟨h1,h2⟩=>⟨h1,h2 ▸ Pu.refl _⟩
theorem zWc(l:List UInt8)(hl:∀b ∈ l,b ≠ 0)(j:Nat):yQd (l ++ List.replicate j 0)=l:=by
 unfold yQd
 rw[List.reverse_append,List.reverse_replicate]
 have e1:∀(j:Nat) (x:List UInt8),(List.replicate j 0 ++ x).dropWhile (· == 0)=x.dropWhile (· == 0):=by
  intro j x
  induction j with
  | zero=>rfl
  | succ j ih=>rw[List.replicate_succ,List.cons_append,List.dropWhile_cons];simp only[beq_self_eq_true,if_true];exact ih
 rw[e1]
 have e2:l.reverse.dropWhile (· == 0)=l.reverse:=by
  cases h:l.reverse with
  | nil=>rfl
  | cons a r=>
   have ha:a ∈ l:=by rw[←List.mem_reverse,h];simp
   rw[List.dropWhile_cons,if_neg (by simpa using hl a ha)]
 rw[e2,List.reverse_reverse]
theorem xZ5(l:List UInt8):(yQd l).length<=l.length:=by
 unfold yQd
 have h:=List.IsSuffix.length_le (List.dropWhile_suffix (· == (0:UInt8)) (l:=l.reverse))
 simpa using h
theorem zVh{f:Fld}(h:zQo f=true):∀b ∈ f.name.data.toList,b ≠ 0:=λb hb=>by
 unfold zQo zZr at h
 simp only[Bool.and_eq_true]at h
 have h1:=List.all_eq_true.1 h.1.1.2 b hb
 intro e;subst e;revert h1;decide
theorem zW2{n:Int}(h:0<=n/\n<=255):(((zZ6 n).toNat:Nat):Int)=n:=by
 unfold zZ6
 have:(UInt8.ofNat (n % 256).toNat).toNat=(n % 256).toNat:=by simp;omega
 rw[this];omega
theorem zWe{f:Fld}(hf:zQo f=true){d:List UInt8}(hd:zQJ f=d):d.take 10=f.name.data.toList ++ List.replicate (10 - f.name.size) 0/\d[10]?=some (zWU f.kind)/\d[11]?=some (zZ6 f.width)/\d[12]?=some (xXm f.null):=by
 obtain⟨_,mV,_⟩:=zQZ hf
 have hl:(f.name.data.toList ++ List.replicate (10 - f.name.size) (0:UInt8)).length=10:=by rw[List.length_append,zQ2,List.length_replicate];omega
 subst hd
 unfold zQJ
 refine⟨?_,?_,?_,?_⟩
 ·rw[List.take_append_of_le_length (by omega),List.take_of_length_le (by omega)]
 ·rw[List.getElem?_append_right (by omega),hl];rfl
 ·rw[List.getElem?_append_right (by omega),hl];rfl
 ·rw[List.getElem?_append_right (by omega),hl];rfl
theorem yJm{k:Int}{K:K5}(h:zXb k=some K):(k,K) ∈ zZd:=AL.get_mem h
theorem yXk:∀p ∈ zZd,∀q ∈ zZd,p.2.letter=q.2.letter->p.1=q.1:=by decide
theorem xYI:∀p ∈ zZd,zJe p.1:=λp hp=>by
 have:∀p ∈ zZd,0<=p.1/\p.1<=5:=by decide
 have:=this p hp
 exact⟨by omega,by omega⟩
def KindSo (b:UInt8) (kd:Int) (todo:List (Int × K5)):Prop:=(∀p ∈ zZd,p.2.letter=((b.toNat:Nat):Int)->p ∈ todo∨kd=p.1)/\(kd=0∨∃p ∈ zZd,p.2.letter=((b.toNat:Nat):Int)/\kd=p.1)
theorem yZP{w:World}{t:SV}{d:List UInt8}(ht:ByV w t d)(hd:d.length=16):Calls prog 160 #[.slice t.a t.len t.cap] w λe w'=>∃f':Fld,e=.returned (zYY f')/\zJe f'.kind/\zJe f'.width/\f'.name.size<=10/\Pu w w'/\∀f,zQo f=true->zQJ f=d->f'=f:=by
 have htl:=ht.len
 have htc:=ht.cap
 obtain⟨dR,mV⟩:=zQK (l:=d) (k:=10) (by omega)
 obtain⟨pJ,pB⟩:=zQK (l:=d) (k:=11) (by omega)
 obtain⟨cL,mT⟩:=zQK (l:=d) (k:=12) (by omega)
 have iU:=dR.toNat_lt
 have dx:=pJ.toNat_lt
 refine yK7 _ w _ (alB λw1 ar aA=>zQc λw2 aq _=>?_)
 have aE:=ar.trans aq
 obtain⟨dI,ha11,hc11⟩:=(ht.pu aE).get _ _ pB
 obtain⟨jj,ha12,hc12⟩:=(ht.pu aE).get _ _ mT
 have hsub:∀{wz},Pu w2 wz->(convert 22 9 (.slice (if t.cap=0 then t.a else t.a.map (λx=>x.add (0 * 1))) ((10:Int).toNat - 0) (t.cap - 0))).run prog wz=.ok (.string (bs (d.take 10))) wz:=λ{wz} hz=>by
  have h1:=(ht.pu (aE.trans hz)).sub (lo:=0) (hi:=10) (by omega) (by omega)
  rw[List.drop_zero]at h1
  exact yZQ h1
 have hl10:(bs (d.take 10)).size=10:=by rw[zQ8,List.length_take];omega
 have trim:∀wz,Calls prog 119 #[.string (bs (d.take 10)),.string (⟨#[0]⟩:ByteArray)] wz λe w'=>e=.returned (.string (bs (yQd (d.take 10))))/\Pu wz w':=λwz=>by
  have:=xYT (bs (d.take 10)) (by omega) wz
  rw[zQN]at this;exact this
 have hnm:(bs (yQd (d.take 10))).size<=10:=by
  have:=xZ5 (d.take 10)
  rw[List.length_take]at this
  rw[zQ8];omega
 have r2lt:w.heap.size<w1.heap.size:=zQy aA
 have z2:=aq.size
 -- behind the variable's first values
 have main:∀{wz:World} {r3:Nat},Pu w2 wz->w2.heap.size<=r3->wz.heap[r3]?=some (.cells #[.string (bs (yQd (d.take 10))),.int .i64 0,.int .i64 (IntKind.i64.wrap ((pJ.toNat:Nat):Int)),.bool (((cL.toNat:Nat):Int) == 1)] 129)->
   Calls prog 145 #[] wz λe dU=>∃qT:Option Nat,e=.returned (.map qT)/\∃nC:Option Addr,∃dw:World,(Instr.range 176 (.map qT)).run prog dU=.ok (.pointer nC) dw/\
    yZs (λe w'=>∃f':Fld,e=.returned (zYY f')/\zJe f'.kind/\zJe f'.width/\f'.name.size<=10/\Pu w w'/\∀f,zQo f=true->zQJ f=d->f'=f) t (some (⟨w.heap.size,0,none⟩:Addr)) (some (⟨r3,0,none⟩:Addr)) nC [] dw:=λ{wz r3} hz hr3 bo=>by
  rw[zQa (n:=((pJ.toNat:Nat):Int)) (by omega) (by omega)]at bo
  refine(zVf wz).mono ?_
  rintro e w3 ⟨m,rfl,hm,hml,au⟩
  obtain⟨w4,e4,hit4,aK,xz⟩:=hm.range (t:=176) xYt
  refine⟨some m,rfl,_,w4,e4,?_⟩
  have b3:=(au.trans aK).blk bo
  have l3:r3<wz.heap.size:=zQy bo
  have z3:=au.size
  have zz:=hz.size
  have p4:Pu w2 w4:=(hz.trans au).trans aK
  refine xZ1 (σ:=Unit) zZd.length (λn _ w'=>∃(todo:List (Int × K5)) (kd:Int),todo.length=n/\(∀p ∈ todo,p ∈ zZd)/\zXU w' yJv zYQ w3.heap.size m zZd todo/\KindSo dR kd todo/\w4.heap.size<=w'.heap.size/\Pu w2 w'/\
   w'.heap[r3]?=some (.cells #[.string (bs (yQd (d.take 10))),.int .i64 kd,.int .i64 ((pJ.toNat:Nat):Int),.bool (((cL.toNat:Nat):Int) == 1)] 129)) ⟨zZd,0,rfl,λp hp=>hp,hit4,⟨λp hp _=>.inl hp,.inl rfl⟩,Nat.le_refl _,p4,b3⟩ ?_
  rintro n J _ w5 ⟨todo,kd,hn,hall,hit,⟨hk1,aH⟩,hz5,aT,bq⟩ hJ
  rcases hit.next (P:=prog) 0 with⟨hnil,hr⟩|⟨p,hpm,w6,hr,jf,xC,hit6,hen⟩
  ·refine .inl ⟨w5,hr,?_⟩
   subst hnil
   refine⟨_,cl bq 0,_,cl bq 1,_,cl bq 2,_,cl bq 3,zQg (aT.blk (aq.blk aA)) s23.symm rfl rfl λw6 gh jf xC=>⟨_,cl gh 0,_,cl gh 1,_,cl gh 2,_,cl gh 3,⟨bs (yQd (d.take 10)),kd,((pJ.toNat:Nat):Int),((cL.toNat:Nat):Int) == 1⟩,rfl,?_,⟨by show _<=((pJ.toNat:Nat):Int);omega,by show((pJ.toNat:Nat):Int)<=_;omega⟩,hnm,(aE.trans aT).andNew jf λi hi=>by omega,λf hf hd2=>?_⟩⟩
   ·rcases aH with h|⟨p,hp,_,h⟩
    ·show zJe kd;rw[h];exact⟨by decide,by decide⟩
    ·show zJe kd;rw[h];exact xYI p hp
   ·obtain⟨e1,e2,e3,e4'⟩:=zWe hf hd2
    obtain⟨_,_,K,hK,hKl⟩:=zQZ hf
    rw[mV]at e2;rw[pB]at e3;rw[mT]at e4'
    have e2:=Option.some.inj e2
    have e3:=Option.some.inj e3
    have e4':=Option.some.inj e4'
    have hwf:=zXq hf
    rcases hk1 (f.kind,K) (yJm hK) (by rw[e2];exact hKl)with h|h
    ·cases h
    obtain⟨fn,fk,fw,fnl⟩:=f
    simp only at *
    congr 1
    ·rw[e1,zWc _ (zVh hf),yJ7]
    ·rw[e3];exact zW2 (by omega)
    ·rw[e4'];cases fnl <;> decide
  ·refine .inr ⟨_,_,w6,hr,_,_,w6,hen,?_⟩
   simp only[xYC,zYQ,xYs,dHd_mk,xYg]
   have gh:=jf.blk bq (show ¬r3=w3.heap.size by omega)
   have bE:Pu w2 w6:=aT.andNew jf λi hi=>by omega
   refine yQr rfl s102.symm (xYK rfl rfl) λw7 cy hs7 ko=>zQc λw8 bW _=>?_
   have p8:=(bE.trans cy).trans bW
   obtain⟨dy,sE,sF⟩:=(ht.pu (aE.trans p8)).get _ _ mV
   have b8:=(cy.trans bW).blk gh
   have hit8:=hit6.fr (Fr.pu (cy.trans bW):Fr (λ_=>False) w6 w8) (λh=>h) (λh=>h)
   have hlen:=AL.length_del hpm hit.nodup
   have hperm:=AL.perm_del hpm hit.nodup
   have vR:∀q ∈ AL.del todo p.1,q ∈ zZd:=λq hq=>hall q (hperm.symm.subset (List.mem_cons_of_mem _ hq))
   have z6:=xC
   have z78:=(cy.trans bW).size
   refine⟨_,cl0 (bW.blk ko),dy,sE,by omega,by omega,_,sF,Br.of (λq=>?_) (λq=>?_)⟩
   ·have hq:p.2.letter=((dR.toNat:Nat):Int):=zQD q
    show st1 ((⟨r3,0,none⟩:Addr).add 1) _ w8 _
    rw[zQs]
    refine zQu b8 (by simp) λw9 hw9 nU=>?_
    have pz:Fr (·=r3) w8 w9:=by rw[hw9];exact Fr.cell w8 _ _ _
    have z9:w9.heap.size=w8.heap.size:=by rw[hw9];simp
    refine hJ _ () w9 (by omega) ⟨AL.del todo p.1,p.1,rfl,vR,hit8.fr pz (by omega) (by omega),⟨λq' hq' hl'=>.inr (yXk p (hall p hpm) q' hq' (by rw[hq,hl'])),.inr ⟨p,hall p hpm,hq,rfl⟩⟩,by omega,p8.andNew pz λi hi=>by omega,nU⟩
   ·have hq:p.2.letter ≠ ((dR.toNat:Nat):Int):=zQm q
    refine hJ _ () w8 (by omega) ⟨AL.del todo p.1,kd,rfl,vR,hit8,⟨λq' hq' hl'=>?_,aH⟩,by omega,p8,b8⟩
    rcases hk1 q' hq' hl' with h|h
    ·rcases List.mem_cons.1 (hperm.subset h)with h|h
     ·subst h;exact absurd hl' hq
     ·exact .inl h
    ·exact .inr h
 refine⟨λu=>Pu w2 u,Pu.refl _,by omega,by omega,by omega,dI,ha11,by omega,by omega,_,λu hu=>hu.cell hc11,jj,ha12,by omega,by omega,_,λu hu=>hu.cell hc12,⟨bs (d.take 10),w2,hsub (Pu.refl _),Pu.refl _,(trim w2).mono ?_,alB λw3 au bo=>⟨au,(trim w3).mono ?_⟩⟩,alB λw3 au bo=>⟨au,bs (d.take 10),w3,hsub au,au,(trim w3).mono ?_⟩⟩
 ·rintro e w3 ⟨rfl,au⟩
  exact⟨_,rfl,au,alB λw4 aK cI=>⟨au.trans aK,zQg cI s23.symm rfl rfl λw5 bq dq ou=>main ((au.trans aK).andNew dq λi hi=>by have:=au.size;omega) (au.size) bq⟩⟩
 ·rintro e w4 ⟨rfl,aK⟩
  exact⟨_,rfl,au.trans aK,zQg (aK.blk bo) s23.symm rfl rfl λw5 bq dq ou=>main ((au.trans aK).andNew dq λi hi=>by omega) (Nat.le_refl _) bq⟩
 ·rintro e w4 ⟨rfl,aK⟩
  exact⟨_,rfl,au.trans aK,zQg (aK.blk bo) s23.symm rfl rfl λw5 bq dq ou=>main ((au.trans aK).andNew dq λi hi=>by omega) (Nat.le_refl _) bq⟩
end Go.Proofs.YtaeecpjhfmcliaaGreatDoor
/- Table: parts of a table's bytes; a table that a call makes. No condition. -/
set_option maxHeartbeats 1000000
namespace Go.Proofs.YtaeecpjhfmcliaaGreatDoor
open Go.Sh Go.RowKit Tryz
theorem yJF{l:List Fld}(h:l.all zQo=true):(l.flatMap zQJ).length=16 * l.length:=by
 induction l with
 | nil=>rfl
 | cons f l ih=>
  rw[List.flatMap_cons,List.length_append,zZp (zQZ (List.all_eq_true.1 h f (by simp))).2.1,ih (List.all_eq_true.2 λg hg=>List.all_eq_true.1 h g (by simp[hg])),List.length_cons]
  omega
def zWX(u:Tbl):List UInt8:=[67,zZ6 u.page] ++ zVL u.recs.length 4 ++ zVL (13+16 * u.fields.length) 2 ++ zVL (zXG u.fields).toNat 2 ++ [zZ6 u.fields.length,0]
theorem zWy(u:Tbl):(zWX u).length=12:=by unfold zWX;simp[zXm]
theorem yZd(u:Tbl):zQk u=zWX u ++ (u.fields.flatMap zQJ ++ ([13] ++ (u.recs.flatMap (zJI zQv u.fields) ++ [26]))):=by
 unfold zQk zJC zWX;simp only[List.append_assoc]
theorem zWE{u:Tbl}{d:List UInt8}(hd:zQk u=d):d[0]?=some 67/\d[1]?=some (zZ6 u.page)/\(d.drop 2).take 4=zVL u.recs.length 4/\d[10]?=some (zZ6 u.fields.length):=by
 have hl:=zXm u.recs.length 4
 have h2:=zXm (13+16 * u.fields.length) 2
 have h3:=zXm (zXG u.fields).toNat 2
 rw[←hd,yZd]
 refine⟨rfl,rfl,?_,?_⟩
 ·unfold zWX
  simp only[List.append_assoc,List.cons_append,List.nil_append,List.drop_succ_cons,List.drop_zero]
  rw[List.take_append_of_le_length (by omega),List.take_of_length_le (by omega)]
 ·rw[List.getElem?_append_left (by rw[zWy];omega)]
  unfold zWX
  rw[List.getElem?_append_right (by simp[zXm])]
  simp[zXm]
theorem zYM{u:Tbl}(ho:zJf u){d:List UInt8}(hd:zQk u=d):(d.length:Int)=13+16 * (u.fields.length:Int)+(u.recs.length:Int) * zXG u.fields+1:=by
 have h1:=zVT ho u.recs.length (Nat.le_refl _)
 rw[List.take_length]at h1
 have h2:=zWH ho
 rw[←hd]
 unfold zQk
 rw[List.length_append,List.length_append,List.length_singleton]
 omega
theorem zYo {u:Tbl} (ho:zJf u) {d:List UInt8} (hd:zQk u=d) {k:Nat} {f:Fld} (hf:u.fields[k]?=some f):(d.drop (12+16 * k)).take 16=zQJ f:=by
 have hk:=(List.getElem?_eq_some_iff.1 hf).1
 have hall:(u.fields.take k).all zQo=true:=List.all_eq_true.2 λg hg=>List.all_eq_true.1 ho.all g (List.mem_of_mem_take hg)
 have h1:=yJF hall
 rw[List.length_take]at h1
 have iP:=zZp (zQZ (List.all_eq_true.1 ho.all f (List.mem_of_getElem? hf))).2.1
 have e:u.fields.flatMap zQJ=(u.fields.take k).flatMap zQJ ++ (zQJ f ++ (u.fields.drop (k+1)).flatMap zQJ):=by
  rw[←List.flatMap_cons,←zXR hf,←List.flatMap_append,List.take_append_drop]
 have hl:(zWX u ++ (u.fields.take k).flatMap zQJ).length=12+16 * k:=by rw[List.length_append,zWy,h1];omega
 rw[←hd,yZd,e,List.append_assoc,←List.append_assoc (zWX u),List.drop_append,List.drop_eq_nil_of_le (by omega),hl,Nat.sub_self,List.drop_zero,List.nil_append,List.append_assoc,List.take_append_of_le_length (by omega),List.take_of_length_le (by omega)]
theorem bytes_row {u:Tbl} (ho:zJf u) {d:List UInt8} (hd:zQk u=d) {k:Nat} {r:Rec} (hr:u.recs[k]?=some r):(d.drop (13+16 * u.fields.length+(zXG u.fields).toNat * k)).take (zXG u.fields).toNat=zJI zQv u.fields r:=by
 have hk:=(List.getElem?_eq_some_iff.1 hr).1
 have vN:0<=zXG u.fields:=by have:=zJp (WOk.of ho.all);unfold zXG;omega
 have h1:=zVT ho k (by omega)
 have h2:=zWH ho
 have h3:=zKE ho.all (ho.recs r (List.mem_of_getElem? hr))
 have e:u.recs.flatMap (zJI zQv u.fields)=(u.recs.take k).flatMap (zJI zQv u.fields) ++ (zJI zQv u.fields r ++ (u.recs.drop (k+1)).flatMap (zJI zQv u.fields)):=by
  rw[←List.flatMap_cons,←zXR hr,←List.flatMap_append,List.take_append_drop]
 have hm:(((zXG u.fields).toNat * k:Nat):Int)=(k:Int) * zXG u.fields:=by
  rw[Int.natCast_mul,Int.toNat_of_nonneg vN,Int.mul_comm]
 have hl:(zJC u ++ (u.recs.take k).flatMap (zJI zQv u.fields)).length=13+16 * u.fields.length+(zXG u.fields).toNat * k:=by rw[List.length_append,h2];omega
 rw[←hd]
 unfold zQk
 rw[e,←List.append_assoc (zJC u),List.append_assoc,List.drop_append,List.drop_eq_nil_of_le (by omega),hl,Nat.sub_self,List.drop_zero,List.nil_append,List.append_assoc,List.take_append_of_le_length (by omega),List.take_of_length_le (by omega)]
structure zZJ(w0 w:World)(t:Tbl)(f q:SV):Prop where
 fs:zKz w0 w f t.fields
 rs:zJY w0 w q t.recs
theorem zZJ.pu{w0 w w':World}{t:Tbl}{f q:SV}(h:zZJ w0 w t f q)(hp:Pu w w'):zZJ w0 w' t f q:=⟨h.fs.pu hp,h.rs.pu hp⟩
theorem zZJ.low{w0 w1 w:World}{t:Tbl}{f q:SV}(h:zZJ w1 w t f q)(hz:w0.heap.size<=w1.heap.size):zZJ w0 w t f q:=⟨h.fs.low hz,h.rs.low hz⟩
theorem zZJ.one {w0 w w':World} {b:Nat} {t:Tbl} {f q:SV} (h:zZJ w0 w t f q) (hf:Fr (·=b) w w') (hb:b<w0.heap.size):zZJ w0 w' t f q:=⟨h.fs.fr hf λk hk e=>by have:=h.fs.2 k hk;omega,h.rs.one hf hb⟩
structure yQP(t:Tbl):Prop where
 page:zJe t.page
 f64:F64 t.fields
 r64:R64 t.recs
 fl:t.fields.length<=255
 rl:t.recs.length<=300
 nm:∀f ∈ t.fields,f.name.size<=10
theorem zZJ.rd{w0 w:World}{t:Tbl}{f q:SV}(h:zZJ w0 w t f q)(hn:yQP t):zXi w t f q:=⟨hn.page,h.fs.rd (by have:=hn.fl;omega) hn.f64,h.rs.rd (by have:=hn.rl;omega) hn.r64⟩
theorem yQP.lim{t:Tbl}(hn:yQP t):Lim.ok t.fields:=λf hf=>by
 have:=hn.nm f hf
 show f.name.size<=140737488355328
 omega
theorem yQP.zero:yQP ⟨0,[],[]⟩:=⟨⟨by decide,by decide⟩,λf hf=>by simp at hf,λr hr=>by simp at hr,by simp,by simp,λf hf=>by simp at hf⟩
theorem s35:zX8 prog 35=3:=by kernel_rfl
structure zKP(w0 wr:World)(r2 r4:Nat)(t:Tbl)(w:World):Prop where
 ex:∃f q:SV,w.heap[r4]?=some (.cells #[.int .i64 t.page,.slice f.a f.len f.cap,.slice q.a q.len q.cap] 35)/\zZJ wr w t f q
 b2:w.heap[r2]?=some (.cells #[.int .i64 0,.slice none 0 0,.slice none 0 0] 35)
 sz:wr.heap.size<=w.heap.size
 pu:Pu w0 w
 l2:r2<wr.heap.size
 l4:r4<wr.heap.size
 ne:r2 ≠ r4
 z2:w0.heap.size<=r2
 z4:w0.heap.size<=r4
theorem zKP.on{w0 wr w w':World}{r2 r4:Nat}{t:Tbl}(h:zKP w0 wr r2 r4 t w)(hp:Pu w w'):zKP w0 wr r2 r4 t w':=by
 obtain⟨f,q,h1,h2⟩:=h.ex
 exact⟨⟨f,q,hp.blk h1,h2.pu hp⟩,hp.blk h.b2,Nat.le_trans h.sz hp.size,h.pu.trans hp,h.l2,h.l4,h.ne,h.z2,h.z4⟩
theorem zKP.putF {w0 wr w:World} {r2 r4 r:Nat} {t:Tbl} (h:zKP w0 wr r2 r4 t w) {f q:SV} (h4:w.heap[r4]?=some (.cells #[.int .i64 t.page,.slice f.a f.len f.cap,.slice q.a q.len q.cap] 35)) (ho:zZJ wr w t f q) {x:Fld} (hr:w.heap[r]?=some (.cells #[.string x.name,.int .i64 x.kind,.int .i64 x.width,.bool x.null] 129)) (hb:t.fields.length<=1000000) :
  ∃(f':SV) (w1:World),(Builtin.append_ #[32,32] 32 #[.slice f.a f.len f.cap,.slice (some ⟨r,0,none⟩) 1 1]).run prog w=.ok (.slice f'.a f'.len f'.cap) w1/\
   ∀K:World->Prop,(∀w',zKP w0 wr r2 r4 ⟨t.page,t.fields ++ [x],t.recs⟩ w'->K w')->st1 ((⟨r4,0,none⟩:Addr).add 1) (.slice f'.a f'.len f'.cap) w1 K:=by
 obtain⟨f',w1,e1,r1,f1⟩:=ho.fs.push h.sz hr rfl hb
 have n4:¬r4 ∈ zQe f:=λhc=>by have:=ho.fs.2 _ hc;have:=h.l4;omega
 have n2:¬r2 ∈ zQe f:=λhc=>by have:=ho.fs.2 _ hc;have:=h.l2;omega
 refine⟨f',w1,e1,λK hK=>?_⟩
 rw[zQs,Nat.zero_add]
 refine zQu (f1.blk h4 n4) (by simp) λwx ex hbx=>hK wx ?_
 have fx:Fr (·=r4) w1 wx:=by rw[ex];exact Fr.cell w1 _ _ _
 have zx:wx.heap.size=w1.heap.size:=by rw[ex];simp
 have z1:=f1.size
 have hne:=h.ne
 have hsz:=h.sz
 have hz4:=h.z4
 have hl4:=h.l4
 have rs1:zJY wr w1 q t.recs:=by
  obtain⟨qs,a1,a2,a3,a4⟩:=ho.rs
  exact⟨qs,a1.fr f1 (zQr a1 ho.fs.1 (by decide)),a2,a3,λi r' x' hr' hx'=>⟨(a4 i r' x' hr' hx').1,(a4 i r' x' hr' hx').2.fr f1 (zQr (a4 i r' x' hr' hx').2.1 ho.fs.1 (by decide))⟩⟩
 refine⟨⟨f',q,hbx,⟨r1.fr fx λi hi=>by have:=r1.2 i hi;omega,rs1.one fx hl4⟩⟩,fx.blk (f1.blk h.b2 n2) (by omega),by omega,?_,h.l2,h.l4,h.ne,h.z2,h.z4⟩
 have p1:Pu w0 w1:=h.pu.andNew f1 λi hi=>by have:=ho.fs.2 i hi;omega
 exact p1.andNew fx λi hi=>by omega
theorem zKP.putR {w0 wr w:World} {r2 r4 r:Nat} {t:Tbl} (h:zKP w0 wr r2 r4 t w) {f q qv:SV} (h4:w.heap[r4]?=some (.cells #[.int .i64 t.page,.slice f.a f.len f.cap,.slice q.a q.len q.cap] 35)) (ho:zZJ wr w t f q) {g:Bool} {vs:List Val} (hv:zJH wr w qv vs) (hr:w.heap[r]?=some (.cells #[.bool g,.slice qv.a qv.len qv.cap] 67)) (hb:t.recs.length<=1000000) :
  ∃(q':SV) (w1:World),(Builtin.append_ #[33,33] 33 #[.slice q.a q.len q.cap,.slice (some ⟨r,0,none⟩) 1 1]).run prog w=.ok (.slice q'.a q'.len q'.cap) w1/\
   ∀K:World->Prop,(∀w',zKP w0 wr r2 r4 ⟨t.page,t.fields,t.recs ++ [⟨g,vs⟩]⟩ w'->K w')->st1 ((⟨r4,0,none⟩:Addr).add 2) (.slice q'.a q'.len q'.cap) w1 K:=by
 obtain⟨q',w1,e1,r1,f1⟩:=ho.rs.push h.sz hv hr rfl hb
 have n4:¬r4 ∈ zQe q:=λhc=>by have:=ho.rs.own _ hc;have:=h.l4;omega
 have n2:¬r2 ∈ zQe q:=λhc=>by have:=ho.rs.own _ hc;have:=h.l2;omega
 refine⟨q',w1,e1,λK hK=>?_⟩
 rw[zQs,Nat.zero_add]
 refine zQu (f1.blk h4 n4) (by simp) λwx ex hbx=>hK wx ?_
 have fx:Fr (·=r4) w1 wx:=by rw[ex];exact Fr.cell w1 _ _ _
 have zx:wx.heap.size=w1.heap.size:=by rw[ex];simp
 have z1:=f1.size
 have hne:=h.ne
 have hsz:=h.sz
 have hz4:=h.z4
 have hl4:=h.l4
 have own:=ho.rs.own
 have fs1:zKz wr w1 f t.fields:=by
  obtain⟨qs,a1,a2,a3,a4⟩:=ho.rs
  exact ho.fs.fr f1 (zQr ho.fs.1 a1 (by decide))
 refine⟨⟨f,q',hbx,⟨fs1.fr fx λi hi=>by have:=fs1.2 i hi;omega,r1.one fx hl4⟩⟩,fx.blk (f1.blk h.b2 n2) (by omega),by omega,?_,h.l2,h.l4,h.ne,h.z2,h.z4⟩
 have p1:Pu w0 w1:=h.pu.andNew f1 λi hi=>by have:=own i hi;omega
 exact p1.andNew fx λi hi=>by omega
end Go.Proofs.YtaeecpjhfmcliaaGreatDoor
/- Table: the program's reading of a table's bytes. No condition. -/
set_option maxHeartbeats 2000000
namespace Go.Proofs.YtaeecpjhfmcliaaGreatDoor
open Go.Sh Go.RowKit Tryz
def retT(R:Rt)(r2 r4:Nat)(ok:Bool)(w:World):Prop:=
 zQf (some (⟨r4,0,none⟩:Addr)) λa1=>
 ∃gI:Int,w.cell? (a1.add 0)=some (.int .i64 gI)/\
 ∃cc:SV,w.cell? (a1.add 1)=some (.slice cc.a cc.len cc.cap)/\
 ∃ce:SV,w.cell? (a1.add 2)=some (.slice ce.a ce.len ce.cap)/\
 zQf (some (⟨r2,0,none⟩:Addr)) λa2=>
 stA prog 35 a2 #[.int .i64 gI,.slice cc.a cc.len cc.cap,.slice ce.a ce.len ce.cap] w λw3=>
 zQf (some (⟨r2,0,none⟩:Addr)) λa5=>
 ∃ag:Int,w3.cell? (a5.add 0)=some (.int .i64 ag)/\
 ∃ab:SV,w3.cell? (a5.add 1)=some (.slice ab.a ab.len ab.cap)/\
 ∃ae:SV,w3.cell? (a5.add 2)=some (.slice ae.a ae.len ae.cap)/\
 R (.returned (.tuple #[.agg #[.int .i64 ag,.slice ab.a ab.len ab.cap,.slice ae.a ae.len ae.cap],.bool ok])) w3
theorem retT_c {R:Rt} {w0 wr w:World} {r2 r4:Nat} {t:Tbl} (h:zKP w0 wr r2 r4 t w) (ok:Bool) (hR:∀f q w',zZJ wr w' t f q->Pu w0 w'->R (.returned (.tuple #[zKQ t f q,.bool ok])) w'):retT R r2 r4 ok w:=by
 obtain⟨f,q,h4,ho⟩:=h.ex
 have hz:=h.z2
 exact⟨_,cl h4 0,f,cl h4 1,q,cl h4 2,zQg h.b2 s35.symm rfl rfl λw5 bq dq ou=>⟨_,cl bq 0,f,cl bq 1,q,cl bq 2,hR f q w5 (ho.one dq h.l2) (h.pu.andNew dq λi hi=>by omega)⟩⟩
def yXA(d:List UInt8)(t:Tbl)(ok:Bool):Prop:=∀u,zQh u=0->zQk u=d->t=u/\ok=true
theorem yJ6{w:World}{s:SV}{d:List UInt8}(hb:ByV w s d)(hd:d.length<=1000000000):Calls prog 124 #[.slice s.a s.len s.cap] w λe w'=>∃(t:Tbl) (f q:SV) (ok:Bool),e=.returned (.tuple #[zKQ t f q,.bool ok])/\zZJ w w' t f q/\yQP t/\Pu w w'/\yXA d t ok:=by
 have hsl:=hb.len
 have hsc:=hb.cap
 refine yKU _ w _ (alB λw1 ar aA=>alB λw2 aq aN=>?_)
 have aE:=ar.trans aq
 have nX:w.heap.size<w1.heap.size:=zQy aA
 have lt2:w1.heap.size<w2.heap.size:=zQy aN
 have cL:=aq.blk aA
 have xB:zKP w w2 w.heap.size w1.heap.size ⟨0,[],[]⟩ w2:=⟨⟨⟨none,0,0⟩,⟨none,0,0⟩,aN,⟨zKz.nil w2 w2,zJY.nil w2 w2⟩⟩,cL,Nat.le_refl _,aE,by omega,lt2,by omega,Nat.le_refl _,by omega⟩
 have ret:∀{t:Tbl} {w':World} (ok:Bool),zKP w w2 w.heap.size w1.heap.size t w'->yQP t->yXA d t ok->retT (λe w'=>∃(t:Tbl) (f q:SV) (ok:Bool),e=.returned (.tuple #[zKQ t f q,.bool ok])/\zZJ w w' t f q/\yQP t/\Pu w w'/\yXA d t ok) w.heap.size w1.heap.size ok w':=λ{t w'} ok st hn hc=>
  retT_c st ok λf q w'' ho hp=>⟨t,f,q,ok,rfl,ho.low aE.size,hn,hp,hc⟩
 have no:∀{t:Tbl} {ok:Bool},(∀u,zQh u=0->zQk u=d->False)->yXA d t ok:=λh u hv hu=>(h u hv hu).elim
 have hlong:∀u,zQh u=0->zQk u=d->14<=d.length:=λu hv hu=>by
  have ho:=zJf.of hv
  have h1:=zYM ho hu
  have hf:0<u.fields.length:=List.length_pos_iff.2 ho.ne
  have vN:0<=zXG u.fields:=by have:=zJp (WOk.of ho.all);unfold zXG;omega
  have h2:0<=(u.recs.length:Int) * zXG u.fields:=Int.mul_nonneg (by omega) vN
  omega
 refine Br.of (λq=>ret false xB yQP.zero (no λu hv hu=>by have:=hlong u hv hu;have:=zQj q;omega)) (λq=>?_)
 have h14:14<=d.length:=by have:=zQd q;omega
 clear q
 obtain⟨b0,e0⟩:=zQK (l:=d) (k:=0) (by omega)
 obtain⟨b1,e1⟩:=zQK (l:=d) (k:=1) (by omega)
 obtain⟨dR,e10⟩:=zQK (l:=d) (k:=10) (by omega)
 have kM:=hb.pu aE
 obtain⟨a0,ha0,hc0⟩:=kM.get _ _ e0
 obtain⟨a1,ha1,hc1⟩:=kM.get _ _ e1
 refine⟨a0,ha0,by omega,by omega,_,hc0,Br.of (λq=>ret false xB yQP.zero (no λu hv hu=>?_)) (λq=>⟨a1,ha1,by omega,by omega,_,hc1,?_⟩)⟩
 ·have h1:=(zWE hu).1
  rw[e0]at h1
  have h1:=Option.some.inj h1
  rw[h1]at q;exact zQw q rfl
 have n1:=b1.toNat_lt
 have iU:=dR.toNat_lt
 rw[zQa (n:=((b1.toNat:Nat):Int)) (by omega) (by omega)]
 refine zQu aN (by decide) λw3 sA bo=>zQc λw4 aK _=>?_
 have fr3:Fr (·=w1.heap.size) w2 w3:=by rw[sA];exact Fr.cell w2 _ _ _
 have z3:w3.heap.size=w2.heap.size:=by rw[sA];simp
 have st4:zKP w w2 w.heap.size w1.heap.size ⟨((b1.toNat:Nat):Int),[],[]⟩ w4:=(⟨⟨⟨none,0,0⟩,⟨none,0,0⟩,bo,⟨zKz.nil w2 w3,zJY.nil w2 w3⟩⟩,fr3.blk cL (by omega),by omega,aE.andNew fr3 λi hi=>by omega,by omega,lt2,by omega,Nat.le_refl _,by omega⟩:zKP w w2 w.heap.size w1.heap.size ⟨((b1.toNat:Nat):Int),[],[]⟩ w3).on aK
 obtain⟨dy,sE,sF⟩:=(hb.pu st4.pu).get _ _ e10
 refine⟨λu=>Pu w4 u,Pu.refl _,dy,sE,by omega,by omega,_,λu hu=>hu.cell sF,dy,sE,by omega,by omega,_,λu hu=>hu.cell sF,?_⟩
 rw[zQa (n:=((dR.toNat:Nat):Int)) (by omega) (by omega)]
 refine(yZE dR.toNat (by omega) w4).mono ?_
 rintro e w5 ⟨rfl,aT⟩
 have wQ:=st4.on aT
 have pg:zJe ((b1.toNat:Nat):Int):=⟨by omega,by omega⟩
 have nice0:yQP ⟨((b1.toNat:Nat):Int),[],[]⟩:=⟨pg,λf hf=>by simp at hf,λr hr=>by simp at hr,by simp,by simp,λf hf=>by simp at hf⟩
 -- what a right table's bytes tell
 have pgu:∀u,zQh u=0->zQk u=d->u.page=((b1.toNat:Nat):Int)/\u.fields.length=dR.toNat:=λu hv hu=>by
  have ho:=zJf.of hv
  obtain⟨_,h1,_,h2⟩:=zWE hu
  rw[e1]at h1;rw[e10]at h2
  have h1:=Option.some.inj h1
  have h2:=Option.some.inj h2
  have hpg:=ho.page
  unfold zQV at hpg
  simp only[Bool.and_eq_true,decide_eq_true_eq]at hpg
  have iP:=ho.n16
  have e1:=zW2 (n:=u.page) (by omega)
  have e2:=zW2 (n:=((u.fields.length:Nat):Int)) (by omega)
  rw[h1,h2];omega
 refine⟨_,rfl,aT,Br.of (λq=>ret false wQ nice0 (no λu hv hu=>?_)) (λq=>?_)⟩
 ·have h1:=zYM (zJf.of hv) hu
  have h2:=(pgu u hv hu).2
  have vN:0<=zXG u.fields:=by have:=zJp (WOk.of (zJf.of hv).all);unfold zXG;omega
  have h3:0<=(u.recs.length:Int) * zXG u.fields:=Int.mul_nonneg (by omega) vN
  have:=zQj q
  omega
 have hbeg:13+16 * dR.toNat<=d.length:=by have:=zQd q;omega
 clear q
 refine zQx dR.toNat (λk t w'=>t=(k:Int)/\∃fs:List Fld,fs.length=k/\F64 fs/\(∀f ∈ fs,f.name.size<=10)/\zKP w w2 w.heap.size w1.heap.size ⟨((b1.toNat:Nat):Int),fs,[]⟩ w'/\∀u,zQh u=0->zQk u=d->fs=u.fields.take k) ⟨rfl,[],rfl,λf hf=>by simp at hf,λf hf=>by simp at hf,wQ,λu _ _=>by simp⟩ ?_
 rintro k J t w6 hk ⟨ht,fs,hfl,wR,hfn,st,hcond⟩ hJ
 obtain rfl:t=(k:Int):=ht
 refine Br.of (λq=>zQc λw7 cy _=>?_) (λq=>?_)
 ·have aH:k<dR.toNat:=by have:=zQj q;omega
  have xD:=st.on cy
  obtain⟨f,qr,h4,ho⟩:=xD.ex
  obtain⟨oF,e58,h58⟩:=(hb.pu xD.pu).part3 (lo:=12+16 * k) (hi:=28+16 * k) (by omega) (by omega)
  rw[show 28+16 * k - (12+16 * k)=16 by omega]at h58
  refine⟨λu=>Pu w7 u,Pu.refl _,f,λu hu=>cl (hu.blk h4) 1,?_⟩
  rw[zQa (n:=16 * (k:Int)) (by omega) (by omega),zQa (n:=12+16 * (k:Int)) (by omega) (by omega),zQa (n:=28+16 * (k:Int)) (by omega) (by omega),show 12+16 * (k:Int)=((12+16 * k:Nat):Int)by omega,show 28+16 * (k:Int)=((28+16 * k:Nat):Int)by omega]
  refine⟨oF,w7,e58,Pu.refl _,(yZP h58 (by rw[List.length_take,List.length_drop];omega)).mono ?_⟩
  rintro e w8 ⟨x,rfl,x1,x2,x3,bW,hx⟩
  refine⟨_,_,_,_,rfl,bW,alB λw9 cE nU=>⟨bW.trans cE,?_⟩⟩
  have st9:=(xD.on bW).on cE
  obtain⟨f',aP,e10',hK⟩:=st9.putF ((bW.trans cE).blk h4) (ho.pu (bW.trans cE)) nU (by show fs.length<=_;omega)
  refine⟨f',aP,e10',hK _ λaU sG=>?_⟩
  rw[zQa (by omega) (by omega)]
  refine hJ _ _ aH ⟨by omega,fs ++ [x],by simp[hfl],λy hy=>?_,λy hy=>?_,sG,λu hv hu=>?_⟩
  ·rcases List.mem_append.1 hy with hy|hy
   ·exact wR y hy
   ·simp at hy;subst hy;exact⟨x1,x2⟩
  ·rcases List.mem_append.1 hy with hy|hy
   ·exact hfn y hy
   ·simp at hy;subst hy;exact x3
  ·obtain⟨g,hg⟩:=zQK (l:=u.fields) (k:=k) (by have:=(pgu u hv hu).2;omega)
   rw[zQC hg,←hcond u hv hu]
   have vQ:=zJf.of hv
   rw[hx g (List.all_eq_true.1 vQ.all g (List.mem_of_getElem? hg)) (zYo vQ hu hg).symm]
 have aH:k=dR.toNat:=by have:=zQd q;omega
 subst aH
 clear hJ J q
 have hfs:∀u,zQh u=0->zQk u=d->fs=u.fields:=λu hv hu=>by
  rw[hcond u hv hu,List.take_of_length_le (by have:=(pgu u hv hu).2;omega)]
 have mD:yQP ⟨((b1.toNat:Nat):Int),fs,[]⟩:=⟨pg,wR,λr hr=>by simp at hr,by show fs.length<=_;omega,by simp,hfn⟩
 obtain⟨f,qr,h4,ho⟩:=st.ex
 refine⟨f,cl h4 1,(zZI (ho.rd mD).fields mD.lim).mono ?_⟩
 rintro e w7 ⟨rfl,cy⟩
 have xD:=st.on cy
 refine⟨_,rfl,Br.of (λq=>ret false xD mD (no λu hv hu=>?_)) (λq=>zQc λw8 bW _=>?_)⟩
 ·have:=(zJf.of hv).vf
  rw[←hfs u hv hu]at this
  exact zQw q this
 have hvf:zQT fs=0:=zQq q
 clear q
 obtain⟨_,hall,_,iP,mP⟩:=zXl hvf
 have hwok:=WOk.of hall
 have hwide:1<=zXG fs:=by have:=zJp hwok;unfold zXG;omega
 have st8:=xD.on bW
 have h48:=(cy.trans bW).blk h4
 have ho8:=ho.pu (cy.trans bW)
 refine⟨f,cl h48 1,by omega,by show 6<=_;omega,by omega,by decide,(zVQ (ho8.rd mD).fields hwok).mono ?_⟩
 rintro e w9 ⟨rfl,cE⟩
 have hnum:=(hb.pu (st8.pu.trans cE)).sub (lo:=2) (hi:=6) (by omega) (by omega)
 have hd4:((d.drop 2).take (6 - 2)).length=4:=by rw[List.length_take,List.length_drop];omega
 refine⟨_,rfl,(xZF hnum hd4).mono ?_⟩
 rintro e aP ⟨rfl,dr⟩
 have wS:=(st8.on cE).on dr
 obtain⟨cnt,hcnt⟩:∃cnt,cnt=xXl ((d.drop 2).take (6 - 2)):=⟨_,rfl⟩
 rw[←hcnt]
 have hrl:∀u,zQh u=0->zQk u=d->u.recs.length=cnt:=λu hv hu=>by
  have h1:=(zWE hu).2.2.1
  have h2:=(zJf.of hv).m300
  rw[hcnt,show 6 - 2=4 from rfl,h1,xJg (by omega)]
 refine⟨_,rfl,Br.of (λq=>ret false wS mD (no λu hv hu=>by have:=hrl u hv hu;have:=(zJf.of hv).m300;have:=zQj q;omega)) (λq=>?_)⟩
 have hc300:cnt<=300:=by have:=zQd q;omega
 clear q
 obtain⟨W,hW⟩:∃W:Nat,zXG fs=(W:Int):=⟨(zXG fs).toNat,by omega⟩
 have hWl:W<=2000:=by omega
 have hWc:W * cnt<=600000:=Nat.mul_le_mul hWl hc300
 have eWc:(W:Int) * (cnt:Int)=((W * cnt:Nat):Int):=by omega
 rw[hW,eWc,zQa (n:=((W * cnt:Nat):Int)) (by omega) (by omega),zQa (n:=((13+16 * dR.toNat:Nat):Int)+((W * cnt:Nat):Int)) (by omega) (by omega),zQa (n:=((13+16 * dR.toNat:Nat):Int)+((W * cnt:Nat):Int)+1) (by omega) (by omega)]
 refine Br.of (λq=>ret false wS mD (no λu hv hu=>?_)) (λq=>?_)
 ·have h1:=zYM (zJf.of hv) hu
  have h2:=(pgu u hv hu).2
  rw[←hfs u hv hu,hW,hrl u hv hu]at h1
  rw[←hfs u hv hu]at h2
  have h3:(cnt:Int) * (W:Int)=((W * cnt:Nat):Int):=by rw[Int.mul_comm];exact eWc
  have:=zQw q
  omega
 have hdl:d.length=13+16 * dR.toNat+W * cnt+1:=by have:=zQq q;omega
 clear q
 refine zQx cnt (λk t w'=>t=(k:Int)/\∃rs:List Rec,rs.length=k/\R64 rs/\zKP w w2 w.heap.size w1.heap.size ⟨((b1.toNat:Nat):Int),fs,rs⟩ w'/\∀u,zQh u=0->zQk u=d->rs=u.recs.take k) ⟨rfl,[],rfl,λr hr=>by simp at hr,wS,λu _ _=>by simp⟩ ?_
 rintro k J t aU hk ⟨ht,rs,hrn,hr64,sG,hrc⟩ hJ
 obtain rfl:t=(k:Int):=ht
 have pC:yQP ⟨((b1.toNat:Nat):Int),fs,rs⟩:=⟨pg,wR,hr64,by show fs.length<=_;omega,by show rs.length<=_;omega,hfn⟩
 refine Br.of (λq=>zQc λaQ dO _=>?_) (λq=>?_)
 ·have aH:k<cnt:=by have:=zQj q;omega
  have sH:=sG.on dO
  obtain⟨f,qr,h4,ho⟩:=sH.ex
  have hWk:W * k+W<=W * cnt:=by rw[←Nat.mul_succ];exact Nat.mul_le_mul_left W aH
  have eWk:(W:Int) * (k:Int)=((W * k:Nat):Int):=by omega
  have eWk1:(W:Int) * ((k:Int)+1)=((W * k+W:Nat):Int):=by rw[Int.mul_add,eWk];omega
  refine⟨λu=>Pu aQ u,Pu.refl _,f,λu hu=>cl (hu.blk h4) 1,?_⟩
  rw[zQa (n:=(k:Int)+1) (by omega) (by omega),eWk,eWk1,zQa (n:=((W * k:Nat):Int)) (by omega) (by omega),zQa (n:=((W * k+W:Nat):Int)) (by omega) (by omega),zQa (n:=((13+16 * dR.toNat:Nat):Int)+((W * k:Nat):Int)) (by omega) (by omega),zQa (n:=((13+16 * dR.toNat:Nat):Int)+((W * k+W:Nat):Int)) (by omega) (by omega)]
  have elo:(((13+16 * dR.toNat:Nat):Int)+((W * k:Nat):Int)).toNat=13+16 * dR.toNat+W * k:=by omega
  have ehi:(((13+16 * dR.toNat:Nat):Int)+((W * k+W:Nat):Int)).toNat=13+16 * dR.toNat+W * k+W:=by omega
  rw[elo,ehi]
  have hpart:∀{wz},Pu aQ wz->ByV wz ⟨if s.cap=13+16 * dR.toNat+W * k then s.a else s.a.map (λx=>x.add ((13+16 * dR.toNat+W * k) * 1)),13+16 * dR.toNat+W * k+W - (13+16 * dR.toNat+W * k),s.cap - (13+16 * dR.toNat+W * k)⟩ ((d.drop (13+16 * dR.toNat+W * k)).take W):=λ{wz} hz=>by
   have:=(hb.pu (sH.pu.trans hz)).sub (lo:=13+16 * dR.toNat+W * k) (hi:=13+16 * dR.toNat+W * k+W) (by omega) (by omega)
   rw[show(d.drop (13+16 * dR.toNat+W * k)).take (13+16 * dR.toNat+W * k+W - (13+16 * dR.toNat+W * k))=(d.drop (13+16 * dR.toNat+W * k)).take W by rw[Nat.add_sub_cancel_left]]at this
   exact this
  have hplen:(((d.drop (13+16 * dR.toNat+W * k)).take W).length:Int)=zXG fs:=by rw[List.length_take,List.length_drop,hW];omega
  have hrowu:∀u,zQh u=0->zQk u=d->∀r,u.recs[k]?=some r->zX7 fs u.page r.v/\zJI zQv fs r=(d.drop (13+16 * dR.toNat+W * k)).take W:=λu hv hu r hr=>by
   have vQ:=zJf.of hv
   have h1:=bytes_row vQ hu hr
   have h2:=(pgu u hv hu).2
   have h3:=hfs u hv hu
   rw[h2,←h3,hW,zXn]at h1
   exact⟨by rw[h3];exact vQ.recs r (List.mem_of_getElem? hr),h1.symm⟩
  -- behind the row
  have tail:∀{wz:World} {cq:Nat} {g ok:Bool} {vs:List Val} {qv:SV},Pu aQ wz->zJH aQ wz qv vs->vs.length=fs.length->V64 vs->(∀(r:Rec) (p:Int),zX7 fs p r.v->zJI zQv fs r=(d.drop (13+16 * dR.toNat+W * k)).take W->g=r.gone/\vs=r.v/\ok=true)->wz.heap[cq]?=some (.cells #[.bool g,.slice qv.a qv.len qv.cap] 67)->
    Br (!ok) (retT (λe w'=>∃(t:Tbl) (f q:SV) (ok:Bool),e=.returned (.tuple #[zKQ t f q,.bool ok])/\zZJ w w' t f q/\yQP t/\Pu w w'/\yXA d t ok) w.heap.size w1.heap.size false wz) (
     zQf (some (⟨w1.heap.size,0,none⟩:Addr)) λip=>∃fC:SV,wz.cell? (ip.add 2)=some (.slice fC.a fC.len fC.cap)/\
     ∃gK:Bool,wz.cell? ((⟨cq,0,none⟩:Addr).add 0)=some (.bool gK)/\∃bn:SV,wz.cell? ((⟨cq,0,none⟩:Addr).add 1)=some (.slice bn.a bn.len bn.cap)/\
     alE (.cells #[.bool gK,.slice bn.a bn.len bn.cap] 67) wz λqO bH=>∃fD:SV,∃bU:World,(Builtin.append_ #[33,33] 33 #[.slice fC.a fC.len fC.cap,.slice (some ⟨qO,0,none⟩) 1 1]).run prog bH=.ok (.slice fD.a fD.len fD.cap) bU/\
     zQf (some (⟨w1.heap.size,0,none⟩:Addr)) λky=>st1 (ky.add 2) (.slice fD.a fD.len fD.cap) bU λbT=>J ((k:Int)+1) bT):=λ{wz cq g ok vs qv} hz hv hvl sD hcv il=>by
   have stz:=sH.on hz
   refine Br.of (λq1=>ret false stz pC (no λu hv hu=>?_)) (λq1=>?_)
   ·obtain⟨r,hr⟩:=zQK (l:=u.recs) (k:=k) (by have:=hrl u hv hu;omega)
    obtain⟨h1,h2⟩:=hrowu u hv hu r hr
    rw[(hcv r u.page h1 h2).2.2]at q1;cases q1
   ·refine⟨qr,cl (hz.blk h4) 2,g,cl il 0,qv,cl il 1,alB λaJ bj nY=>?_⟩
    obtain⟨q',bB,e14,hK⟩:=(stz.on bj).putR ((hz.trans bj).blk h4) (ho.pu (hz.trans bj)) ((hv.pu bj).low sH.sz) nY (by show rs.length<=_;omega)
    refine⟨q',bB,e14,hK _ λbm st15=>hJ _ _ aH ⟨by omega,rs ++ [⟨g,vs⟩],by simp[hrn],λy hy=>?_,st15,λu hv hu=>?_⟩⟩
    ·rcases List.mem_append.1 hy with hy|hy
     ·exact hr64 y hy
     ·simp at hy;subst hy;exact⟨sD,by show vs.length<=_;omega⟩
    ·obtain⟨r,hr⟩:=zQK (l:=u.recs) (k:=k) (by have:=hrl u hv hu;omega)
     obtain⟨h1,h2⟩:=hrowu u hv hu r hr
     obtain⟨c1,c2,_⟩:=hcv r u.page h1 h2
     rw[zQC hr,←hrc u hv hu,c1,c2]
  refine⟨by omega,by omega,by omega,by omega,(yZ0 (ho.rd pC).fields hall iP (hpart (Pu.refl _)) hplen).mono ?_,alB λaJ bj nY=>⟨bj,(yZ0 ((ho.pu bj).rd pC).fields hall iP (hpart bj) hplen).mono ?_⟩⟩
  ·rintro e aJ ⟨g,ok,vs,qv,rfl,v1,v2,v3,bj,v4⟩
   exact⟨g,qv,ok,rfl,yQr rfl s46.symm rfl λbB nZ hs14 iB=>tail (bj.trans nZ) (v1.pu nZ) v2 v3 v4 iB⟩
  ·rintro e bB ⟨g,ok,vs,qv,rfl,v1,v2,v3,nZ,v4⟩
   have lt13:aQ.heap.size<aJ.heap.size:=zQy nY
   refine⟨g,qv,ok,rfl,zQg (nZ.blk nY) s46.symm rfl rfl λbm hb15 hf15 hs15=>tail ((bj.trans nZ).andNew hf15 λi hi=>by omega) ((v1.fr hf15 λi hi e=>by have:=v1.2 i hi;omega).low bj.size) v2 v3 v4 hb15⟩
 ·have aH:k=cnt:=by have:=zQd q;omega
  subst aH
  refine ret true sG pC λu hv hu=>⟨?_,rfl⟩
  have h1:=hrc u hv hu
  rw[List.take_of_length_le (by have:=hrl u hv hu;omega)]at h1
  rw[h1,hfs u hv hu,←(pgu u hv hu).1]
end Go.Proofs.YtaeecpjhfmcliaaGreatDoor
/- Table: both packages' reading of a table's bytes. No condition. -/
set_option maxHeartbeats 2000000
namespace Go.Proofs.YtaeecpjhfmcliaaGreatDoor
open Go.Sh Go.RowKit Tryz
def zYC(d:List UInt8)(t:Tbl)(c:Int):Prop:=(c=0/\zQh t=0/\zQk t=d/\∀u,zQh u=0->zQk u=d->t=u)∨(c=11/\t=⟨0,[],[]⟩/\∀u,zQh u=0->zQk u ≠ d)
def xYu(w:World)(d:List UInt8):Rt:=λe w'=>∃(t:Tbl) (f q:SV) (c:Int),e=.returned (.tuple #[zKQ t f q,.int .i64 c])/\zZJ w w' t f q/\yQP t/\Pu w w'/\zYC d t c
def zeroT(R:Rt)(r2:Nat)(w:World):Prop:=
 stA prog 35 (⟨r2,0,none⟩:Addr) #[.int .i64 0,.slice none 0 0,.slice none 0 0] w λw5=>
 ∃ag:Int,w5.cell? ((⟨r2,0,none⟩:Addr).add 0)=some (.int .i64 ag)/\
 ∃ab:SV,w5.cell? ((⟨r2,0,none⟩:Addr).add 1)=some (.slice ab.a ab.len ab.cap)/\
 ∃ae:SV,w5.cell? ((⟨r2,0,none⟩:Addr).add 2)=some (.slice ae.a ae.len ae.cap)/\
 R (.returned (.tuple #[.agg #[.int .i64 ag,.slice ab.a ab.len ab.cap,.slice ae.a ae.len ae.cap],.int .i64 11])) w5
theorem yJl {w0 w:World} {d:List UInt8} {r2:Nat} (hb:w.heap[r2]?=some (.cells #[.int .i64 0,.slice none 0 0,.slice none 0 0] 35)) (hp:Pu w0 w) (hr:w0.heap.size<=r2) (hno:∀u,zQh u=0->zQk u ≠ d):zeroT (xYu w0 d) r2 w:=
 zQg hb s35.symm rfl rfl λw5 bq dq ou=>⟨_,cl bq 0,⟨none,0,0⟩,cl bq 1,⟨none,0,0⟩,cl bq 2,⟨0,[],[]⟩,⟨none,0,0⟩,⟨none,0,0⟩,11,rfl,⟨zKz.nil w0 w5,zJY.nil w0 w5⟩,yQP.zero,hp.andNew dq λi hi=>by omega,.inr ⟨rfl,rfl,hno⟩⟩
def copyT(R:Rt)(r2 r4:Nat)(w:World):Prop:=
 ∃gI:Int,w.cell? ((⟨r4,0,none⟩:Addr).add 0)=some (.int .i64 gI)/\
 ∃cc:SV,w.cell? ((⟨r4,0,none⟩:Addr).add 1)=some (.slice cc.a cc.len cc.cap)/\
 ∃ce:SV,w.cell? ((⟨r4,0,none⟩:Addr).add 2)=some (.slice ce.a ce.len ce.cap)/\
 stA prog 35 (⟨r2,0,none⟩:Addr) #[.int .i64 gI,.slice cc.a cc.len cc.cap,.slice ce.a ce.len ce.cap] w λw3=>
 ∃ag:Int,w3.cell? ((⟨r2,0,none⟩:Addr).add 0)=some (.int .i64 ag)/\
 ∃ab:SV,w3.cell? ((⟨r2,0,none⟩:Addr).add 1)=some (.slice ab.a ab.len ab.cap)/\
 ∃ae:SV,w3.cell? ((⟨r2,0,none⟩:Addr).add 2)=some (.slice ae.a ae.len ae.cap)/\
 R (.returned (.tuple #[.agg #[.int .i64 ag,.slice ab.a ab.len ab.cap,.slice ae.a ae.len ae.cap],.int .i64 0])) w3
theorem xY3 {w0 wr w:World} {d:List UInt8} {r2 r4:Nat} {t:Tbl} {f q:SV} (aN:w.heap[r2]?=some (.cells #[.int .i64 0,.slice none 0 0,.slice none 0 0] 35)) (h4:w.heap[r4]?=some (.cells #[.int .i64 t.page,.slice f.a f.len f.cap,.slice q.a q.len q.cap] 35)) (ho:zZJ wr w t f q) (hn:yQP t) (hp:Pu w0 w) (hr:w0.heap.size<=r2) (hl:r2<wr.heap.size) (hz:w0.heap.size<=wr.heap.size)
  (hout:zYC d t 0):copyT (xYu w0 d) r2 r4 w:=
 ⟨_,cl h4 0,f,cl h4 1,q,cl h4 2,zQg aN s35.symm rfl rfl λw5 bq dq ou=>⟨_,cl bq 0,f,cl bq 1,q,cl bq 2,t,f,q,0,rfl,(ho.one dq hl).low hz,hn,hp.andNew dq λi hi=>by omega,hout⟩⟩
theorem yZf{w w0:World}{s t:SV}{a b:List UInt8}(ha:zQi w0 w s a)(hb:ByV w t b):Calls prog 125 #[.slice s.a s.len s.cap,.slice t.a t.len t.cap] w λe w'=>e=.returned (.bool (decide (a=b)))/\Pu w w':=by
 refine yKG _ _ w _ ⟨_,w,xZH ha,_,w,yZQ hb,?_,Pu.refl w⟩
 rw[zX5]
 congr 2
 exact zZ5 ⟨λh=>by rw[←zQN a,h,zQN],λh=>by rw[h]⟩
theorem yJR{w:World}{s:SV}{d:List UInt8}(hb:ByV w s d)(hd:d.length<=1000000000):Calls prog 87 #[.slice s.a s.len s.cap] w (xYu w d):=by
 refine yYi _ w _ (alB λw1 ar aA=>(yJ6 (hb.pu ar) hd).mono ?_)
 rintro e w2 ⟨t,f,q,ok,rfl,ho,hn,aq,hpar⟩
 have nX:w.heap.size<w1.heap.size:=zQy aA
 refine⟨_,f,q,ok,rfl,yQr rfl s35.symm rfl λw3 au qn bo=>?_⟩
 have p3:=(ar.trans aq).trans au
 have ho3:=ho.pu au
 refine Br.of (λd1=>yJl ((aq.trans au).blk aA) p3 (Nat.le_refl _) λu hv hu=>?_) (λd1=>⟨_,cl bo 0,f,cl bo 1,q,cl bo 2,(zZq (ho3.rd hn) hn.lim).mono ?_⟩)
 ·rw[(hpar u hv hu).2]at d1;cases d1
 rintro e w4 ⟨rfl,aK⟩
 have p4:=p3.trans aK
 have b3:=aK.blk bo
 have xE:=ho3.pu aK
 refine⟨_,rfl,Br.of (λd1=>yJl (((aq.trans au).trans aK).blk aA) p4 (Nat.le_refl _) λu hv hu=>?_) (λd1=>⟨_,cl b3 0,f,cl b3 1,q,cl b3 2,?_⟩)⟩
 ·rw[(hpar u hv hu).1]at d1;exact zQw d1 hv
 have mN:zQh t=0:=zQq d1
 refine(yQH (xE.rd hn) (zJf.of mN)).mono ?_
 rintro e w5 ⟨o,rfl,ho5,aT⟩
 refine⟨o,rfl,(yZf ho5 (hb.pu (p4.trans aT))).mono ?_⟩
 rintro e w6 ⟨rfl,bE⟩
 have xF:=aT.trans bE
 refine⟨_,rfl,Br.of (λd1=>yJl ((((aq.trans au).trans aK).trans xF).blk aA) (p4.trans xF) (Nat.le_refl _) λu hv hu=>?_) (λd1=>?_)⟩
 ·rw[(hpar u hv hu).1,decide_eq_true hu]at d1;cases d1
 have hbt:zQk t=d:=by simpa using d1
 exact xY3 ((((aq.trans au).trans aK).trans xF).blk aA) (xF.blk b3) (xE.pu xF) hn (p4.trans xF) (Nat.le_refl _) nX ar.size (.inl ⟨rfl,mN,hbt,λu hv hu=>(hpar u hv hu).1⟩)
end Go.Proofs.YtaeecpjhfmcliaaGreatDoor
/- The log: what files tell, and what a recovery writes. In plain words. No condition but those stated. -/
namespace Go.Proofs.YtaeecpjhfmcliaaGreatDoor
open Go.Sh Go.RowKit Tryz
def zXA(d:List UInt8):Option Tbl:=open Classical in if h:∃u,zQh u=0/\zQk u=d then some h.choose else none
theorem zXy{d:List UInt8}{t:Tbl}(h:zXA d=some t):zQh t=0/\zQk t=d:=by
 unfold zXA at h
 split at h
 ·next hx=>rw[←Option.some.inj h];exact hx.choose_spec
 ·cases h
theorem yQo{d:List UInt8}(h:zXA d=none):∀u,zQh u=0->zQk u ≠ d:=λu hu hd=>by
 unfold zXA at h
 split at h
 ·cases h
 ·next hx=>exact hx ⟨u,hu,hd⟩
theorem yKl{d:List UInt8}{t:Tbl}(h:zYC d t 0):zXA d=some t:=by
 rcases h with⟨-,h1,h2,h3⟩|⟨h,-⟩
 ·cases e:zXA d with
  | none=>exact absurd h2 (yQo e t h1)
  | some u=>rw[h3 u (zXy e).1 (zXy e).2]
 ·cases h
theorem xXi{d:List UInt8}{t:Tbl}(h:zYC d t 11):zXA d=none:=by
 rcases h with⟨h,-⟩|⟨-,-,h3⟩
 ·cases h
 ·cases e:zXA d with
  | none=>rfl
  | some u=>exact absurd (zXy e).2 (h3 u (zXy e).1)
theorem zK4{d:List UInt8}{t:Tbl}{c:Int}(h:zYC d t c):(c=0/\zXA d=some t)∨(c=11/\zXA d=none/\t=⟨0,[],[]⟩):=by
 have h':=h
 rcases h with⟨rfl,-⟩|⟨rfl,h2,-⟩
 ·exact .inl ⟨rfl,yKl h'⟩
 ·exact .inr ⟨rfl,xXi h',h2⟩
def yX8(t:Tbl)(b:List UInt8):Option Rec:=(zXA (zJC { t with recs:=[⟨false,zJm t.fields⟩] } ++ b ++ [26])).bind λx=>x.recs.head?
def goC(t:Tbl)(size:Nat)(recs:List Rec)(rest:List UInt8):Option (List Rec):=
 if h:rest=[]then some recs
 else match yX8 t ((rest.drop 2).take size)with
  | none=>none
  | some r=>if zQW (rest.take 2)<1∨recs.length+1<zQW (rest.take 2)∨300<zQW (rest.take 2)then none
   else goC t size (if recs.length<zQW (rest.take 2)then recs ++ [r]else recs.set (zQW (rest.take 2) - 1) r) (rest.drop (size+2))
 termination_by rest.length
 decreasing_by
 rw[List.length_drop]
 have:rest.length ≠ 0:=λe=>h (List.length_eq_zero_iff.1 e)
 omega
def zQX(t:Tbl)(body:List UInt8):Option Tbl:=
 if body.length<2∨(body.length - 2) % ((zXG t.fields).toNat+2) ≠ 0 then none
 else(goC t (zXG t.fields).toNat t.recs (body.drop 2)).bind λl=>if l.length=zQW (body.take 2)then some { t with recs:=l }else none
def xZf(t:Tbl)(k:Int):List UInt8:=match t.recs[(k - 1).toNat]? with
 | some r=>zJI zQv t.fields r
 | none=>[]
def zXr(t:Tbl)(l:List Int):List UInt8:=zJd t.recs.length 2 ++ l.flatMap λk=>if (t.recs.length:Int)<k then []else zJd k.toNat 2 ++ xZf t k
abbrev Fls:=List UInt8 × List UInt8
def zKh(cur:Option Tbl)(anew:Bool)(rest:List UInt8):Option Tbl × List UInt8 × Bool:=
 match h:zZ2 rest with
 | none=>(cur,rest,anew)
 | some (k,body,more)=>
  if k=119 then zKh (zXA body) true more
  else if k ≠ 99 then zKh none anew more
  else zKh (cur.bind λt=>zQX t body) anew more
 termination_by rest.length
 decreasing_by all_goals exact yQV h
def zQR(F:Fls):Option Tbl × List UInt8 × Bool:=zKh (zXA F.1) false F.2
structure Wr where
 file:Int
 at_:Int
 b:List UInt8
def Fls.get(F:Fls)(i:Int):List UInt8:=if i=0 then F.1 else F.2
def Fls.put(F:Fls)(i:Int)(b:List UInt8):Fls:=if i=0 then(b,F.2)else(F.1,b)
def zJb(F:Fls)(x:Wr)(k:Int):Fls:=if k<=0 then F else F.put x.file ((F.get x.file).take (min x.at_ (F.get x.file).length).toNat ++ x.b.take k.toNat)
def zQP(F:Fls)(x:Wr):Fls:=zJb F x (x.b.length+1)
def zZK(F:Fls):List Wr:=
 (if (zQR F).2.1=[]then []else [⟨1,F.2.length - (zQR F).2.1.length,[]⟩]) ++
 (if (zQR F).2.2 then [⟨0,0,[]⟩,⟨0,0,zQI ((zQR F).1.getD zYt)⟩,⟨1,0,[]⟩]else [])
end Go.Proofs.YtaeecpjhfmcliaaGreatDoor
/- The log: right tables and their bytes stand for each other; headers too. In plain words. No condition but those stated. -/
namespace Go.Proofs.YtaeecpjhfmcliaaGreatDoor
open Go.Sh Go.RowKit Tryz
def wOf(d:List UInt8):World:={ heap:=#[.cells (d.map u8V).toArray 0 (0,0)],tape:=λ_ _=>0,drawn:=0,os:=default,output:=#[] }
theorem wOf_by(d:List UInt8)(hd:d.length<=140737488355328):ByV (wOf d) ⟨some ⟨0,0,none⟩,d.length,d.length⟩ d:=
 ⟨rfl,Nat.le_refl _,hd,λj b hj=>⟨_,rfl,by rw[zQs,zQE (c:=(d.map u8V).toArray) (e:=0) (f:=(0,0)) rfl];simp[hj]⟩⟩
theorem zZX{t:Tbl}(h:zJf t):(zQk t).length<=600300:=by
 have h1:=zWH h
 have h2:=xQG h t.recs.length (Nat.le_refl _)
 rw[List.take_length]at h2
 have h3:=h.n16
 unfold zQk
 simp only[List.length_append,List.length_singleton]
 omega
theorem zWd(t:Tbl):(zQI t).length<=600300:=by
 unfold zQI;split
 ·rename_i h;exact zZX (zJf.of h)
 ·simp
theorem yVF{u v:Tbl}(hu:zQh u=0)(hv:zQh v=0)(h:zQk u=zQk v):u=v:=by
 have hl:=zZX (zJf.of hu)
 obtain⟨e,w',fr,⟨t,f,q,c,_,_,_,_,hr⟩,_⟩:=yJR (wOf_by (zQk u) (by omega)) (by omega) []
 rcases hr with⟨_,_,_,h3⟩|⟨_,_,h3⟩
 ·rw[←h3 u hu rfl,←h3 v hv h.symm]
 ·exact absurd rfl (h3 u hu)
theorem yQI{f:Fld}(h:zQo f=true):1<=f.kind/\f.kind<=5:=by
 unfold zQo at h
 have h:=(Bool.and_eq_true _ _ ▸ h:zZr f.name=true/\zWM f.kind f.width=true).2
 unfold zWM at h
 split at h
 ·omega
 split at h
 ·omega
 split at h
 ·omega
 split at h
 ·omega
 split at h
 ·omega
 ·cases h
theorem yZO{a b:Int}(ha:1<=a/\a<=5)(hb:1<=b/\b<=5)(h:zWU a=zWU b):a=b:=by
 rcases(by omega:a=1∨a=2∨a=3∨a=4∨a=5)with rfl|rfl|rfl|rfl|rfl <;> rcases(by omega:b=1∨b=2∨b=3∨b=4∨b=5)with rfl|rfl|rfl|rfl|rfl <;> first|rfl|(exfalso;revert h;decide)
theorem yYz{a b:Bool}(h:xXm a=xXm b):a=b:=by
 cases a <;> cases b <;> first|rfl|(exfalso;revert h;decide)
theorem zYR{a b:Int}(ha:0<=a/\a<=255)(hb:0<=b/\b<=255)(h:zZ6 a=zZ6 b):a=b:=by
 rw[←zW2 ha,←zW2 hb,h]
theorem yVr{f g:Fld}(hf:zQo f=true)(hg:zQo g=true)(h:zQJ f=zQJ g):f=g:=by
 obtain⟨a1,a2,a3,a4⟩:=zWe hf h
 obtain⟨b1,b2,b3,b4⟩:=zWe hg rfl
 have e1:f.name.data.toList=g.name.data.toList:=by
  have:=a1.symm.trans b1
  rw[←zWc _ (zVh hf) (10 - f.name.size),this,zWc _ (zVh hg)]
 have e2:=yZO (yQI hf) (yQI hg) (Option.some.inj (a2.symm.trans b2))
 have e3:=zYR (by have:=zXq hf;omega) (by have:=zXq hg;omega) (Option.some.inj (a3.symm.trans b3))
 have e4:=yYz (Option.some.inj (a4.symm.trans b4))
 obtain⟨n,k,wd,z⟩:=f
 obtain⟨n',k',wd',z'⟩:=g
 dsimp only at e1 e2 e3 e4
 rw[zQU e1,e2,e3,e4]
theorem xJq{x t:Tbl}(hx:zQh x=0)(hp:zQV t.page=true)(hvf:zQT t.fields=0){rest:List UInt8}(h:zQk x=zJC t ++ rest):x.page=t.page/\x.fields=t.fields:=by
 have ox:=zJf.of hx
 obtain⟨h0,hall,_,iP,hw⟩:=zXl hvf
 have x16:=ox.n16
 have e:zJC t ++ rest=zWX t ++ (t.fields.flatMap zQJ ++ ([13] ++ rest)):=by unfold zJC zWX;simp only[List.append_assoc]
 rw[e]at h
 obtain⟨d,hd⟩:∃d,d=zQk x:=⟨_,rfl⟩
 obtain⟨_,p1,_,p10⟩:=zWE (u:=x) hd.symm
 have h1:=zXm t.recs.length 4
 have q1:d[1]?=some (zZ6 t.page):=by rw[hd,h];rfl
 have q10:d[10]?=some (zZ6 t.fields.length):=by
  rw[hd,h,List.getElem?_append_left (by rw[zWy];omega)]
  unfold zWX
  rw[List.getElem?_append_right (by simp[zXm])]
  simp[zXm]
 have px:=ox.page
 unfold zQV at px hp
 simp only[Bool.and_eq_true,decide_eq_true_eq]at px hp
 have ep:=zYR (by omega) (by omega) (Option.some.inj (p1.symm.trans q1))
 have en:=zYR (by omega) (by omega) (Option.some.inj (p10.symm.trans q10))
 have en:x.fields.length=t.fields.length:=by omega
 refine⟨ep,List.ext_getElem? λk=>?_⟩
 by_cases hk:k<t.fields.length
 ·obtain⟨f,hf⟩:=zQK hk
  obtain⟨g,hg⟩:=zQK (l:=x.fields) (k:=k) (by omega)
  have b1:=zYo ox hd.symm hg
  have b2:(d.drop (12+16 * k)).take 16=zQJ f:=by
   have hallk:(t.fields.take k).all zQo=true:=List.all_eq_true.2 λg hg=>List.all_eq_true.1 hall g (List.mem_of_mem_take hg)
   have hl1:=yJF hallk
   rw[List.length_take]at hl1
   have hl16:=zZp (zQZ (List.all_eq_true.1 hall f (List.mem_of_getElem? hf))).2.1
   have ee:t.fields.flatMap zQJ=(t.fields.take k).flatMap zQJ ++ (zQJ f ++ (t.fields.drop (k+1)).flatMap zQJ):=by
    rw[←List.flatMap_cons,←zXR hf,←List.flatMap_append,List.take_append_drop]
   have hl:(zWX t ++ (t.fields.take k).flatMap zQJ).length=12+16 * k:=by rw[List.length_append,zWy,hl1];omega
   rw[hd,h,ee,List.append_assoc,←List.append_assoc (zWX t),List.drop_append,List.drop_eq_nil_of_le (by omega),hl,Nat.sub_self,List.drop_zero,List.nil_append,List.append_assoc,List.take_append_of_le_length (by omega),List.take_of_length_le (by omega)]
  rw[hg,hf,yVr (List.all_eq_true.1 ox.all g (List.mem_of_getElem? hg)) (List.all_eq_true.1 hall f (List.mem_of_getElem? hf)) (b1.symm.trans b2)]
 ·rw[List.getElem?_eq_none (by omega),List.getElem?_eq_none (by omega)]
theorem zK9{t:Tbl}(hp:zQV t.page=true)(hf:zQT t.fields=0)(hn:t.recs.length<=300)(hr:∀r ∈ t.recs,zQ1 t.fields t.page r=0):zQh t=0:=by
 have key:∀l:List Rec,(∀r ∈ l,zQ1 t.fields t.page r=0)->zXu t.fields t.page l=0:=by
  intro l
  induction l with
  | nil=>intro _;rfl
  | cons r l ih=>
   intro h
   unfold zXu
   rw[if_neg (by rw[h r (List.mem_cons_self)];simp)]
   exact ih λx hx=>h x (List.mem_cons_of_mem _ hx)
 unfold zQh
 rw[if_pos hp,if_neg (by rw[hf];simp),if_neg (by omega)]
 exact key _ hr
structure zQM(t:Tbl):Prop where
 page:zQV t.page=true
 vf:zQT t.fields=0
 n300:t.recs.length<=300
 recs:∀r ∈ t.recs,zQ1 t.fields t.page r=0
theorem zQM.of{t:Tbl}(h:zQh t=0):zQM t:=by
 obtain⟨h1,h2,h3,h4⟩:=zJB h
 exact⟨h1,h2,h3,λr hr=>zJl h4 r hr⟩
theorem zQM.ok{t:Tbl}(h:zQM t):zQh t=0:=zK9 h.page h.vf h.n300 h.recs
end Go.Proofs.YtaeecpjhfmcliaaGreatDoor
