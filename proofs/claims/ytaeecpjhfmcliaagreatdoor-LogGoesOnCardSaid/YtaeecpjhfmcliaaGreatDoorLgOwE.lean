import Derived.Test.YtaeecpjhfmcliaaGreatDoorLgOwD
import Derived.Test.YtaeecpjhfmcliaaGreatDoorLgOwC
/- Table: the program's reading of a row's bytes. No condition. -/
set_option maxRecDepth 100000
set_option maxHeartbeats 2000000
set_option linter.unusedVariables false
set_option linter.unusedSimpArgs false
noncomputable section
namespace Go.Proofs.YtaeecpjhfmcliaaGreatDoor
open Go.Sh Go.RowKit Tryz
def appV(aD:SV)(p6:Option Addr)(c:Array Value)(K:World->Prop)(w:World):Prop:=
 alE (.cells c 73) w λcz dV=>∃aE:SV,∃dy:World,(Builtin.append_ #[38,38] 38 #[.slice aD.a aD.len aD.cap,.slice (some ⟨cz,0,none⟩) 1 1]).run prog dV=.ok (.slice aE.a aE.len aE.cap) dy/\
 zQg p6 λnl=>st1 (nl.add 1) (.slice aE.a aE.len aE.cap) dy λfe=>K fe
def xY9(p6:Option Addr)(aL:Nat)(K:World->Prop)(w:World):Prop:=
 zQg p6 λo4=>∃aD:SV,w.cell? (o4.add 1)=some (.slice aD.a aD.len aD.cap)/\
 ∃ay:Int,w.cell? ((⟨aL,0,none⟩:Addr).add 0)=some (.int .i64 ay)/\
 ∃az:Int,w.cell? ((⟨aL,0,none⟩:Addr).add 1)=some (.int .i64 az)/\
 ∃aA:ByteArray,w.cell? ((⟨aL,0,none⟩:Addr).add 2)=some (.string aA)/\
 appV aD p6 #[.int .i64 ay,.int .i64 az,.string aA] K w
structure yQi(w0 wr:World)(r4 r6:Nat)(g:Bool)(vs:List Val)(w:World):Prop where
 ex:∃q:SV,w.heap[r6]?=some (.cells #[.bool g,.slice q.a q.len q.cap] 67)/\zJY wr w q vs
 b4:w.heap[r4]?=some (.cells #[.bool false,.slice none 0 0] 67)
 sz:wr.heap.size<=w.heap.size
 pu:Pu w0 w
 l4:r4<wr.heap.size
 l6:r6<wr.heap.size
 ne:r4 ≠ r6
 z4:w0.heap.size<=r4
 z6:w0.heap.size<=r6
theorem yQi.on{w0 wr w w':World}{r4 r6:Nat}{g:Bool}{vs:List Val}(h:yQi w0 wr r4 r6 g vs w)(hp:Pu w w'):yQi w0 wr r4 r6 g vs w':=by
 obtain⟨q,h1,h2⟩:=h.ex
 exact⟨⟨q,hp.blk h1,h2.pu hp⟩,hp.blk h.b4,Nat.le_trans h.sz hp.size,h.pu.trans hp,h.l4,h.l6,h.ne,h.z4,h.z6⟩
theorem xWu {w0 wr w:World} {r4 r6:Nat} {g:Bool} {vs:List Val} (h:yQi w0 wr r4 r6 g vs w) {q:SV} (h6:w.heap[r6]?=some (.cells #[.bool g,.slice q.a q.len q.cap] 67)) (hq:zJY wr w q vs) {v:Val} {c:Array Value} (hc:c=#[.int .i64 v.kind,.int .i64 v.n,.string v.s]) (hl:vs.length<=1000000) {K:World->Prop}
  (hK:∀w',yQi w0 wr r4 r6 g (vs ++ [v]) w'->K w'):appV q (some ⟨r6,0,none⟩) c K w:=by
 refine alB λw1 ar aB=>?_
 have h1:=h.on ar
 have z1:=ar.size
 have z:=h.sz
 obtain⟨q',w2,e2,r2,f2⟩:=(hq.pu ar).push (by omega) aB hc hl
 have n6:¬r6 ∈ zQe q:=λhc=>by have:=hq.2 _ hc;have:=h.l6;omega
 have n4:¬r4 ∈ zQe q:=λhc=>by have:=hq.2 _ hc;have:=h.l4;omega
 have b6:=f2.blk (ar.blk h6) n6
 have b4:=f2.blk h1.b4 n4
 refine⟨q',w2,e2,zQt (o:=1) b6 (by simp) λwx ex hbx=>?_⟩
 have fx:Fr (·=r6) w2 wx:=by rw[ex];exact Fr.cell w2 _ _ _
 have zx:wx.heap.size=w2.heap.size:=by rw[ex];simp
 have z2:=f2.size
 have h46:=h.ne
 have hz6:=h.z6
 have hl6:=h.l6
 have hl4:=h.l4
 have hz4:=h.z4
 refine hK wx ⟨⟨q',hbx,r2.fr fx λi hi=>by have:=r2.2 i hi;omega⟩,fx.blk b4 (by omega),by omega,?_,h.l4,h.l6,h.ne,h.z4,h.z6⟩
 have p2:Pu w0 w2:=h1.pu.andNew f2 λi hi=>by have:=hq.2 i hi;omega
 exact p2.andNew fx λi hi=>by omega
theorem xXE {w0 wr w:World} {r4 r6 aL:Nat} {g:Bool} {vs:List Val} (h:yQi w0 wr r4 r6 g vs w) {v:Val} (hv:w.heap[aL]?=some (.cells #[.int .i64 v.kind,.int .i64 v.n,.string v.s] 73)) (hl:vs.length<=1000000) {K:World->Prop}
  (hK:∀w',yQi w0 wr r4 r6 g (vs ++ [v]) w'->K w'):xY9 (some ⟨r6,0,none⟩) aL K w:=by
 obtain⟨q,h6,hq⟩:=h.ex
 exact⟨q,cl h6 1,_,cl hv 0,_,cl hv 1,_,cl hv 2,xWu h h6 hq rfl hl hK⟩
def zKo(K:Bool->World->Prop)(p6:Option Addr)(b9 ok:Bool)(aL:Nat)(w:World):Prop:=Br b9 (xY9 p6 aL (K ok) w) (xY9 p6 aL (K false) w)
def yK2(K:Bool->World->Prop)(p6:Option Addr)(b9:Bool)(cq:Nat)(bI:SV)(w9:World):Prop:=
 dwE w9 λbG=>
 ∃S1:World->Prop,S1 bG/\
 ∃lD:Int,(∀w',S1 w'->w'.cell? ((⟨cq,0,none⟩:Addr).add 1)=some (.int .i64 lD))/\
 (
 Calls prog 145 #[] bG λe bH=>
 ∃eY:Option Nat,e=.returned (.map eY)/\
 ∃S2:World->Prop,S2 bH/\(∀u,S2 u->S1 u)/\
 ∃bD:Int,∃bE:Int,∃bM:Int,∃bN:Value,∃aT:Value,(∀w',S2 w'->(Instr.lookup 176 (.map eY) (.int .i64 lD) false).run prog w'=.ok (.agg #[.int .u8 bD,.int .i64 bE,.int .i64 bM,bN,aT]) w')/\
 (
 ∃dL:ByteArray,∃bO:World,(convert 22 9 (.slice bI.a bI.len bI.cap)).run prog bH=.ok (.string dL) bO/\
 ∃S3:World->Prop,S3 bO/\(∀u,S3 u->S2 u)/\
 (
 fnE aT λf75 first75 be=>
 zQ6 prog f75=true/\Calls prog f75 (first75.toList ++ (([.string dL]:List Value) ++ be.toList)).toArray bO λe cL=>
 ∃am:Int,∃ao:Int,∃ap:ByteArray,∃aF:Bool,e=.returned (.tuple #[.agg #[.int .i64 am,.int .i64 ao,.string ap],.bool aF])/\
 alE (.cells #[.int .i64 0,.int .i64 0,.string (⟨#[]⟩:ByteArray)] 73) cL λaL bU=>
 stA prog 73 (⟨aL,0,none⟩:Addr) #[.int .i64 am,.int .i64 ao,.string ap] bU λct=>
 zKo K p6 b9 aF aL ct)/\(
 alE (.cells #[.int .i64 0,.int .i64 0,.string (⟨#[]⟩:ByteArray)] 73) bO λaL gk=>
 ∃S4:World->Prop,S4 gk/\(∀u,S4 u->S3 u)/\
 fnE aT λf75 first75 be=>
 zQ6 prog f75=true/\Calls prog f75 (first75.toList ++ (([.string dL]:List Value) ++ be.toList)).toArray gk λe fW=>
 ∃am:Int,∃ao:Int,∃ap:ByteArray,∃aF:Bool,e=.returned (.tuple #[.agg #[.int .i64 am,.int .i64 ao,.string ap],.bool aF])/\
 stA prog 73 (⟨aL,0,none⟩:Addr) #[.int .i64 am,.int .i64 ao,.string ap] fW λfX=>
 zKo K p6 b9 aF aL fX))/\(
 alE (.cells #[.int .i64 0,.int .i64 0,.string (⟨#[]⟩:ByteArray)] 73) bH λaL qR=>
 ∃S5:World->Prop,S5 qR/\(∀u,S5 u->S2 u)/\
 ∃dL:ByteArray,∃gp:World,(convert 22 9 (.slice bI.a bI.len bI.cap)).run prog qR=.ok (.string dL) gp/\
 ∃S6:World->Prop,S6 gp/\(∀u,S6 u->S5 u)/\
 fnE aT λf75 first75 be=>
 zQ6 prog f75=true/\Calls prog f75 (first75.toList ++ (([.string dL]:List Value) ++ be.toList)).toArray gp λe xu=>
 ∃am:Int,∃ao:Int,∃ap:ByteArray,∃aF:Bool,e=.returned (.tuple #[.agg #[.int .i64 am,.int .i64 ao,.string ap],.bool aF])/\
 stA prog 73 (⟨aL,0,none⟩:Addr) #[.int .i64 am,.int .i64 ao,.string ap] xu λkY=>
 zKo K p6 b9 aF aL kY))/\(
 (
 ∃dL:ByteArray,∃o6:World,(convert 22 9 (.slice bI.a bI.len bI.cap)).run prog bG=.ok (.string dL) o6/\
 ∃S7:World->Prop,S7 o6/\(∀u,S7 u->S1 u)/\
 (
 Calls prog 145 #[] o6 λe pE=>
 ∃eY:Option Nat,e=.returned (.map eY)/\
 ∃S8:World->Prop,S8 pE/\(∀u,S8 u->S7 u)/\
 ∃bD:Int,∃bE:Int,∃bM:Int,∃bN:Value,∃aT:Value,(∀w',S8 w'->(Instr.lookup 176 (.map eY) (.int .i64 lD) false).run prog w'=.ok (.agg #[.int .u8 bD,.int .i64 bE,.int .i64 bM,bN,aT]) w')/\
 (
 fnE aT λf75 first75 be=>
 zQ6 prog f75=true/\Calls prog f75 (first75.toList ++ (([.string dL]:List Value) ++ be.toList)).toArray pE λe qp=>
 ∃am:Int,∃ao:Int,∃ap:ByteArray,∃aF:Bool,e=.returned (.tuple #[.agg #[.int .i64 am,.int .i64 ao,.string ap],.bool aF])/\
 alE (.cells #[.int .i64 0,.int .i64 0,.string (⟨#[]⟩:ByteArray)] 73) qp λaL ri=>
 stA prog 73 (⟨aL,0,none⟩:Addr) #[.int .i64 am,.int .i64 ao,.string ap] ri λoX=>
 zKo K p6 b9 aF aL oX)/\(
 alE (.cells #[.int .i64 0,.int .i64 0,.string (⟨#[]⟩:ByteArray)] 73) pE λaL xo=>
 ∃S9:World->Prop,S9 xo/\(∀u,S9 u->S8 u)/\
 fnE aT λf75 first75 be=>
 zQ6 prog f75=true/\Calls prog f75 (first75.toList ++ (([.string dL]:List Value) ++ be.toList)).toArray xo λe o8=>
 ∃am:Int,∃ao:Int,∃ap:ByteArray,∃aF:Bool,e=.returned (.tuple #[.agg #[.int .i64 am,.int .i64 ao,.string ap],.bool aF])/\
 stA prog 73 (⟨aL,0,none⟩:Addr) #[.int .i64 am,.int .i64 ao,.string ap] o8 λo1=>
 zKo K p6 b9 aF aL o1))/\(
 alE (.cells #[.int .i64 0,.int .i64 0,.string (⟨#[]⟩:ByteArray)] 73) o6 λaL zE=>
 ∃S10:World->Prop,S10 zE/\(∀u,S10 u->S7 u)/\
 Calls prog 145 #[] zE λe zF=>
 ∃eY:Option Nat,e=.returned (.map eY)/\
 ∃S11:World->Prop,S11 zF/\(∀u,S11 u->S10 u)/\
 ∃bD:Int,∃bE:Int,∃bM:Int,∃bN:Value,∃aT:Value,(∀w',S11 w'->(Instr.lookup 176 (.map eY) (.int .i64 lD) false).run prog w'=.ok (.agg #[.int .u8 bD,.int .i64 bE,.int .i64 bM,bN,aT]) w')/\
 fnE aT λf75 first75 be=>
 zQ6 prog f75=true/\Calls prog f75 (first75.toList ++ (([.string dL]:List Value) ++ be.toList)).toArray zF λe w89=>
 ∃am:Int,∃ao:Int,∃ap:ByteArray,∃aF:Bool,e=.returned (.tuple #[.agg #[.int .i64 am,.int .i64 ao,.string ap],.bool aF])/\
 stA prog 73 (⟨aL,0,none⟩:Addr) #[.int .i64 am,.int .i64 ao,.string ap] w89 λqT=>
 zKo K p6 b9 aF aL qT))/\(
 alE (.cells #[.int .i64 0,.int .i64 0,.string (⟨#[]⟩:ByteArray)] 73) bG λaL pe=>
 ∃S12:World->Prop,S12 pe/\(∀u,S12 u->S1 u)/\
 (
 Calls prog 145 #[] pe λe rJ=>
 ∃eY:Option Nat,e=.returned (.map eY)/\
 ∃S13:World->Prop,S13 rJ/\(∀u,S13 u->S12 u)/\
 ∃bD:Int,∃bE:Int,∃bM:Int,∃bN:Value,∃aT:Value,(∀w',S13 w'->(Instr.lookup 176 (.map eY) (.int .i64 lD) false).run prog w'=.ok (.agg #[.int .u8 bD,.int .i64 bE,.int .i64 bM,bN,aT]) w')/\
 ∃dL:ByteArray,∃pf:World,(convert 22 9 (.slice bI.a bI.len bI.cap)).run prog rJ=.ok (.string dL) pf/\
 ∃S14:World->Prop,S14 pf/\(∀u,S14 u->S13 u)/\
 fnE aT λf75 first75 be=>
 zQ6 prog f75=true/\Calls prog f75 (first75.toList ++ (([.string dL]:List Value) ++ be.toList)).toArray pf λe xv=>
 ∃am:Int,∃ao:Int,∃ap:ByteArray,∃aF:Bool,e=.returned (.tuple #[.agg #[.int .i64 am,.int .i64 ao,.string ap],.bool aF])/\
 stA prog 73 (⟨aL,0,none⟩:Addr) #[.int .i64 am,.int .i64 ao,.string ap] xv λj6=>
 zKo K p6 b9 aF aL j6)/\(
 ∃dL:ByteArray,∃ph:World,(convert 22 9 (.slice bI.a bI.len bI.cap)).run prog pe=.ok (.string dL) ph/\
 ∃S15:World->Prop,S15 ph/\(∀u,S15 u->S12 u)/\
 Calls prog 145 #[] ph λe rK=>
 ∃eY:Option Nat,e=.returned (.map eY)/\
 ∃S16:World->Prop,S16 rK/\(∀u,S16 u->S15 u)/\
 ∃bD:Int,∃bE:Int,∃bM:Int,∃bN:Value,∃aT:Value,(∀w',S16 w'->(Instr.lookup 176 (.map eY) (.int .i64 lD) false).run prog w'=.ok (.agg #[.int .u8 bD,.int .i64 bE,.int .i64 bM,bN,aT]) w')/\
 fnE aT λf75 first75 be=>
 zQ6 prog f75=true/\Calls prog f75 (first75.toList ++ (([.string dL]:List Value) ++ be.toList)).toArray rK λe xy=>
 ∃am:Int,∃ao:Int,∃ap:ByteArray,∃aF:Bool,e=.returned (.tuple #[.agg #[.int .i64 am,.int .i64 ao,.string ap],.bool aF])/\
 stA prog 73 (⟨aL,0,none⟩:Addr) #[.int .i64 am,.int .i64 ao,.string ap] xy λj7=>
 zKo K p6 b9 aF aL j7)))
theorem yWs {K:Bool->World->Prop} {p6:Option Addr} {b9:Bool} {cq:Nat} {bI:SV} {w9:World} {f:Fld} {part:List UInt8} (hb:w9.heap[cq]?=some (.cells #[.string f.name,.int .i64 f.kind,.int .i64 f.width,.bool f.null] 129)) (hf:zQo f=true) (hl:ByV w9 bI part)
  (tail:∀(wz:World) (aL:Nat),Pu w9 wz->wz.heap[aL]?=some (.cells #[.int .i64 (zJk f.kind part).kind,.int .i64 (zJk f.kind part).n,.string (zJk f.kind part).s] 73)->zKo K p6 b9 (okS f.kind part) aL wz):yK2 K p6 b9 cq bI w9:=by
 obtain⟨R5,hk5,hbody,hcall0⟩:=xZL hf
 have hsz:(bs part).size<=140737488355328:=by rw[zQ9,←hl.len];exact hl.lim
 have hcall:∀w,Calls prog R5.rd #[.string (bs part)] w λe w'=>e=.returned (.tuple #[zJ6 (zJk f.kind part),.bool (okS f.kind part)])/\Pu w w':=λw=>by
  have:=hcall0 (bs part) hsz w
  rw[zQQ]at this;exact this
 have kin:∀wz,Calls prog 145 #[] wz λe w'=>∃m:Nat,e=.returned (.map (some m))/\(∀u,Pu w' u->(Instr.lookup 176 (.map (some m)) (.int .i64 f.kind) false).run prog u=.ok (.agg #[.int .u8 R5.letter,.int .i64 R5.least,.int .i64 R5.most,.func (.func R5.wr) #[] #[],.func (.func R5.rd) #[] #[]]) u)/\Pu wz w':=λwz=>by
  refine(zVi wz).mono ?_
  rintro e w' ⟨m,rfl,hm,_,hp⟩
  refine⟨m,rfl,λu hu=>?_,hp⟩
  have:=zWG (hm.pu hu) f.kind false
  rw[hk5]at this;exact this
 have conv:∀{wz},Pu w9 wz->(convert 22 9 (.slice bI.a bI.len bI.cap)).run prog wz=.ok (.string (bs part)) wz:=λ{wz} h=>yJe (hl.pu h)
 -- the call, then the variable
 have ca:∀{wz:World},Pu w9 wz->Calls prog R5.rd #[.string (bs part)] wz λe cL=>∃am:Int,∃ao:Int,∃ap:ByteArray,∃aF:Bool,e=.returned (.tuple #[.agg #[.int .i64 am,.int .i64 ao,.string ap],.bool aF])/\
   alE (.cells #[.int .i64 0,.int .i64 0,.string (⟨#[]⟩:ByteArray)] 73) cL λaL bU=>stA prog 73 (⟨aL,0,none⟩:Addr) #[.int .i64 am,.int .i64 ao,.string ap] bU λct=>zKo K p6 b9 aF aL ct:=λ{wz} hz=>by
  refine(hcall wz).mono ?_
  rintro e w1 ⟨rfl,ar⟩
  exact⟨_,_,_,_,rfl,yQA rfl s25.symm rfl λw2 aq sL aM=>tail w2 _ ((hz.trans ar).trans aq) aM⟩
 -- the call, behind the variable
 have ac:∀{wz:World} {aL:Nat},Pu w9 wz->wz.heap[aL]?=some (.cells #[.int .i64 0,.int .i64 0,.string (⟨#[]⟩:ByteArray)] 73)->w9.heap.size<=aL->Calls prog R5.rd #[.string (bs part)] wz λe cL=>∃am:Int,∃ao:Int,∃ap:ByteArray,∃aF:Bool,e=.returned (.tuple #[.agg #[.int .i64 am,.int .i64 ao,.string ap],.bool aF])/\
   stA prog 73 (⟨aL,0,none⟩:Addr) #[.int .i64 am,.int .i64 ao,.string ap] cL λct=>zKo K p6 b9 aF aL ct:=λ{wz aL} hz iE hr=>by
  refine(hcall wz).mono ?_
  rintro e w1 ⟨rfl,ar⟩
  exact⟨_,_,_,_,rfl,zQi (ar.blk iE) s25.symm rfl rfl λw2 aM fY sL=>tail w2 _ ((hz.trans ar).andNew fY λi hi=>by omega) aM⟩
 refine zQc λbG dQ _=>⟨λu=>Pu bG u,Pu.refl _,f.kind,λu hu=>cl (hu.blk (dQ.blk hb)) 1,(kin bG).mono ?_,?_,alB λw2 aq aM=>?_⟩
 ·rintro e w1 ⟨m,rfl,hm,ar⟩
  have q1:=dQ.trans ar
  refine⟨some m,rfl,λu=>Pu w1 u,Pu.refl _,λu hu=>ar.trans hu,_,_,_,_,_,hm,⟨bs part,w1,conv q1,λu=>Pu w1 u,Pu.refl _,λu hu=>hu,⟨hbody,ca q1⟩,alB λw2 aq aM=>⟨λu=>Pu w2 u,Pu.refl _,λu hu=>aq.trans hu,hbody,ac (q1.trans aq) aM q1.size⟩⟩,alB λw2 aq aM=>?_⟩
  exact⟨λu=>Pu w2 u,Pu.refl _,λu hu=>aq.trans hu,bs part,w2,conv (q1.trans aq),λu=>Pu w2 u,Pu.refl _,λu hu=>hu,hbody,ac (q1.trans aq) aM q1.size⟩
 ·refine⟨bs part,bG,conv dQ,λu=>Pu bG u,Pu.refl _,λu hu=>hu,(kin bG).mono ?_,alB λw2 aq aM=>?_⟩
  ·rintro e w1 ⟨m,rfl,hm,ar⟩
   have q1:=dQ.trans ar
   exact⟨some m,rfl,λu=>Pu w1 u,Pu.refl _,λu hu=>ar.trans hu,_,_,_,_,_,hm,⟨hbody,ca q1⟩,alB λw2 aq aM=>⟨λu=>Pu w2 u,Pu.refl _,λu hu=>aq.trans hu,hbody,ac (q1.trans aq) aM q1.size⟩⟩
  ·refine⟨λu=>Pu w2 u,Pu.refl _,λu hu=>aq.trans hu,(kin w2).mono ?_⟩
   rintro e w1 ⟨m,rfl,hm,ar⟩
   exact⟨some m,rfl,λu=>Pu w1 u,Pu.refl _,λu hu=>ar.trans hu,_,_,_,_,_,hm,hbody,ac ((dQ.trans aq).trans ar) (ar.blk aM) dQ.size⟩
 ·refine⟨λu=>Pu w2 u,Pu.refl _,λu hu=>aq.trans hu,(kin w2).mono ?_,bs part,w2,conv (dQ.trans aq),λu=>Pu w2 u,Pu.refl _,λu hu=>hu,(kin w2).mono ?_⟩
  ·rintro e w1 ⟨m,rfl,hm,ar⟩
   exact⟨some m,rfl,λu=>Pu w1 u,Pu.refl _,λu hu=>ar.trans hu,_,_,_,_,_,hm,bs part,w1,conv ((dQ.trans aq).trans ar),λu=>Pu w1 u,Pu.refl _,λu hu=>hu,hbody,ac ((dQ.trans aq).trans ar) (ar.blk aM) dQ.size⟩
  ·rintro e w1 ⟨m,rfl,hm,ar⟩
   exact⟨some m,rfl,λu=>Pu w1 u,Pu.refl _,λu hu=>ar.trans hu,_,_,_,_,_,hm,hbody,ac ((dQ.trans aq).trans ar) (ar.blk aM) dQ.size⟩
theorem yZK {w:World} {l:List Fld} {s t:SV} {d:List UInt8} (h:zX3 w s l) (hall:l.all zQo=true) (iY:l.length<=16) (ht:ByV w t d) (hd:(d.length:Int)=zXK l) :
  Calls prog 163 #[.slice s.a s.len s.cap,.slice t.a t.len t.cap] w λe w'=>∃(g ok:Bool) (vs:List Val) (q:SV),e=.returned (.tuple #[.agg #[.bool g,.slice q.a q.len q.cap],.bool ok])/\zJY w w' q vs/\vs.length=l.length/\(∀v ∈ vs,zZR v.kind/\zZR v.n)/\Pu w w'/\
   ∀(r:Rec) (p:Int),zXC l p r.v->zJO zQu l r=d->g=r.gone/\vs=r.v/\ok=true:=by
 have hsl:=h.len
 have htl:=ht.len
 have hnl:=zYe l
 have hwide:=zJs (WOk.of hall)
 have hlw:(l.map (·.width)).sum<=254 * l.length:=hwide.2
 have xb:0<d.length:=by unfold zXK at hd;omega
 have hdb:(d.length:Int)<=10000:=by unfold zXK at hd;omega
 have hdw:1+zXo l<=d.length:=by unfold zXK at hd;omega
 refine yWC _ _ w _ (alB λw1 ar aB=>?_)
 obtain⟨b0,tP⟩:=zQM xb
 obtain⟨a0,ha0,hc0⟩:=(ht.pu ar).get _ _ tP
 refine⟨a0,ha0,by omega,by omega,_,hc0,yQA rfl s46.symm rfl λw2 aq sL aM=>(zWv (h.pu (ar.trans aq))).mono ?_⟩
 rintro e w3 ⟨rfl,au⟩
 refine⟨_,rfl,?_⟩
 have l1:w.heap.size<w1.heap.size:=zQx aB
 have l2:w1.heap.size<w2.heap.size:=zQx aM
 have z3:=au.size
 have yv:yQi w w2 w.heap.size w1.heap.size (((b0.toNat:Nat):Int) == 42) [] w3:=⟨⟨⟨none,0,0⟩,au.blk aM,zJY.nil w2 w3⟩,(aq.trans au).blk aB,z3,(ar.trans aq).trans au,by omega,l2,by omega,Nat.le_refl _,by omega⟩
 rw[zQa (by omega) (by omega)]
 refine zQw l.length (λk u w'=>u.2.2.2=(k:Int)/\u.1=(yQ1 l k:Nat)/\u.2.1=(zXV l k:Nat)/\∃vs:List Val,vs.length=k/\(∀v ∈ vs,zZR v.kind/\zZR v.n)/\yQi w w2 w.heap.size w1.heap.size (((b0.toNat:Nat):Int) == 42) vs w'/\
   ∀(r:Rec) (p:Int),zXC l p r.v->zJO zQu l r=d->vs=r.v.take k/\u.2.2.1=true) ⟨rfl,by show(1:Int)+((zXo l:Nat):Int)=_;unfold yQ1;simp,rfl,[],rfl,by simp,yv,λr p _ _=>⟨by simp,rfl⟩⟩ ?_
 rintro k J ⟨u1,u2,u3,u4⟩ w4 hk ⟨e4,e1,e2,vs,hvl,tD,st,hcond⟩ hJ
 obtain rfl:u4=(k:Int):=e4
 obtain rfl:u1=(yQ1 l k:Nat):=e1
 obtain rfl:u2=(zXV l k:Nat):=e2
 have hcond:∀(r:Rec) (p:Int),zXC l p r.v->zJO zQu l r=d->vs=r.v.take k/\u3=true:=hcond
 have hnk:=yK3 l k
 have hfl:=List.length_filter_le (·.null) l
 dsimp only
 refine Br.of (λq=>?_) (λq=>?_)
 ·have aJ:k<l.length:=by have:=zQk q;omega
  obtain⟨f,hf⟩:=zQM aJ
  have hfB:=List.all_eq_true.1 hall f (List.mem_of_getElem? hf)
  have hwf:=zXt hfB
  have hoff:=xY3 hall hf
  obtain⟨a,ha,hi,_,_,_,c0,c1,c2,c3⟩:=zJl (h.pu st.pu) hf
  refine⟨a,ha,by omega,by omega,_,c0,_,c1,_,c2,_,c3,yQA rfl s23.symm rfl λw5 aR oL bo=>⟨_,cl bo 2,_,cl bo 2,?_⟩⟩
  have xO:=st.on aR
  have ht5:=ht.pu xO.pu
  obtain⟨bI,e40,h40⟩:=ht5.part3 (lo:=yQ1 l k) (hi:=yQ1 l k+f.width.toNat) (by omega) (by omega)
  rw[show yQ1 l k+f.width.toNat - yQ1 l k=f.width.toNat by omega]at h40
  have ew:IntKind.i64.wrap (((yQ1 l k:Nat):Int)+f.width)=((yQ1 l k+f.width.toNat:Nat):Int):=by rw[zQa (by omega) (by omega)];omega
  rw[ew,zQa (n:=((zXV l k:Nat):Int)+1) (by omega) (by omega)]
  refine⟨bI,w5,e40,_,cl bo 2,_,cl bo 3,?_⟩
  rw[ew]
  have hpart:∀(r:Rec) (p:Int),zXC l p r.v->zJO zQu l r=d->∀v,r.v[k]?=some v->(d.drop (yQ1 l k)).take f.width.toNat=zQu f v:=λr p hR hrow v hv=>xJ7 hall hR hrow hf hv
  generalize hpt:(d.drop (yQ1 l k)).take f.width.toNat=part at *
  -- behind the value
  have next:∀{nk:Int} {v:Val} {b:Bool} {w':World},nk=(zXV l (k+1):Nat)->zZR v.kind/\zZR v.n->yQi w w2 w.heap.size w1.heap.size (((b0.toNat:Nat):Int) == 42) (vs ++ [v]) w'->
    (∀(r:Rec) (p:Int),zXC l p r.v->zJO zQu l r=d->u3=true->∀v',r.v[k]?=some v'->v=v'/\b=true)->J (((yQ1 l k+f.width.toNat:Nat):Int),nk,b,IntKind.i64.wrap ((k:Int)+1)) w':=λ{nk v b w'} q1 q2 q3 q4=>by
   rw[zQa (by omega) (by omega)]
   refine hJ _ _ aJ ⟨by dsimp only;omega,by dsimp only;rw[xZy hall hf],q1,vs ++ [v],by simp[hvl],λx hx=>?_,q3,λr p hR hrow=>?_⟩
   ·rcases List.mem_append.1 hx with hx|hx
    ·exact tD x hx
    ·simp at hx;subst hx;exact q2
   ·obtain⟨h1,h2⟩:=hcond r p hR hrow
    obtain⟨v',hv'⟩:=zQM (l:=r.v) (k:=k) (by have:=hR.1;omega)
    obtain⟨h3,h4⟩:=q4 r p hR hrow h2 v' hv'
    exact⟨by rw[zQD hv',←h1,h3],h4⟩
  -- a value that is there
  have reg:∀{nk:Int},nk=(zXV l (k+1):Nat)->(∀(r:Rec) (p:Int),zXC l p r.v->zJO zQu l r=d->∀v',r.v[k]?=some v'->v'.kind ≠ 0)->
    yK2 (λb w'=>J (((yQ1 l k+f.width.toNat:Nat):Int),nk,b,IntKind.i64.wrap ((k:Int)+1)) w') (some ⟨w1.heap.size,0,none⟩) u3 w4.heap.size bI w5:=λ{nk} hnk hkind=>by
   refine yWs bo hfB h40 λwz aL hz iE=>?_
   have stz:=xO.on hz
   refine Br.of (λq1=>xXE stz (v:=zJk f.kind part) iE (by omega) λw' st'=>next hnk (yKT _ _) st' λr p hR hrow hu v' hv'=>?_) (λq1=>xXE stz (v:=zJk f.kind part) iE (by omega) λw' st'=>next hnk (yKT _ _) st' λr p hR hrow hu v' hv'=>?_)
   ·have:=yVl (hR.2 k f v' hf hv') (hkind r p hR hrow v' hv')
    rw[←hpart r p hR hrow v' hv']at this;exact this
   ·rw[q1]at hu;cases hu
  refine Br.of (λq1=>⟨rfl,by decide,?_⟩) (λq1=>reg (by rw[zVz hf,if_neg (by rw[q1];simp)]) λr p hR hrow v' hv' h0=>?_)
  ·have hm1:zXV l k+1<=(l.filter (·.null)).length:=by
    have h1:=zVz hf
    rw[if_pos q1]at h1
    have h2:=yK3 l (k+1)
    omega
   have hq:zXV l k / 8<zXo l:=by unfold zXo;omega
   have e1:((zXV l k:Nat):Int).tdiv 8=((zXV l k / 8:Nat):Int):=zKL _ 8
   have e2:((zXV l k:Nat):Int).tmod 8=((zXV l k % 8:Nat):Int):=zWE _ 8
   rw[e1,e2,zQa (n:=((zXV l k / 8:Nat):Int)) (by omega) (by omega),zQa (n:=1+((zXV l k / 8:Nat):Int)) (by omega) (by omega)]
   obtain⟨bf,hbf⟩:=zQM (l:=d) (k:=1+zXV l k / 8) (by omega)
   obtain⟨af,haf,hcf⟩:=ht5.get _ _ hbf
   refine⟨af,haf,by omega,by omega,_,by rw[show(1+((zXV l k / 8:Nat):Int)).toNat=1+zXV l k / 8 by omega];exact hcf,rfl,by decide,by omega,?_⟩
   rw[zXj,bit_p _ bf.toNat_lt _ (Nat.mod_lt _ (by decide))]
   have enk:((zXV l k:Nat):Int)+1=((zXV l (k+1):Nat):Int):=by rw[zVz hf,if_pos q1];omega
   refine Br.of (λq2=>?_) (λq2=>reg enk λr p hR hrow v' hv' h0=>?_)
   ·obtain⟨q,h6,tw⟩:=xO.ex
    refine⟨q,cl h6 1,xWu (v:=noV) xO h6 tw rfl (by omega) λw' st'=>next enk ⟨⟨by decide,by decide⟩,⟨by decide,by decide⟩⟩ st' λr p hR hrow hu v' hv'=>⟨?_,hu⟩⟩
    have hbit:=yKr hR hrow hf hv' q1 hbf
    rw[q2]at hbit
    have h0:v'.kind=0:=by simpa using hbit.symm
    have hRv:=hR.2 k f v' hf hv'
    cases hRv with
    | nil hv hn=>exact hv.symm
    | truth hk hw hv hn=>rw[hv]at h0;exact absurd h0 (by simp)
    | num hk hw hv hn hl=>rw[hv]at h0;exact absurd h0 (by simp)
    | date hk hw hv hn=>rw[hv]at h0;exact absurd h0 (by simp)
    | text hk hw hv hl hb ht=>rw[hv]at h0;exact absurd h0 (by simp)
    | memo hk hw hv hn=>rw[hv]at h0;exact absurd h0 (by simp)
   ·have hbit:=yKr hR hrow hf hv' q1 hbf
    rw[q2,decide_eq_true h0]at hbit;cases hbit
  ·have hRv:=hR.2 k f v' hf hv'
   cases hRv with
   | nil hv hn=>rw[q1]at hn;cases hn
   | truth hk hw hv hn=>rw[hv]at h0;exact absurd h0 (by simp)
   | num hk hw hv hn hl=>rw[hv]at h0;exact absurd h0 (by simp)
   | date hk hw hv hn=>rw[hv]at h0;exact absurd h0 (by simp)
   | text hk hw hv hl hb ht=>rw[hv]at h0;exact absurd h0 (by simp)
   | memo hk hw hv hn=>rw[hv]at h0;exact absurd h0 (by simp)
 ·have aJ:k=l.length:=by have:=zQd q;omega
  subst aJ
  obtain⟨q,h6,hq⟩:=st.ex
  have hne:=st.ne
  refine⟨_,cl h6 0,q,cl h6 1,zQi st.b4 s46.symm rfl rfl λw5 bo cN oL=>⟨_,cl bo 0,q,cl bo 1,_,u3,vs,q,rfl,?_,hvl,tD,st.pu.andNew cN λi hi=>by omega,λr p hR hrow=>?_⟩⟩
  ·exact(hq.fr cN λi hi=>by have:=hq.2 i hi;omega).low (by omega)
  ·obtain⟨h1,h2⟩:=hcond r p hR hrow
   refine⟨?_,by rw[h1,List.take_of_length_le (by have:=hR.1;omega)],h2⟩
   rw[xJn hrow tP]
   cases r.gone <;> decide
end Go.Proofs.YtaeecpjhfmcliaaGreatDoor
/- Table: the reference's reading of a row's bytes. No condition. -/
set_option maxHeartbeats 2000000
namespace Go.Proofs.YtaeecpjhfmcliaaGreatDoor
open Go.Sh Go.RowKit Tryz
def w84(K:Int->Int->World->Prop)(l0:SV)(n8 n7:Int)(bU:World):Prop:=
 ∃a21:Addr,l0.a=some a21/\0<=n8/\n8<((l0.len:Nat):Int)/\
 ∃tk:Int,bU.cell? ((a21.add (n8.toNat * 4)).add 2)=some (.int .i64 tk)/\K tk n7 bU
end Go.Proofs.YtaeecpjhfmcliaaGreatDoor
/- Table: rows of fields and of records that a call has made; a field's entry, read by both packages. No condition. -/
set_option maxHeartbeats 1000000
namespace Go.Proofs.YtaeecpjhfmcliaaGreatDoor
open Go.Sh Go.RowKit Tryz
theorem u32':prog.underlying 32=some (.slice 129):=by kernel_rfl
theorem info23:(prog.info? 129).map (λi=>(i.zero,i.size,i.bytes))=some (some (.agg #[.string ⟨#[]⟩,.int .i64 0,.int .i64 0,.bool false]),4,40):=by kernel_rfl
theorem u33:prog.underlying 33=some (.slice 67):=by kernel_rfl
theorem info46:(prog.info? 67).map (λi=>(i.zero,i.size,i.bytes))=some (some (.agg #[.bool false,.slice none 0 0]),2,32):=by kernel_rfl
theorem zZO(f:Fld):(zYl f).length=4:=rfl
def zKS(w0 w:World)(s:SV)(l:List Fld):Prop:=zQl w 129 4 s (l.flatMap zYl)/\∀b ∈ zQe s,w0.heap.size<=b
theorem zKS.len{w0 w:World}{s:SV}{l:List Fld}(h:zKS w0 w s l):s.len=l.length:=h.1.len zZO (by decide)
theorem zKS.pu{w0 w w':World}{s:SV}{l:List Fld}(h:zKS w0 w s l)(hp:Pu w w'):zKS w0 w' s l:=⟨h.1.pu hp,h.2⟩
theorem zKS.fr{B:Nat->Prop}{w0 w w':World}{s:SV}{l:List Fld}(h:zKS w0 w s l)(hf:Fr B w w')(hn:∀k ∈ zQe s,¬B k):zKS w0 w' s l:=⟨h.1.fr hf hn,h.2⟩
theorem zKS.nil(w0 w:World):zKS w0 w ⟨none,0,0⟩ []:=⟨zQl.nil w 129 4,by simp[zQe]⟩
theorem zKS.low{w0 w1 w:World}{s:SV}{l:List Fld}(h:zKS w1 w s l)(hz:w0.heap.size<=w1.heap.size):zKS w0 w s l:=⟨h.1,λb hb=>Nat.le_trans hz (h.2 b hb)⟩
theorem zKS.push {w0 w:World} {s:SV} {l:List Fld} (h:zKS w0 w s l) (hz:w0.heap.size<=w.heap.size) {r:Nat} {f:Fld} {c:Array Value} (hr:w.heap[r]?=some (.cells c 129)) (hc:c=#[.string f.name,.int .i64 f.kind,.int .i64 f.width,.bool f.null]) (hb:l.length<=1000000) :
  ∃(s':SV) (w':World),(Builtin.append_ #[32,32] 32 #[.slice s.a s.len s.cap,.slice (some ⟨r,0,none⟩) 1 1]).run prog w=.ok (.slice s'.a s'.len s'.cap) w'/\zKS w0 w' s' (l ++ [f])/\Fr (· ∈ zQe s) w w':=by
 subst hc
 have h1:=h.len
 obtain⟨s',w',hra,hrow,hf,hblk,_⟩:=zQy (P:=prog) (ty:=32) u32' info23 rfl (by decide) h.1 (A:=some ⟨r,0,none⟩) (m:=1) (c:=1) (news:=zYl f) rfl (λj u hu=>⟨_,rfl,by rw[cl hr];simpa using hu⟩) (λu hu=>by simp[zYl]at hu;rcases hu with rfl|rfl|rfl|rfl <;> rfl) (by omega)
 refine⟨s',w',hra,⟨by simpa using hrow,λb hb=>?_⟩,hf⟩
 rcases hblk b hb with h2|h2
 ·exact h.2 b h2
 ·omega
def F64(l:List Fld):Prop:=∀f ∈ l,zZR f.kind/\zZR f.width
def V64(l:List Val):Prop:=∀v ∈ l,zZR v.kind/\zZR v.n
theorem zKS.rd{w0 w:World}{s:SV}{l:List Fld}(h:zKS w0 w s l)(hb:l.length<=1000000)(pr:F64 l):zX3 w s l:=⟨h.len,h.1.le_cap.1,by have:=h.len;omega,λi f hf=>by
 obtain⟨a,h1,_,c0⟩:=h.1.elem zZO hf (o:=0) rfl
 obtain⟨a1,qj,_,c1⟩:=h.1.elem zZO hf (o:=1) rfl
 obtain⟨a2,h1'',_,c2⟩:=h.1.elem zZO hf (o:=2) rfl
 obtain⟨a3,h1''',_,c3⟩:=h.1.elem zZO hf (o:=3) rfl
 rw[h1]at qj h1'' h1''';cases qj;cases h1'';cases h1'''
 refine⟨a,h1,zYl f,⟨rfl,pr f (List.mem_of_getElem? hf)⟩,λj v hv=>?_⟩
 rcases j with _|_|_|_|j <;> simp[zYl]at hv
 ·subst hv;exact c0
 ·subst hv;exact c1
 ·subst hv;exact c2
 ·subst hv;exact c3⟩
theorem zJY.rdS{w0 w:World}{s:SV}{l:List Val}(h:zJY w0 w s l)(hb:l.length<=1000000)(pr:V64 l):zX3 w s l:=⟨h.len,h.1.le_cap.1,by have:=h.len;omega,λi f hf=>by
 obtain⟨a,h1,_,c0⟩:=h.1.elem zXA hf (o:=0) rfl
 obtain⟨a1,qj,_,c1⟩:=h.1.elem zXA hf (o:=1) rfl
 obtain⟨a2,h1'',_,c2⟩:=h.1.elem zXA hf (o:=2) rfl
 rw[h1]at qj h1'';cases qj;cases h1''
 refine⟨a,h1,zVN f,⟨rfl,pr f (List.mem_of_getElem? hf)⟩,λj v hv=>?_⟩
 rcases j with _|_|_|j <;> simp[zVN]at hv
 ·subst hv;exact c0
 ·subst hv;exact c1
 ·subst hv;exact c2⟩
def yKk(x:Bool × SV):List Value:=[.bool x.1,.slice x.2.a x.2.len x.2.cap]
theorem zQT(x:Bool × SV):(yKk x).length=2:=rfl
theorem zQq{w:World}{e e':TypeId}{sz sz':Nat}{s s':SV}{vs vs':List Value}(h:zQl w e sz s vs)(h':zQl w e' sz' s' vs')(hne:e ≠ e'):∀k ∈ zQe s,¬k ∈ zQe s':=λk hk hk'=>by
 obtain⟨_,rfl|⟨g,cur,h3,h4,_⟩⟩:=h
 ·simp[zQe]at hk
 obtain⟨_,rfl|⟨g',cur',h3',h4',_⟩⟩:=h'
 ·simp[zQe]at hk'
 simp[zQe,h3]at hk
 simp[zQe,h3']at hk'
 subst hk;subst hk'
 rw[h4]at h4'
 simp only[Option.some.injEq,Obj.cells.injEq]at h4'
 exact hne h4'.2.1
def zKj(w0 w:World)(s:SV)(rs:List Rec):Prop:=∃qs:List (Bool × SV),zQl w 67 2 s (qs.flatMap yKk)/\(∀b ∈ zQe s,w0.heap.size<=b)/\qs.length=rs.length/\∀(i:Nat) (r:Rec) (x:Bool × SV),rs[i]?=some r->qs[i]?=some x->x.1=r.gone/\zJY w0 w x.2 r.v
theorem zKj.len{w0 w:World}{s:SV}{rs:List Rec}(h:zKj w0 w s rs):s.len=rs.length:=by
 obtain⟨qs,h1,_,h3,_⟩:=h
 rw[h1.len zQT (by decide),h3]
theorem zKj.own{w0 w:World}{s:SV}{rs:List Rec}(h:zKj w0 w s rs):∀b ∈ zQe s,w0.heap.size<=b:=h.choose_spec.2.1
theorem zKj.pu{w0 w w':World}{s:SV}{rs:List Rec}(h:zKj w0 w s rs)(hp:Pu w w'):zKj w0 w' s rs:=by
 obtain⟨qs,h1,h2,h3,h4⟩:=h
 exact⟨qs,h1.pu hp,h2,h3,λi r x hr hx=>⟨(h4 i r x hr hx).1,(h4 i r x hr hx).2.pu hp⟩⟩
theorem zKj.one {w0 w w':World} {b:Nat} {s:SV} {rs:List Rec} (h:zKj w0 w s rs) (hf:Fr (·=b) w w') (hb:b<w0.heap.size):zKj w0 w' s rs:=by
 obtain⟨qs,h1,h2,h3,h4⟩:=h
 exact⟨qs,h1.fr hf λk hk e=>by have:=h2 k hk;omega,h2,h3,λi r x hr hx=>⟨(h4 i r x hr hx).1,(h4 i r x hr hx).2.fr hf λk hk e=>by have:=(h4 i r x hr hx).2.2 k hk;omega⟩⟩
theorem zKj.low{w0 w1 w:World}{s:SV}{rs:List Rec}(h:zKj w1 w s rs)(hz:w0.heap.size<=w1.heap.size):zKj w0 w s rs:=by
 obtain⟨qs,h1,h2,h3,h4⟩:=h
 exact⟨qs,h1,λb hb=>Nat.le_trans hz (h2 b hb),h3,λi r x hr hx=>⟨(h4 i r x hr hx).1,(h4 i r x hr hx).2.low hz⟩⟩
theorem zKj.nil(w0 w:World):zKj w0 w ⟨none,0,0⟩ []:=⟨[],zQl.nil w 67 2,by simp[zQe],rfl,λi r x hr=>by simp at hr⟩
theorem zKj.push {w0 w:World} {s q:SV} {rs:List Rec} {g:Bool} {vs:List Val} (h:zKj w0 w s rs) (hz:w0.heap.size<=w.heap.size) (hq:zJY w0 w q vs) {r:Nat} {c:Array Value} (hr:w.heap[r]?=some (.cells c 67)) (hc:c=#[.bool g,.slice q.a q.len q.cap]) (hb:rs.length<=1000000) :
  ∃(s':SV) (w':World),(Builtin.append_ #[33,33] 33 #[.slice s.a s.len s.cap,.slice (some ⟨r,0,none⟩) 1 1]).run prog w=.ok (.slice s'.a s'.len s'.cap) w'/\zKj w0 w' s' (rs ++ [⟨g,vs⟩])/\Fr (· ∈ zQe s) w w':=by
 subst hc
 have h1:=h.len
 obtain⟨qs,r1,r2,r3,r4⟩:=h
 obtain⟨s',w',hra,hrow,hf,hblk,_⟩:=zQy (P:=prog) (ty:=33) u33 info46 rfl (by decide) r1 (A:=some ⟨r,0,none⟩) (m:=1) (c:=1) (news:=yKk (g,q)) rfl (λj u hu=>⟨_,rfl,by rw[cl hr];simpa[yKk] using hu⟩) (λu hu=>by simp[yKk]at hu;rcases hu with rfl|rfl <;> rfl) (by omega)
 refine⟨s',w',hra,⟨qs ++ [(g,q)],by simpa using hrow,λb hb=>?_,by simp[r3],λi rr x jw hx=>?_⟩,hf⟩
 ·rcases hblk b hb with h2|h2
  ·exact r2 b h2
  ·omega
 ·rcases Nat.lt_trichotomy i rs.length with hi|hi|hi
  ·rw[List.getElem?_append_left hi]at jw
   rw[List.getElem?_append_left (by omega)]at hx
   obtain⟨e1,e2⟩:=r4 i rr x jw hx
   exact⟨e1,e2.fr hf (zQq e2.1 r1 (by decide))⟩
  ·subst hi
   rw[List.getElem?_append_right (Nat.le_refl _),Nat.sub_self]at jw
   rw[←r3,List.getElem?_append_right (Nat.le_refl _),Nat.sub_self]at hx
   simp at jw hx;subst jw hx
   exact⟨rfl,hq.fr hf (zQq hq.1 r1 (by decide))⟩
  ·rw[List.getElem?_eq_none (by simp;omega)]at jw;cases jw
def R64(rs:List Rec):Prop:=∀r ∈ rs,V64 r.v/\r.v.length<=1000000
theorem zKj.rd{w0 w:World}{s:SV}{rs:List Rec}(h:zKj w0 w s rs)(hb:rs.length<=1000000)(pr:R64 rs):zX3 w s rs:=by
 have hl:=h.len
 obtain⟨qs,r1,r2,r3,r4⟩:=h
 refine⟨hl,r1.le_cap.1,by omega,λi r hr=>?_⟩
 obtain⟨x,hx⟩:=zQM (l:=qs) (k:=i) (by have:=(List.getElem?_eq_some_iff.1 hr).1;omega)
 obtain⟨e1,e2⟩:=r4 i r x hr hx
 obtain⟨a,h1,_,c0⟩:=r1.elem zQT hx (o:=0) rfl
 obtain⟨a1,qj,_,c1⟩:=r1.elem zQT hx (o:=1) rfl
 rw[h1]at qj;cases qj
 obtain⟨q1,q2⟩:=pr r (List.mem_of_getElem? hr)
 refine⟨a,h1,_,⟨x.2,rfl,e2.rdS q2 q1⟩,λj v hv=>?_⟩
 rcases j with _|_|j <;> simp at hv
 ·subst hv;rw[←e1];exact c0
 ·subst hv;exact c1
def yQg(l:List UInt8):List UInt8:=(l.reverse.dropWhile (· == 0)).reverse
theorem kQ1(s:ByteArray)(hs:s.size<=140737488355328)(w:World):Calls prog 119 #[.string s,.string ⟨#[0]⟩] w λe w'=>e=.returned (.string (bs (yQg s.data.toList)))/\Pu w w':=
 (Any.strings_TrimRight_one Tryz.lays162 s 0 (by decide) w (by omega)).mono λe w' ⟨h1,h2⟩=>⟨h1,h2 ▸ Pu.refl _⟩
theorem zWx(l:List UInt8)(hl:∀b ∈ l,b ≠ 0)(j:Nat):yQg (l ++ List.replicate j 0)=l:=by
 unfold yQg
 rw[List.reverse_append,List.reverse_replicate]
 have e1:∀(j:Nat) (x:List UInt8),(List.replicate j 0 ++ x).dropWhile (· == 0)=x.dropWhile (· == 0):=by
  intro j x
  induction j with
  | zero=>rfl
  | succ j ih=>rw[List.replicate_succ,List.cons_append,List.dropWhile_cons];simp only[beq_self_eq_true,if_true];exact ih
 rw[e1]
 have e2:l.reverse.dropWhile (· == 0)=l.reverse:=by
  cases h:l.reverse with
  | nil=>rfl
  | cons a r=>
   have ha:a ∈ l:=by rw[←List.mem_reverse,h];simp
   rw[List.dropWhile_cons,if_neg (by simpa using hl a ha)]
 rw[e2,List.reverse_reverse]
theorem xZA(l:List UInt8):(yQg l).length<=l.length:=by
 unfold yQg
 have h:=List.IsSuffix.length_le (List.dropWhile_suffix (· == (0:UInt8)) (l:=l.reverse))
 simpa using h
theorem zVx{f:Fld}(h:zQo f=true):∀b ∈ f.name.data.toList,b ≠ 0:=λb hb=>by
 unfold zQo zZ3 at h
 simp only[Bool.and_eq_true]at h
 have h1:=List.all_eq_true.1 h.1.1.2 b hb
 intro e;subst e;revert h1;decide
theorem zWD{n:Int}(h:0<=n/\n<=255):(((zZI n).toNat:Nat):Int)=n:=by
 unfold zZI
 have:(UInt8.ofNat (n % 256).toNat).toNat=(n % 256).toNat:=by simp;omega
 rw[this];omega
theorem zWr{f:Fld}(hf:zQo f=true){d:List UInt8}(hd:zQN f=d):d.take 10=f.name.data.toList ++ List.replicate (10 - f.name.size) 0/\d[10]?=some (zVv f.kind)/\d[11]?=some (zZI f.width)/\d[12]?=some (yY6 f.null):=by
 obtain⟨_,oV,_⟩:=zXb hf
 have hl:(f.name.data.toList ++ List.replicate (10 - f.name.size) (0:UInt8)).length=10:=by rw[List.length_append,zQ3,List.length_replicate];omega
 subst hd
 unfold zQN
 refine⟨?_,?_,?_,?_⟩
 ·rw[List.take_append_of_le_length (by omega),List.take_of_length_le (by omega)]
 ·rw[List.getElem?_append_right (by omega),hl];rfl
 ·rw[List.getElem?_append_right (by omega),hl];rfl
 ·rw[List.getElem?_append_right (by omega),hl];rfl
theorem yJR{k:Int}{K:K5}(h:zXd k=some K):(k,K) ∈ zZh:=AL.get_mem h
theorem yXG:∀p ∈ zZh,∀q ∈ zZh,p.2.letter=q.2.letter->p.1=q.1:=by decide
theorem xY2:∀p ∈ zZh,zZR p.1:=λp hp=>by
 have:∀p ∈ zZh,0<=p.1/\p.1<=5:=by decide
 have:=this p hp
 exact⟨by omega,by omega⟩
def KindSo (b:UInt8) (kd:Int) (todo:List (Int × K5)):Prop:=(∀p ∈ zZh,p.2.letter=((b.toNat:Nat):Int)->p ∈ todo∨kd=p.1)/\(kd=0∨∃p ∈ zZh,p.2.letter=((b.toNat:Nat):Int)/\kd=p.1)
theorem yJx{w:World}{t:SV}{d:List UInt8}(ht:ByV w t d)(hd:d.length=16):Calls prog 160 #[.slice t.a t.len t.cap] w λe w'=>∃f':Fld,e=.returned (yQk f')/\zZR f'.kind/\zZR f'.width/\f'.name.size<=10/\Pu w w'/\∀f,zQo f=true->zQN f=d->f'=f:=by
 have htl:=ht.len
 have htc:=ht.cap
 obtain⟨dS,oV⟩:=zQM (l:=d) (k:=10) (by omega)
 obtain⟨qt,qW⟩:=zQM (l:=d) (k:=11) (by omega)
 obtain⟨cP,nD⟩:=zQM (l:=d) (k:=12) (by omega)
 have i6:=dS.toNat_lt
 have dT:=qt.toNat_lt
 refine yVy _ w _ (alB λw1 ar aB=>zQc λw2 aq _=>?_)
 have aG:=ar.trans aq
 obtain⟨dY,ha11,hc11⟩:=(ht.pu aG).get _ _ qW
 obtain⟨kR,ha12,hc12⟩:=(ht.pu aG).get _ _ nD
 have hsub:∀{wz},Pu w2 wz->(convert 22 9 (.slice (if t.cap=0 then t.a else t.a.map (λx=>x.add (0 * 1))) ((10:Int).toNat - 0) (t.cap - 0))).run prog wz=.ok (.string (bs (d.take 10))) wz:=λ{wz} hz=>by
  have h1:=(ht.pu (aG.trans hz)).sub (lo:=0) (hi:=10) (by omega) (by omega)
  rw[List.drop_zero]at h1
  exact yJe h1
 have hl10:(bs (d.take 10)).size=10:=by rw[zQ9,List.length_take];omega
 have trim:∀wz,Calls prog 119 #[.string (bs (d.take 10)),.string (⟨#[0]⟩:ByteArray)] wz λe w'=>e=.returned (.string (bs (yQg (d.take 10))))/\Pu wz w':=λwz=>by
  have:=kQ1 (bs (d.take 10)) (by omega) wz
  rw[zQQ]at this;exact this
 have hnm:(bs (yQg (d.take 10))).size<=10:=by
  have:=xZA (d.take 10)
  rw[List.length_take]at this
  rw[zQ9];omega
 have r2lt:w.heap.size<w1.heap.size:=zQx aB
 have z2:=aq.size
 -- behind the variable's first values
 have main:∀{wz:World} {r3:Nat},Pu w2 wz->w2.heap.size<=r3->wz.heap[r3]?=some (.cells #[.string (bs (yQg (d.take 10))),.int .i64 0,.int .i64 (IntKind.i64.wrap ((qt.toNat:Nat):Int)),.bool (((cP.toNat:Nat):Int) == 1)] 129)->
   Calls prog 145 #[] wz λe dV=>∃rI:Option Nat,e=.returned (.map rI)/\∃oo:Option Addr,∃dy:World,(Instr.range 176 (.map rI)).run prog dV=.ok (.pointer oo) dy/\
    yZB (λe w'=>∃f':Fld,e=.returned (yQk f')/\zZR f'.kind/\zZR f'.width/\f'.name.size<=10/\Pu w w'/\∀f,zQo f=true->zQN f=d->f'=f) t (some (⟨w.heap.size,0,none⟩:Addr)) (some (⟨r3,0,none⟩:Addr)) oo [] dy:=λ{wz r3} hz hr3 bn=>by
  rw[zQa (n:=((qt.toNat:Nat):Int)) (by omega) (by omega)]at bn
  refine(zVi wz).mono ?_
  rintro e w3 ⟨m,rfl,hm,hml,au⟩
  obtain⟨w4,e4,hit4,aK,yt⟩:=hm.range (t:=176) xYP
  refine⟨some m,rfl,_,w4,e4,?_⟩
  have b3:=(au.trans aK).blk bn
  have l3:r3<wz.heap.size:=zQx bn
  have z3:=au.size
  have zz:=hz.size
  have p4:Pu w2 w4:=(hz.trans au).trans aK
  refine xJJ (σ:=Unit) zZh.length (λn _ w'=>∃(todo:List (Int × K5)) (kd:Int),todo.length=n/\(∀p ∈ todo,p ∈ zZh)/\zZe w' yV8 zYA w3.heap.size m zZh todo/\KindSo dS kd todo/\w4.heap.size<=w'.heap.size/\Pu w2 w'/\
   w'.heap[r3]?=some (.cells #[.string (bs (yQg (d.take 10))),.int .i64 kd,.int .i64 ((qt.toNat:Nat):Int),.bool (((cP.toNat:Nat):Int) == 1)] 129)) ⟨zZh,0,rfl,λp hp=>hp,hit4,⟨λp hp _=>.inl hp,.inl rfl⟩,Nat.le_refl _,p4,b3⟩ ?_
  rintro n J _ w5 ⟨todo,kd,hn,hall,hit,⟨hk1,aJ⟩,hz5,aR,bo⟩ hJ
  rcases hit.next (P:=prog) 0 with⟨hnil,hr⟩|⟨p,hpm,w6,hr,iJ,yw,hit6,hen⟩
  ·refine .inl ⟨w5,hr,?_⟩
   subst hnil
   refine⟨_,cl bo 0,_,cl bo 1,_,cl bo 2,_,cl bo 3,zQi (aR.blk (aq.blk aB)) s23.symm rfl rfl λw6 fU iJ yw=>⟨_,cl fU 0,_,cl fU 1,_,cl fU 2,_,cl fU 3,⟨bs (yQg (d.take 10)),kd,((qt.toNat:Nat):Int),((cP.toNat:Nat):Int) == 1⟩,rfl,?_,⟨by show _<=((qt.toNat:Nat):Int);omega,by show((qt.toNat:Nat):Int)<=_;omega⟩,hnm,(aG.trans aR).andNew iJ λi hi=>by omega,λf hf hd2=>?_⟩⟩
   ·rcases aJ with h|⟨p,hp,_,h⟩
    ·show zZR kd;rw[h];exact⟨by decide,by decide⟩
    ·show zZR kd;rw[h];exact xY2 p hp
   ·obtain⟨e1,e2,e3,e4'⟩:=zWr hf hd2
    obtain⟨_,_,K,hK,hKl⟩:=zXb hf
    rw[oV]at e2;rw[qW]at e3;rw[nD]at e4'
    have e2:=Option.some.inj e2
    have e3:=Option.some.inj e3
    have e4':=Option.some.inj e4'
    have hwf:=zXt hf
    rcases hk1 (f.kind,K) (yJR hK) (by rw[e2];exact hKl)with h|h
    ·cases h
    obtain⟨fn,fk,fw,fnl⟩:=f
    simp only at *
    congr 1
    ·rw[e1,zWx _ (zVx hf),yJt]
    ·rw[e3];exact zWD (by omega)
    ·rw[e4'];cases fnl <;> decide
  ·refine .inr ⟨_,_,w6,hr,_,_,w6,hen,?_⟩
   simp only[xYy,zYA,kQ3,dHd_mk,kQf]
   have fU:=iJ.blk bo (show ¬r3=w3.heap.size by omega)
   have bB:Pu w2 w6:=aR.andNew iJ λi hi=>by omega
   refine yQA rfl s102.symm (kQk rfl rfl) λw7 cv hs7 j8=>zQc λw8 bP _=>?_
   have p8:=(bB.trans cv).trans bP
   obtain⟨dx,tE,tF⟩:=(ht.pu (aG.trans p8)).get _ _ oV
   have b8:=(cv.trans bP).blk fU
   have hit8:=hit6.fr (Fr.pu (cv.trans bP):Fr (λ_=>False) w6 w8) (λh=>h) (λh=>h)
   have hlen:=AL.length_del hpm hit.nodup
   have hperm:=AL.perm_del hpm hit.nodup
   have xc:∀q ∈ AL.del todo p.1,q ∈ zZh:=λq hq=>hall q (hperm.symm.subset (List.mem_cons_of_mem _ hq))
   have z6:=yw
   have z78:=(cv.trans bP).size
   refine⟨_,cl0 (bP.blk j8),dx,tE,by omega,by omega,_,tF,Br.of (λq=>?_) (λq=>?_)⟩
   ·have hq:p.2.letter=((dS.toNat:Nat):Int):=zQG q
    show st1 ((⟨r3,0,none⟩:Addr).add 1) _ w8 _
    rw[zQr]
    refine zQt b8 (by simp) λw9 hw9 oM=>?_
    have pn:Fr (·=r3) w8 w9:=by rw[hw9];exact Fr.cell w8 _ _ _
    have z9:w9.heap.size=w8.heap.size:=by rw[hw9];simp
    refine hJ _ () w9 (by omega) ⟨AL.del todo p.1,p.1,rfl,xc,hit8.fr pn (by omega) (by omega),⟨λq' hq' hl'=>.inr (yXG p (hall p hpm) q' hq' (by rw[hq,hl'])),.inr ⟨p,hall p hpm,hq,rfl⟩⟩,by omega,p8.andNew pn λi hi=>by omega,oM⟩
   ·have hq:p.2.letter ≠ ((dS.toNat:Nat):Int):=zQm q
    refine hJ _ () w8 (by omega) ⟨AL.del todo p.1,kd,rfl,xc,hit8,⟨λq' hq' hl'=>?_,aJ⟩,by omega,p8,b8⟩
    rcases hk1 q' hq' hl' with h|h
    ·rcases List.mem_cons.1 (hperm.subset h)with h|h
     ·subst h;exact absurd hl' hq
     ·exact .inl h
    ·exact .inr h
 refine⟨λu=>Pu w2 u,Pu.refl _,by omega,by omega,by omega,dY,ha11,by omega,by omega,_,λu hu=>hu.cell hc11,kR,ha12,by omega,by omega,_,λu hu=>hu.cell hc12,⟨bs (d.take 10),w2,hsub (Pu.refl _),Pu.refl _,(trim w2).mono ?_,alB λw3 au bn=>⟨au,(trim w3).mono ?_⟩⟩,alB λw3 au bn=>⟨au,bs (d.take 10),w3,hsub au,au,(trim w3).mono ?_⟩⟩
 ·rintro e w3 ⟨rfl,au⟩
  exact⟨_,rfl,au,alB λw4 aK dm=>⟨au.trans aK,zQi dm s23.symm rfl rfl λw5 bo cN oL=>main ((au.trans aK).andNew cN λi hi=>by have:=au.size;omega) (au.size) bo⟩⟩
 ·rintro e w4 ⟨rfl,aK⟩
  exact⟨_,rfl,au.trans aK,zQi (aK.blk bn) s23.symm rfl rfl λw5 bo cN oL=>main ((au.trans aK).andNew cN λi hi=>by omega) (Nat.le_refl _) bo⟩
 ·rintro e w4 ⟨rfl,aK⟩
  exact⟨_,rfl,au.trans aK,zQi (aK.blk bn) s23.symm rfl rfl λw5 bo cN oL=>main ((au.trans aK).andNew cN λi hi=>by omega) (Nat.le_refl _) bo⟩
end Go.Proofs.YtaeecpjhfmcliaaGreatDoor
/- Table: parts of a table's bytes; a table that a call makes. No condition. -/
set_option maxHeartbeats 1000000
namespace Go.Proofs.YtaeecpjhfmcliaaGreatDoor
open Go.Sh Go.RowKit Tryz
theorem yJW{l:List Fld}(h:l.all zQo=true):(l.flatMap zQN).length=16 * l.length:=by
 induction l with
 | nil=>rfl
 | cons f l ih=>
  rw[List.flatMap_cons,List.length_append,zZ6 (zXb (List.all_eq_true.1 h f (by simp))).2.1,ih (List.all_eq_true.2 λg hg=>List.all_eq_true.1 h g (by simp[hg])),List.length_cons]
  omega
def zVy(u:Tbl):List UInt8:=[67,zZI u.page] ++ zVS u.recs.length 4 ++ zVS (13+16 * u.fields.length) 2 ++ zVS (zXK u.fields).toNat 2 ++ [zZI u.fields.length,0]
theorem zW5(u:Tbl):(zVy u).length=12:=by unfold zVy;simp[zXp]
theorem yZ6(u:Tbl):zQj u=zVy u ++ (u.fields.flatMap zQN ++ ([13] ++ (u.recs.flatMap (zJO zQu u.fields) ++ [26]))):=by
 unfold zQj zJA zVy;simp only[List.append_assoc]
theorem zWK{u:Tbl}{d:List UInt8}(hd:zQj u=d):d[0]?=some 67/\d[1]?=some (zZI u.page)/\(d.drop 2).take 4=zVS u.recs.length 4/\d[10]?=some (zZI u.fields.length):=by
 have hl:=zXp u.recs.length 4
 have h2:=zXp (13+16 * u.fields.length) 2
 have h3:=zXp (zXK u.fields).toNat 2
 rw[←hd,yZ6]
 refine⟨rfl,rfl,?_,?_⟩
 ·unfold zVy
  simp only[List.append_assoc,List.cons_append,List.nil_append,List.drop_succ_cons,List.drop_zero]
  rw[List.take_append_of_le_length (by omega),List.take_of_length_le (by omega)]
 ·rw[List.getElem?_append_left (by rw[zW5];omega)]
  unfold zVy
  rw[List.getElem?_append_right (by simp[zXp])]
  simp[zXp]
theorem zYO{u:Tbl}(ho:zJg u){d:List UInt8}(hd:zQj u=d):(d.length:Int)=13+16 * (u.fields.length:Int)+(u.recs.length:Int) * zXK u.fields+1:=by
 have h1:=zYc ho u.recs.length (Nat.le_refl _)
 rw[List.take_length]at h1
 have h2:=zWP ho
 rw[←hd]
 unfold zQj
 rw[List.length_append,List.length_append,List.length_singleton]
 omega
theorem zYI {u:Tbl} (ho:zJg u) {d:List UInt8} (hd:zQj u=d) {k:Nat} {f:Fld} (hf:u.fields[k]?=some f):(d.drop (12+16 * k)).take 16=zQN f:=by
 have hk:=(List.getElem?_eq_some_iff.1 hf).1
 have hall:(u.fields.take k).all zQo=true:=List.all_eq_true.2 λg hg=>List.all_eq_true.1 ho.all g (List.mem_of_mem_take hg)
 have h1:=yJW hall
 rw[List.length_take]at h1
 have iY:=zZ6 (zXb (List.all_eq_true.1 ho.all f (List.mem_of_getElem? hf))).2.1
 have e:u.fields.flatMap zQN=(u.fields.take k).flatMap zQN ++ (zQN f ++ (u.fields.drop (k+1)).flatMap zQN):=by
  rw[←List.flatMap_cons,←zXU hf,←List.flatMap_append,List.take_append_drop]
 have hl:(zVy u ++ (u.fields.take k).flatMap zQN).length=12+16 * k:=by rw[List.length_append,zW5,h1];omega
 rw[←hd,yZ6,e,List.append_assoc,←List.append_assoc (zVy u),List.drop_append,List.drop_eq_nil_of_le (by omega),hl,Nat.sub_self,List.drop_zero,List.nil_append,List.append_assoc,List.take_append_of_le_length (by omega),List.take_of_length_le (by omega)]
theorem bytes_row {u:Tbl} (ho:zJg u) {d:List UInt8} (hd:zQj u=d) {k:Nat} {r:Rec} (hr:u.recs[k]?=some r):(d.drop (13+16 * u.fields.length+(zXK u.fields).toNat * k)).take (zXK u.fields).toNat=zJO zQu u.fields r:=by
 have hk:=(List.getElem?_eq_some_iff.1 hr).1
 have wY:0<=zXK u.fields:=by have:=zJs (WOk.of ho.all);unfold zXK;omega
 have h1:=zYc ho k (by omega)
 have h2:=zWP ho
 have h3:=zKN ho.all (ho.recs r (List.mem_of_getElem? hr))
 have e:u.recs.flatMap (zJO zQu u.fields)=(u.recs.take k).flatMap (zJO zQu u.fields) ++ (zJO zQu u.fields r ++ (u.recs.drop (k+1)).flatMap (zJO zQu u.fields)):=by
  rw[←List.flatMap_cons,←zXU hr,←List.flatMap_append,List.take_append_drop]
 have hm:(((zXK u.fields).toNat * k:Nat):Int)=(k:Int) * zXK u.fields:=by
  rw[Int.natCast_mul,Int.toNat_of_nonneg wY,Int.mul_comm]
 have hl:(zJA u ++ (u.recs.take k).flatMap (zJO zQu u.fields)).length=13+16 * u.fields.length+(zXK u.fields).toNat * k:=by rw[List.length_append,h2];omega
 rw[←hd]
 unfold zQj
 rw[e,←List.append_assoc (zJA u),List.append_assoc,List.drop_append,List.drop_eq_nil_of_le (by omega),hl,Nat.sub_self,List.drop_zero,List.nil_append,List.append_assoc,List.take_append_of_le_length (by omega),List.take_of_length_le (by omega)]
structure zJd(w0 w:World)(t:Tbl)(f q:SV):Prop where
 fs:zKS w0 w f t.fields
 rs:zKj w0 w q t.recs
theorem zJd.pu{w0 w w':World}{t:Tbl}{f q:SV}(h:zJd w0 w t f q)(hp:Pu w w'):zJd w0 w' t f q:=⟨h.fs.pu hp,h.rs.pu hp⟩
theorem zJd.low{w0 w1 w:World}{t:Tbl}{f q:SV}(h:zJd w1 w t f q)(hz:w0.heap.size<=w1.heap.size):zJd w0 w t f q:=⟨h.fs.low hz,h.rs.low hz⟩
theorem zJd.one {w0 w w':World} {b:Nat} {t:Tbl} {f q:SV} (h:zJd w0 w t f q) (hf:Fr (·=b) w w') (hb:b<w0.heap.size):zJd w0 w' t f q:=⟨h.fs.fr hf λk hk e=>by have:=h.fs.2 k hk;omega,h.rs.one hf hb⟩
structure yXM(t:Tbl):Prop where
 page:zZR t.page
 f64:F64 t.fields
 r64:R64 t.recs
 fl:t.fields.length<=255
 rl:t.recs.length<=300
 nm:∀f ∈ t.fields,f.name.size<=10
theorem zJd.rd{w0 w:World}{t:Tbl}{f q:SV}(h:zJd w0 w t f q)(hn:yXM t):zX2 w t f q:=⟨hn.page,h.fs.rd (by have:=hn.fl;omega) hn.f64,h.rs.rd (by have:=hn.rl;omega) hn.r64⟩
theorem yXM.lim{t:Tbl}(hn:yXM t):Lim.ok t.fields:=λf hf=>by
 have:=hn.nm f hf
 show f.name.size<=140737488355328
 omega
theorem yXM.zero:yXM ⟨0,[],[]⟩:=⟨⟨by decide,by decide⟩,λf hf=>by simp at hf,λr hr=>by simp at hr,by simp,by simp,λf hf=>by simp at hf⟩
theorem s35:zX9 prog 35=3:=by kernel_rfl
structure zKU(w0 wr:World)(r2 r4:Nat)(t:Tbl)(w:World):Prop where
 ex:∃f q:SV,w.heap[r4]?=some (.cells #[.int .i64 t.page,.slice f.a f.len f.cap,.slice q.a q.len q.cap] 35)/\zJd wr w t f q
 b2:w.heap[r2]?=some (.cells #[.int .i64 0,.slice none 0 0,.slice none 0 0] 35)
 sz:wr.heap.size<=w.heap.size
 pu:Pu w0 w
 l2:r2<wr.heap.size
 l4:r4<wr.heap.size
 ne:r2 ≠ r4
 z2:w0.heap.size<=r2
 z4:w0.heap.size<=r4
theorem zKU.on{w0 wr w w':World}{r2 r4:Nat}{t:Tbl}(h:zKU w0 wr r2 r4 t w)(hp:Pu w w'):zKU w0 wr r2 r4 t w':=by
 obtain⟨f,q,h1,h2⟩:=h.ex
 exact⟨⟨f,q,hp.blk h1,h2.pu hp⟩,hp.blk h.b2,Nat.le_trans h.sz hp.size,h.pu.trans hp,h.l2,h.l4,h.ne,h.z2,h.z4⟩
theorem zKU.putF {w0 wr w:World} {r2 r4 r:Nat} {t:Tbl} (h:zKU w0 wr r2 r4 t w) {f q:SV} (h4:w.heap[r4]?=some (.cells #[.int .i64 t.page,.slice f.a f.len f.cap,.slice q.a q.len q.cap] 35)) (ho:zJd wr w t f q) {x:Fld} (hr:w.heap[r]?=some (.cells #[.string x.name,.int .i64 x.kind,.int .i64 x.width,.bool x.null] 129)) (hb:t.fields.length<=1000000) :
  ∃(f':SV) (w1:World),(Builtin.append_ #[32,32] 32 #[.slice f.a f.len f.cap,.slice (some ⟨r,0,none⟩) 1 1]).run prog w=.ok (.slice f'.a f'.len f'.cap) w1/\
   ∀K:World->Prop,(∀w',zKU w0 wr r2 r4 ⟨t.page,t.fields ++ [x],t.recs⟩ w'->K w')->st1 ((⟨r4,0,none⟩:Addr).add 1) (.slice f'.a f'.len f'.cap) w1 K:=by
 obtain⟨f',w1,e1,r1,f1⟩:=ho.fs.push h.sz hr rfl hb
 have n4:¬r4 ∈ zQe f:=λhc=>by have:=ho.fs.2 _ hc;have:=h.l4;omega
 have n2:¬r2 ∈ zQe f:=λhc=>by have:=ho.fs.2 _ hc;have:=h.l2;omega
 refine⟨f',w1,e1,λK hK=>?_⟩
 rw[zQr,Nat.zero_add]
 refine zQt (f1.blk h4 n4) (by simp) λwx ex hbx=>hK wx ?_
 have fx:Fr (·=r4) w1 wx:=by rw[ex];exact Fr.cell w1 _ _ _
 have zx:wx.heap.size=w1.heap.size:=by rw[ex];simp
 have z1:=f1.size
 have hne:=h.ne
 have hsz:=h.sz
 have hz4:=h.z4
 have hl4:=h.l4
 have rs1:zKj wr w1 q t.recs:=by
  obtain⟨qs,a1,a2,a3,a4⟩:=ho.rs
  exact⟨qs,a1.fr f1 (zQq a1 ho.fs.1 (by decide)),a2,a3,λi r' x' hr' hx'=>⟨(a4 i r' x' hr' hx').1,(a4 i r' x' hr' hx').2.fr f1 (zQq (a4 i r' x' hr' hx').2.1 ho.fs.1 (by decide))⟩⟩
 refine⟨⟨f',q,hbx,⟨r1.fr fx λi hi=>by have:=r1.2 i hi;omega,rs1.one fx hl4⟩⟩,fx.blk (f1.blk h.b2 n2) (by omega),by omega,?_,h.l2,h.l4,h.ne,h.z2,h.z4⟩
 have p1:Pu w0 w1:=h.pu.andNew f1 λi hi=>by have:=ho.fs.2 i hi;omega
 exact p1.andNew fx λi hi=>by omega
theorem zKU.putR {w0 wr w:World} {r2 r4 r:Nat} {t:Tbl} (h:zKU w0 wr r2 r4 t w) {f q qv:SV} (h4:w.heap[r4]?=some (.cells #[.int .i64 t.page,.slice f.a f.len f.cap,.slice q.a q.len q.cap] 35)) (ho:zJd wr w t f q) {g:Bool} {vs:List Val} (hv:zJY wr w qv vs) (hr:w.heap[r]?=some (.cells #[.bool g,.slice qv.a qv.len qv.cap] 67)) (hb:t.recs.length<=1000000) :
  ∃(q':SV) (w1:World),(Builtin.append_ #[33,33] 33 #[.slice q.a q.len q.cap,.slice (some ⟨r,0,none⟩) 1 1]).run prog w=.ok (.slice q'.a q'.len q'.cap) w1/\
   ∀K:World->Prop,(∀w',zKU w0 wr r2 r4 ⟨t.page,t.fields,t.recs ++ [⟨g,vs⟩]⟩ w'->K w')->st1 ((⟨r4,0,none⟩:Addr).add 2) (.slice q'.a q'.len q'.cap) w1 K:=by
 obtain⟨q',w1,e1,r1,f1⟩:=ho.rs.push h.sz hv hr rfl hb
 have n4:¬r4 ∈ zQe q:=λhc=>by have:=ho.rs.own _ hc;have:=h.l4;omega
 have n2:¬r2 ∈ zQe q:=λhc=>by have:=ho.rs.own _ hc;have:=h.l2;omega
 refine⟨q',w1,e1,λK hK=>?_⟩
 rw[zQr,Nat.zero_add]
 refine zQt (f1.blk h4 n4) (by simp) λwx ex hbx=>hK wx ?_
 have fx:Fr (·=r4) w1 wx:=by rw[ex];exact Fr.cell w1 _ _ _
 have zx:wx.heap.size=w1.heap.size:=by rw[ex];simp
 have z1:=f1.size
 have hne:=h.ne
 have hsz:=h.sz
 have hz4:=h.z4
 have hl4:=h.l4
 have own:=ho.rs.own
 have fs1:zKS wr w1 f t.fields:=by
  obtain⟨qs,a1,a2,a3,a4⟩:=ho.rs
  exact ho.fs.fr f1 (zQq ho.fs.1 a1 (by decide))
 refine⟨⟨f,q',hbx,⟨fs1.fr fx λi hi=>by have:=fs1.2 i hi;omega,r1.one fx hl4⟩⟩,fx.blk (f1.blk h.b2 n2) (by omega),by omega,?_,h.l2,h.l4,h.ne,h.z2,h.z4⟩
 have p1:Pu w0 w1:=h.pu.andNew f1 λi hi=>by have:=own i hi;omega
 exact p1.andNew fx λi hi=>by omega
end Go.Proofs.YtaeecpjhfmcliaaGreatDoor
/- Table: the program's reading of a table's bytes. No condition. -/
set_option maxHeartbeats 2000000
namespace Go.Proofs.YtaeecpjhfmcliaaGreatDoor
open Go.Sh Go.RowKit Tryz
def retT(R:Rt)(r2 r4:Nat)(ok:Bool)(w:World):Prop:=
 zQg (some (⟨r4,0,none⟩:Addr)) λa1=>
 ∃gK:Int,w.cell? (a1.add 0)=some (.int .i64 gK)/\
 ∃bZ:SV,w.cell? (a1.add 1)=some (.slice bZ.a bZ.len bZ.cap)/\
 ∃cb:SV,w.cell? (a1.add 2)=some (.slice cb.a cb.len cb.cap)/\
 zQg (some (⟨r2,0,none⟩:Addr)) λa2=>
 stA prog 35 a2 #[.int .i64 gK,.slice bZ.a bZ.len bZ.cap,.slice cb.a cb.len cb.cap] w λw3=>
 zQg (some (⟨r2,0,none⟩:Addr)) λa5=>
 ∃ag:Int,w3.cell? (a5.add 0)=some (.int .i64 ag)/\
 ∃ab:SV,w3.cell? (a5.add 1)=some (.slice ab.a ab.len ab.cap)/\
 ∃ae:SV,w3.cell? (a5.add 2)=some (.slice ae.a ae.len ae.cap)/\
 R (.returned (.tuple #[.agg #[.int .i64 ag,.slice ab.a ab.len ab.cap,.slice ae.a ae.len ae.cap],.bool ok])) w3
theorem retT_c {R:Rt} {w0 wr w:World} {r2 r4:Nat} {t:Tbl} (h:zKU w0 wr r2 r4 t w) (ok:Bool) (hR:∀f q w',zJd wr w' t f q->Pu w0 w'->R (.returned (.tuple #[zVb t f q,.bool ok])) w'):retT R r2 r4 ok w:=by
 obtain⟨f,q,h4,ho⟩:=h.ex
 have hz:=h.z2
 exact⟨_,cl h4 0,f,cl h4 1,q,cl h4 2,zQi h.b2 s35.symm rfl rfl λw5 bo cN oL=>⟨_,cl bo 0,f,cl bo 1,q,cl bo 2,hR f q w5 (ho.one cN h.l2) (h.pu.andNew cN λi hi=>by omega)⟩⟩
def yXV(d:List UInt8)(t:Tbl)(ok:Bool):Prop:=∀u,zQf u=0->zQj u=d->t=u/\ok=true
theorem yJF{w:World}{s:SV}{d:List UInt8}(hb:ByV w s d)(hd:d.length<=1000000000):Calls prog 124 #[.slice s.a s.len s.cap] w λe w'=>∃(t:Tbl) (f q:SV) (ok:Bool),e=.returned (.tuple #[zVb t f q,.bool ok])/\zJd w w' t f q/\yXM t/\Pu w w'/\yXV d t ok:=by
 have hsl:=hb.len
 have hsc:=hb.cap
 refine yVH _ w _ (alB λw1 ar aB=>alB λw2 aq aM=>?_)
 have aG:=ar.trans aq
 have nJ:w.heap.size<w1.heap.size:=zQx aB
 have lt2:w1.heap.size<w2.heap.size:=zQx aM
 have cP:=aq.blk aB
 have yv:zKU w w2 w.heap.size w1.heap.size ⟨0,[],[]⟩ w2:=⟨⟨⟨none,0,0⟩,⟨none,0,0⟩,aM,⟨zKS.nil w2 w2,zKj.nil w2 w2⟩⟩,cP,Nat.le_refl _,aG,by omega,lt2,by omega,Nat.le_refl _,by omega⟩
 have ret:∀{t:Tbl} {w':World} (ok:Bool),zKU w w2 w.heap.size w1.heap.size t w'->yXM t->yXV d t ok->retT (λe w'=>∃(t:Tbl) (f q:SV) (ok:Bool),e=.returned (.tuple #[zVb t f q,.bool ok])/\zJd w w' t f q/\yXM t/\Pu w w'/\yXV d t ok) w.heap.size w1.heap.size ok w':=λ{t w'} ok st hn hc=>
  retT_c st ok λf q w'' ho hp=>⟨t,f,q,ok,rfl,ho.low aG.size,hn,hp,hc⟩
 have no:∀{t:Tbl} {ok:Bool},(∀u,zQf u=0->zQj u=d->False)->yXV d t ok:=λh u hv hu=>(h u hv hu).elim
 have hlong:∀u,zQf u=0->zQj u=d->14<=d.length:=λu hv hu=>by
  have ho:=zJg.of hv
  have h1:=zYO ho hu
  have hf:0<u.fields.length:=List.length_pos_iff.2 ho.ne
  have wY:0<=zXK u.fields:=by have:=zJs (WOk.of ho.all);unfold zXK;omega
  have h2:0<=(u.recs.length:Int) * zXK u.fields:=Int.mul_nonneg (by omega) wY
  omega
 refine Br.of (λq=>ret false yv yXM.zero (no λu hv hu=>by have:=hlong u hv hu;have:=zQk q;omega)) (λq=>?_)
 have h14:14<=d.length:=by have:=zQd q;omega
 clear q
 obtain⟨b0,e0⟩:=zQM (l:=d) (k:=0) (by omega)
 obtain⟨b1,e1⟩:=zQM (l:=d) (k:=1) (by omega)
 obtain⟨dS,e10⟩:=zQM (l:=d) (k:=10) (by omega)
 have ln:=hb.pu aG
 obtain⟨a0,ha0,hc0⟩:=ln.get _ _ e0
 obtain⟨a1,yx,hc1⟩:=ln.get _ _ e1
 refine⟨a0,ha0,by omega,by omega,_,hc0,Br.of (λq=>ret false yv yXM.zero (no λu hv hu=>?_)) (λq=>⟨a1,yx,by omega,by omega,_,hc1,?_⟩)⟩
 ·have h1:=(zWK hu).1
  rw[e0]at h1
  have h1:=Option.some.inj h1
  rw[h1]at q;exact zQ2 q rfl
 have n1:=b1.toNat_lt
 have i6:=dS.toNat_lt
 rw[zQa (n:=((b1.toNat:Nat):Int)) (by omega) (by omega)]
 refine zQt aM (by decide) λw3 tA bn=>zQc λw4 aK _=>?_
 have fr3:Fr (·=w1.heap.size) w2 w3:=by rw[tA];exact Fr.cell w2 _ _ _
 have z3:w3.heap.size=w2.heap.size:=by rw[tA];simp
 have st4:zKU w w2 w.heap.size w1.heap.size ⟨((b1.toNat:Nat):Int),[],[]⟩ w4:=(⟨⟨⟨none,0,0⟩,⟨none,0,0⟩,bn,⟨zKS.nil w2 w3,zKj.nil w2 w3⟩⟩,fr3.blk cP (by omega),by omega,aG.andNew fr3 λi hi=>by omega,by omega,lt2,by omega,Nat.le_refl _,by omega⟩:zKU w w2 w.heap.size w1.heap.size ⟨((b1.toNat:Nat):Int),[],[]⟩ w3).on aK
 obtain⟨dx,tE,tF⟩:=(hb.pu st4.pu).get _ _ e10
 refine⟨λu=>Pu w4 u,Pu.refl _,dx,tE,by omega,by omega,_,λu hu=>hu.cell tF,dx,tE,by omega,by omega,_,λu hu=>hu.cell tF,?_⟩
 rw[zQa (n:=((dS.toNat:Nat):Int)) (by omega) (by omega)]
 refine(yZ7 dS.toNat (by omega) w4).mono ?_
 rintro e w5 ⟨rfl,aR⟩
 have xO:=st4.on aR
 have pg:zZR ((b1.toNat:Nat):Int):=⟨by omega,by omega⟩
 have nice0:yXM ⟨((b1.toNat:Nat):Int),[],[]⟩:=⟨pg,λf hf=>by simp at hf,λr hr=>by simp at hr,by simp,by simp,λf hf=>by simp at hf⟩
 -- what a right table's bytes tell
 have pgu:∀u,zQf u=0->zQj u=d->u.page=((b1.toNat:Nat):Int)/\u.fields.length=dS.toNat:=λu hv hu=>by
  have ho:=zJg.of hv
  obtain⟨_,h1,_,h2⟩:=zWK hu
  rw[e1]at h1;rw[e10]at h2
  have h1:=Option.some.inj h1
  have h2:=Option.some.inj h2
  have hpg:=ho.page
  unfold zQX at hpg
  simp only[Bool.and_eq_true,decide_eq_true_eq]at hpg
  have iY:=ho.n16
  have e1:=zWD (n:=u.page) (by omega)
  have e2:=zWD (n:=((u.fields.length:Nat):Int)) (by omega)
  rw[h1,h2];omega
 refine⟨_,rfl,aR,Br.of (λq=>ret false xO nice0 (no λu hv hu=>?_)) (λq=>?_)⟩
 ·have h1:=zYO (zJg.of hv) hu
  have h2:=(pgu u hv hu).2
  have wY:0<=zXK u.fields:=by have:=zJs (WOk.of (zJg.of hv).all);unfold zXK;omega
  have h3:0<=(u.recs.length:Int) * zXK u.fields:=Int.mul_nonneg (by omega) wY
  have:=zQk q
  omega
 have hbeg:13+16 * dS.toNat<=d.length:=by have:=zQd q;omega
 clear q
 refine zQw dS.toNat (λk t w'=>t=(k:Int)/\∃fs:List Fld,fs.length=k/\F64 fs/\(∀f ∈ fs,f.name.size<=10)/\zKU w w2 w.heap.size w1.heap.size ⟨((b1.toNat:Nat):Int),fs,[]⟩ w'/\∀u,zQf u=0->zQj u=d->fs=u.fields.take k) ⟨rfl,[],rfl,λf hf=>by simp at hf,λf hf=>by simp at hf,xO,λu _ _=>by simp⟩ ?_
 rintro k J t w6 hk ⟨ht,fs,hfl,xP,hfn,st,hcond⟩ hJ
 obtain rfl:t=(k:Int):=ht
 refine Br.of (λq=>zQc λw7 cv _=>?_) (λq=>?_)
 ·have aJ:k<dS.toNat:=by have:=zQk q;omega
  have yy:=st.on cv
  obtain⟨f,qr,h4,ho⟩:=yy.ex
  obtain⟨pd,e58,h58⟩:=(hb.pu yy.pu).part3 (lo:=12+16 * k) (hi:=28+16 * k) (by omega) (by omega)
  rw[show 28+16 * k - (12+16 * k)=16 by omega]at h58
  refine⟨λu=>Pu w7 u,Pu.refl _,f,λu hu=>cl (hu.blk h4) 1,?_⟩
  rw[zQa (n:=16 * (k:Int)) (by omega) (by omega),zQa (n:=12+16 * (k:Int)) (by omega) (by omega),zQa (n:=28+16 * (k:Int)) (by omega) (by omega),show 12+16 * (k:Int)=((12+16 * k:Nat):Int)by omega,show 28+16 * (k:Int)=((28+16 * k:Nat):Int)by omega]
  refine⟨pd,w7,e58,Pu.refl _,(yJx h58 (by rw[List.length_take,List.length_drop];omega)).mono ?_⟩
  rintro e w8 ⟨x,rfl,x1,x2,x3,bP,hx⟩
  refine⟨_,_,_,_,rfl,bP,alB λw9 cx oM=>⟨bP.trans cx,?_⟩⟩
  have st9:=(yy.on bP).on cx
  obtain⟨f',aN,e10',hK⟩:=st9.putF ((bP.trans cx).blk h4) (ho.pu (bP.trans cx)) oM (by show fs.length<=_;omega)
  refine⟨f',aN,e10',hK _ λaV tG=>?_⟩
  rw[zQa (by omega) (by omega)]
  refine hJ _ _ aJ ⟨by omega,fs ++ [x],by simp[hfl],λy hy=>?_,λy hy=>?_,tG,λu hv hu=>?_⟩
  ·rcases List.mem_append.1 hy with hy|hy
   ·exact xP y hy
   ·simp at hy;subst hy;exact⟨x1,x2⟩
  ·rcases List.mem_append.1 hy with hy|hy
   ·exact hfn y hy
   ·simp at hy;subst hy;exact x3
  ·obtain⟨g,hg⟩:=zQM (l:=u.fields) (k:=k) (by have:=(pgu u hv hu).2;omega)
   rw[zQD hg,←hcond u hv hu]
   have sR:=zJg.of hv
   rw[hx g (List.all_eq_true.1 sR.all g (List.mem_of_getElem? hg)) (zYI sR hu hg).symm]
 have aJ:k=dS.toNat:=by have:=zQd q;omega
 subst aJ
 clear hJ J q
 have hfs:∀u,zQf u=0->zQj u=d->fs=u.fields:=λu hv hu=>by
  rw[hcond u hv hu,List.take_of_length_le (by have:=(pgu u hv hu).2;omega)]
 have ni:yXM ⟨((b1.toNat:Nat):Int),fs,[]⟩:=⟨pg,xP,λr hr=>by simp at hr,by show fs.length<=_;omega,by simp,hfn⟩
 obtain⟨f,qr,h4,ho⟩:=st.ex
 refine⟨f,cl h4 1,(zZP (ho.rd ni).fields ni.lim).mono ?_⟩
 rintro e w7 ⟨rfl,cv⟩
 have yy:=st.on cv
 refine⟨_,rfl,Br.of (λq=>ret false yy ni (no λu hv hu=>?_)) (λq=>zQc λw8 bP _=>?_)⟩
 ·have:=(zJg.of hv).vf
  rw[←hfs u hv hu]at this
  exact zQ2 q this
 have hvf:zQV fs=0:=zQs q
 clear q
 obtain⟨_,hall,_,iY,nA⟩:=zXn hvf
 have hwok:=WOk.of hall
 have hwide:1<=zXK fs:=by have:=zJs hwok;unfold zXK;omega
 have st8:=yy.on bP
 have h48:=(cv.trans bP).blk h4
 have ho8:=ho.pu (cv.trans bP)
 refine⟨f,cl h48 1,by omega,by show 6<=_;omega,by omega,by decide,(zYh (ho8.rd ni).fields hwok).mono ?_⟩
 rintro e w9 ⟨rfl,cx⟩
 have hnum:=(hb.pu (st8.pu.trans cx)).sub (lo:=2) (hi:=6) (by omega) (by omega)
 have hd4:((d.drop 2).take (6 - 2)).length=4:=by rw[List.length_take,List.length_drop];omega
 refine⟨_,rfl,(xJw hnum hd4).mono ?_⟩
 rintro e aN ⟨rfl,dk⟩
 have xQ:=(st8.on cx).on dk
 obtain⟨cnt,hcnt⟩:∃cnt,cnt=xQj ((d.drop 2).take (6 - 2)):=⟨_,rfl⟩
 rw[←hcnt]
 have hrl:∀u,zQf u=0->zQj u=d->u.recs.length=cnt:=λu hv hu=>by
  have h1:=(zWK hu).2.2.1
  have h2:=(zJg.of hv).m300
  rw[hcnt,show 6 - 2=4 from rfl,h1,xJx (by omega)]
 refine⟨_,rfl,Br.of (λq=>ret false xQ ni (no λu hv hu=>by have:=hrl u hv hu;have:=(zJg.of hv).m300;have:=zQk q;omega)) (λq=>?_)⟩
 have hc300:cnt<=300:=by have:=zQd q;omega
 clear q
 obtain⟨W,hW⟩:∃W:Nat,zXK fs=(W:Int):=⟨(zXK fs).toNat,by omega⟩
 have hWl:W<=2000:=by omega
 have hWc:W * cnt<=600000:=Nat.mul_le_mul hWl hc300
 have eWc:(W:Int) * (cnt:Int)=((W * cnt:Nat):Int):=by omega
 rw[hW,eWc,zQa (n:=((W * cnt:Nat):Int)) (by omega) (by omega),zQa (n:=((13+16 * dS.toNat:Nat):Int)+((W * cnt:Nat):Int)) (by omega) (by omega),zQa (n:=((13+16 * dS.toNat:Nat):Int)+((W * cnt:Nat):Int)+1) (by omega) (by omega)]
 refine Br.of (λq=>ret false xQ ni (no λu hv hu=>?_)) (λq=>?_)
 ·have h1:=zYO (zJg.of hv) hu
  have h2:=(pgu u hv hu).2
  rw[←hfs u hv hu,hW,hrl u hv hu]at h1
  rw[←hfs u hv hu]at h2
  have h3:(cnt:Int) * (W:Int)=((W * cnt:Nat):Int):=by rw[Int.mul_comm];exact eWc
  have:=zQ2 q
  omega
 have hdl:d.length=13+16 * dS.toNat+W * cnt+1:=by have:=zQs q;omega
 clear q
 refine zQw cnt (λk t w'=>t=(k:Int)/\∃rs:List Rec,rs.length=k/\R64 rs/\zKU w w2 w.heap.size w1.heap.size ⟨((b1.toNat:Nat):Int),fs,rs⟩ w'/\∀u,zQf u=0->zQj u=d->rs=u.recs.take k) ⟨rfl,[],rfl,λr hr=>by simp at hr,xQ,λu _ _=>by simp⟩ ?_
 rintro k J t aV hk ⟨ht,rs,hrn,hr64,tG,hrc⟩ hJ
 obtain rfl:t=(k:Int):=ht
 have qk:yXM ⟨((b1.toNat:Nat):Int),fs,rs⟩:=⟨pg,xP,hr64,by show fs.length<=_;omega,by show rs.length<=_;omega,hfn⟩
 refine Br.of (λq=>zQc λaO dO _=>?_) (λq=>?_)
 ·have aJ:k<cnt:=by have:=zQk q;omega
  have tH:=tG.on dO
  obtain⟨f,qr,h4,ho⟩:=tH.ex
  have hWk:W * k+W<=W * cnt:=by rw[←Nat.mul_succ];exact Nat.mul_le_mul_left W aJ
  have eWk:(W:Int) * (k:Int)=((W * k:Nat):Int):=by omega
  have eWk1:(W:Int) * ((k:Int)+1)=((W * k+W:Nat):Int):=by rw[Int.mul_add,eWk];omega
  refine⟨λu=>Pu aO u,Pu.refl _,f,λu hu=>cl (hu.blk h4) 1,?_⟩
  rw[zQa (n:=(k:Int)+1) (by omega) (by omega),eWk,eWk1,zQa (n:=((W * k:Nat):Int)) (by omega) (by omega),zQa (n:=((W * k+W:Nat):Int)) (by omega) (by omega),zQa (n:=((13+16 * dS.toNat:Nat):Int)+((W * k:Nat):Int)) (by omega) (by omega),zQa (n:=((13+16 * dS.toNat:Nat):Int)+((W * k+W:Nat):Int)) (by omega) (by omega)]
  have elo:(((13+16 * dS.toNat:Nat):Int)+((W * k:Nat):Int)).toNat=13+16 * dS.toNat+W * k:=by omega
  have ehi:(((13+16 * dS.toNat:Nat):Int)+((W * k+W:Nat):Int)).toNat=13+16 * dS.toNat+W * k+W:=by omega
  rw[elo,ehi]
  have hpart:∀{wz},Pu aO wz->ByV wz ⟨if s.cap=13+16 * dS.toNat+W * k then s.a else s.a.map (λx=>x.add ((13+16 * dS.toNat+W * k) * 1)),13+16 * dS.toNat+W * k+W - (13+16 * dS.toNat+W * k),s.cap - (13+16 * dS.toNat+W * k)⟩ ((d.drop (13+16 * dS.toNat+W * k)).take W):=λ{wz} hz=>by
   have:=(hb.pu (tH.pu.trans hz)).sub (lo:=13+16 * dS.toNat+W * k) (hi:=13+16 * dS.toNat+W * k+W) (by omega) (by omega)
   rw[show(d.drop (13+16 * dS.toNat+W * k)).take (13+16 * dS.toNat+W * k+W - (13+16 * dS.toNat+W * k))=(d.drop (13+16 * dS.toNat+W * k)).take W by rw[Nat.add_sub_cancel_left]]at this
   exact this
  have hplen:(((d.drop (13+16 * dS.toNat+W * k)).take W).length:Int)=zXK fs:=by rw[List.length_take,List.length_drop,hW];omega
  have hrowu:∀u,zQf u=0->zQj u=d->∀r,u.recs[k]?=some r->zXC fs u.page r.v/\zJO zQu fs r=(d.drop (13+16 * dS.toNat+W * k)).take W:=λu hv hu r hr=>by
   have sR:=zJg.of hv
   have h1:=bytes_row sR hu hr
   have h2:=(pgu u hv hu).2
   have h3:=hfs u hv hu
   rw[h2,←h3,hW,zXj]at h1
   exact⟨by rw[h3];exact sR.recs r (List.mem_of_getElem? hr),h1.symm⟩
  -- behind the row
  have tail:∀{wz:World} {cq:Nat} {g ok:Bool} {vs:List Val} {qv:SV},Pu aO wz->zJY aO wz qv vs->vs.length=fs.length->V64 vs->(∀(r:Rec) (p:Int),zXC fs p r.v->zJO zQu fs r=(d.drop (13+16 * dS.toNat+W * k)).take W->g=r.gone/\vs=r.v/\ok=true)->wz.heap[cq]?=some (.cells #[.bool g,.slice qv.a qv.len qv.cap] 67)->
    Br (!ok) (retT (λe w'=>∃(t:Tbl) (f q:SV) (ok:Bool),e=.returned (.tuple #[zVb t f q,.bool ok])/\zJd w w' t f q/\yXM t/\Pu w w'/\yXV d t ok) w.heap.size w1.heap.size false wz) (
     zQg (some (⟨w1.heap.size,0,none⟩:Addr)) λiG=>∃fD:SV,wz.cell? (iG.add 2)=some (.slice fD.a fD.len fD.cap)/\
     ∃gM:Bool,wz.cell? ((⟨cq,0,none⟩:Addr).add 0)=some (.bool gM)/\∃bm:SV,wz.cell? ((⟨cq,0,none⟩:Addr).add 1)=some (.slice bm.a bm.len bm.cap)/\
     alE (.cells #[.bool gM,.slice bm.a bm.len bm.cap] 67) wz λrE bH=>∃fE:SV,∃bO:World,(Builtin.append_ #[33,33] 33 #[.slice fD.a fD.len fD.cap,.slice (some ⟨rE,0,none⟩) 1 1]).run prog bH=.ok (.slice fE.a fE.len fE.cap) bO/\
     zQg (some (⟨w1.heap.size,0,none⟩:Addr)) λkW=>st1 (kW.add 2) (.slice fE.a fE.len fE.cap) bO λbU=>J ((k:Int)+1) bU):=λ{wz cq g ok vs qv} hz hv hvl tD hcv io=>by
   have stz:=tH.on hz
   refine Br.of (λq1=>ret false stz qk (no λu hv hu=>?_)) (λq1=>?_)
   ·obtain⟨r,hr⟩:=zQM (l:=u.recs) (k:=k) (by have:=hrl u hv hu;omega)
    obtain⟨h1,h2⟩:=hrowu u hv hu r hr
    rw[(hcv r u.page h1 h2).2.2]at q1;cases q1
   ·refine⟨qr,cl (hz.blk h4) 2,g,cl io 0,qv,cl io 1,alB λaH bj oP=>?_⟩
    obtain⟨q',bq,e14,hK⟩:=(stz.on bj).putR ((hz.trans bj).blk h4) (ho.pu (hz.trans bj)) ((hv.pu bj).low tH.sz) oP (by show rs.length<=_;omega)
    refine⟨q',bq,e14,hK _ λbp st15=>hJ _ _ aJ ⟨by omega,rs ++ [⟨g,vs⟩],by simp[hrn],λy hy=>?_,st15,λu hv hu=>?_⟩⟩
    ·rcases List.mem_append.1 hy with hy|hy
     ·exact hr64 y hy
     ·simp at hy;subst hy;exact⟨tD,by show vs.length<=_;omega⟩
    ·obtain⟨r,hr⟩:=zQM (l:=u.recs) (k:=k) (by have:=hrl u hv hu;omega)
     obtain⟨h1,h2⟩:=hrowu u hv hu r hr
     obtain⟨c1,c2,_⟩:=hcv r u.page h1 h2
     rw[zQD hr,←hrc u hv hu,c1,c2]
  refine⟨by omega,by omega,by omega,by omega,(yZK (ho.rd qk).fields hall iY (hpart (Pu.refl _)) hplen).mono ?_,alB λaH bj oP=>⟨bj,(yZK ((ho.pu bj).rd qk).fields hall iY (hpart bj) hplen).mono ?_⟩⟩
  ·rintro e aH ⟨g,ok,vs,qv,rfl,v1,v2,v3,bj,v4⟩
   exact⟨g,qv,ok,rfl,yQA rfl s46.symm rfl λbq oQ hs14 iE=>tail (bj.trans oQ) (v1.pu oQ) v2 v3 v4 iE⟩
  ·rintro e bq ⟨g,ok,vs,qv,rfl,v1,v2,v3,oQ,v4⟩
   have lt13:aO.heap.size<aH.heap.size:=zQx oP
   refine⟨g,qv,ok,rfl,zQi (oQ.blk oP) s46.symm rfl rfl λbp hb15 hf15 hs15=>tail ((bj.trans oQ).andNew hf15 λi hi=>by omega) ((v1.fr hf15 λi hi e=>by have:=v1.2 i hi;omega).low bj.size) v2 v3 v4 hb15⟩
 ·have aJ:k=cnt:=by have:=zQd q;omega
  subst aJ
  refine ret true tG qk λu hv hu=>⟨?_,rfl⟩
  have h1:=hrc u hv hu
  rw[List.take_of_length_le (by have:=hrl u hv hu;omega)]at h1
  rw[h1,hfs u hv hu,←(pgu u hv hu).1]
end Go.Proofs.YtaeecpjhfmcliaaGreatDoor
/- Table: both packages' reading of a table's bytes. No condition. -/
set_option maxHeartbeats 2000000
namespace Go.Proofs.YtaeecpjhfmcliaaGreatDoor
open Go.Sh Go.RowKit Tryz
def yQb(d:List UInt8)(t:Tbl)(c:Int):Prop:=(c=0/\zQf t=0/\zQj t=d/\∀u,zQf u=0->zQj u=d->t=u)∨(c=11/\t=⟨0,[],[]⟩/\∀u,zQf u=0->zQj u ≠ d)
def kQo(w:World)(d:List UInt8):Rt:=λe w'=>∃(t:Tbl) (f q:SV) (c:Int),e=.returned (.tuple #[zVb t f q,.int .i64 c])/\zJd w w' t f q/\yXM t/\Pu w w'/\yQb d t c
def zeroT(R:Rt)(r2:Nat)(w:World):Prop:=
 stA prog 35 (⟨r2,0,none⟩:Addr) #[.int .i64 0,.slice none 0 0,.slice none 0 0] w λw5=>
 ∃ag:Int,w5.cell? ((⟨r2,0,none⟩:Addr).add 0)=some (.int .i64 ag)/\
 ∃ab:SV,w5.cell? ((⟨r2,0,none⟩:Addr).add 1)=some (.slice ab.a ab.len ab.cap)/\
 ∃ae:SV,w5.cell? ((⟨r2,0,none⟩:Addr).add 2)=some (.slice ae.a ae.len ae.cap)/\
 R (.returned (.tuple #[.agg #[.int .i64 ag,.slice ab.a ab.len ab.cap,.slice ae.a ae.len ae.cap],.int .i64 11])) w5
theorem yJp {w0 w:World} {d:List UInt8} {r2:Nat} (hb:w.heap[r2]?=some (.cells #[.int .i64 0,.slice none 0 0,.slice none 0 0] 35)) (hp:Pu w0 w) (hr:w0.heap.size<=r2) (hno:∀u,zQf u=0->zQj u ≠ d):zeroT (kQo w0 d) r2 w:=
 zQi hb s35.symm rfl rfl λw5 bo cN oL=>⟨_,cl bo 0,⟨none,0,0⟩,cl bo 1,⟨none,0,0⟩,cl bo 2,⟨0,[],[]⟩,⟨none,0,0⟩,⟨none,0,0⟩,11,rfl,⟨zKS.nil w0 w5,zKj.nil w0 w5⟩,yXM.zero,hp.andNew cN λi hi=>by omega,.inr ⟨rfl,rfl,hno⟩⟩
def copyT(R:Rt)(r2 r4:Nat)(w:World):Prop:=
 ∃gK:Int,w.cell? ((⟨r4,0,none⟩:Addr).add 0)=some (.int .i64 gK)/\
 ∃bZ:SV,w.cell? ((⟨r4,0,none⟩:Addr).add 1)=some (.slice bZ.a bZ.len bZ.cap)/\
 ∃cb:SV,w.cell? ((⟨r4,0,none⟩:Addr).add 2)=some (.slice cb.a cb.len cb.cap)/\
 stA prog 35 (⟨r2,0,none⟩:Addr) #[.int .i64 gK,.slice bZ.a bZ.len bZ.cap,.slice cb.a cb.len cb.cap] w λw3=>
 ∃ag:Int,w3.cell? ((⟨r2,0,none⟩:Addr).add 0)=some (.int .i64 ag)/\
 ∃ab:SV,w3.cell? ((⟨r2,0,none⟩:Addr).add 1)=some (.slice ab.a ab.len ab.cap)/\
 ∃ae:SV,w3.cell? ((⟨r2,0,none⟩:Addr).add 2)=some (.slice ae.a ae.len ae.cap)/\
 R (.returned (.tuple #[.agg #[.int .i64 ag,.slice ab.a ab.len ab.cap,.slice ae.a ae.len ae.cap],.int .i64 0])) w3
theorem kQl {w0 wr w:World} {d:List UInt8} {r2 r4:Nat} {t:Tbl} {f q:SV} (aM:w.heap[r2]?=some (.cells #[.int .i64 0,.slice none 0 0,.slice none 0 0] 35)) (h4:w.heap[r4]?=some (.cells #[.int .i64 t.page,.slice f.a f.len f.cap,.slice q.a q.len q.cap] 35)) (ho:zJd wr w t f q) (hn:yXM t) (hp:Pu w0 w) (hr:w0.heap.size<=r2) (hl:r2<wr.heap.size) (hz:w0.heap.size<=wr.heap.size)
  (hout:yQb d t 0):copyT (kQo w0 d) r2 r4 w:=
 ⟨_,cl h4 0,f,cl h4 1,q,cl h4 2,zQi aM s35.symm rfl rfl λw5 bo cN oL=>⟨_,cl bo 0,f,cl bo 1,q,cl bo 2,t,f,q,0,rfl,(ho.one cN hl).low hz,hn,hp.andNew cN λi hi=>by omega,hout⟩⟩
theorem yZb{w w0:World}{s t:SV}{a b:List UInt8}(ha:zQh w0 w s a)(hb:ByV w t b):Calls prog 125 #[.slice s.a s.len s.cap,.slice t.a t.len t.cap] w λe w'=>e=.returned (.bool (decide (a=b)))/\Pu w w':=by
 refine yVG _ _ w _ ⟨_,w,xZU ha,_,w,yJe hb,?_,Pu.refl w⟩
 rw[zX8]
 congr 2
 exact zZ9 ⟨λh=>by rw[←zQQ a,h,zQQ],λh=>by rw[h]⟩
theorem yK7{w:World}{s:SV}{d:List UInt8}(hb:ByV w s d)(hd:d.length<=1000000000):Calls prog 87 #[.slice s.a s.len s.cap] w (kQo w d):=by
 refine xQy _ w _ (alB λw1 ar aB=>(yJF (hb.pu ar) hd).mono ?_)
 rintro e w2 ⟨t,f,q,ok,rfl,ho,hn,aq,hpar⟩
 have nJ:w.heap.size<w1.heap.size:=zQx aB
 refine⟨_,f,q,ok,rfl,yQA rfl s35.symm rfl λw3 au qU bn=>?_⟩
 have p3:=(ar.trans aq).trans au
 have ho3:=ho.pu au
 refine Br.of (λd1=>yJp ((aq.trans au).blk aB) p3 (Nat.le_refl _) λu hv hu=>?_) (λd1=>⟨_,cl bn 0,f,cl bn 1,q,cl bn 2,(zZ7 (ho3.rd hn) hn.lim).mono ?_⟩)
 ·rw[(hpar u hv hu).2]at d1;cases d1
 rintro e w4 ⟨rfl,aK⟩
 have p4:=p3.trans aK
 have b3:=aK.blk bn
 have yz:=ho3.pu aK
 refine⟨_,rfl,Br.of (λd1=>yJp (((aq.trans au).trans aK).blk aB) p4 (Nat.le_refl _) λu hv hu=>?_) (λd1=>⟨_,cl b3 0,f,cl b3 1,q,cl b3 2,?_⟩)⟩
 ·rw[(hpar u hv hu).1]at d1;exact zQ2 d1 hv
 have nw:zQf t=0:=zQs d1
 refine(yQP (yz.rd hn) (zJg.of nw)).mono ?_
 rintro e w5 ⟨o,rfl,ho5,aR⟩
 refine⟨o,rfl,(yZb ho5 (hb.pu (p4.trans aR))).mono ?_⟩
 rintro e w6 ⟨rfl,bB⟩
 have yA:=aR.trans bB
 refine⟨_,rfl,Br.of (λd1=>yJp ((((aq.trans au).trans aK).trans yA).blk aB) (p4.trans yA) (Nat.le_refl _) λu hv hu=>?_) (λd1=>?_)⟩
 ·rw[(hpar u hv hu).1,decide_eq_true hu]at d1;cases d1
 have hbt:zQj t=d:=by simpa using d1
 exact kQl ((((aq.trans au).trans aK).trans yA).blk aB) (yA.blk b3) (yz.pu yA) hn (p4.trans yA) (Nat.le_refl _) nJ ar.size (.inl ⟨rfl,nw,hbt,λu hv hu=>(hpar u hv hu).1⟩)
end Go.Proofs.YtaeecpjhfmcliaaGreatDoor
/- The log: what files tell, and what a recovery writes. In plain words. No condition but those stated. -/
namespace Go.Proofs.YtaeecpjhfmcliaaGreatDoor
open Go.Sh Go.RowKit Tryz
def zXx(d:List UInt8):Option Tbl:=open Classical in if h:∃u,zQf u=0/\zQj u=d then some h.choose else none
theorem zXl{d:List UInt8}{t:Tbl}(h:zXx d=some t):zQf t=0/\zQj t=d:=by
 unfold zXx at h
 split at h
 ·next hx=>rw[←Option.some.inj h];exact hx.choose_spec
 ·cases h
theorem zVl{d:List UInt8}(h:zXx d=none):∀u,zQf u=0->zQj u ≠ d:=λu hu hd=>by
 unfold zXx at h
 split at h
 ·cases h
 ·next hx=>exact hx ⟨u,hu,hd⟩
theorem yKJ{d:List UInt8}{t:Tbl}(h:yQb d t 0):zXx d=some t:=by
 rcases h with⟨-,h1,h2,h3⟩|⟨h,-⟩
 ·cases e:zXx d with
  | none=>exact absurd h2 (zVl e t h1)
  | some u=>rw[h3 u (zXl e).1 (zXl e).2]
 ·cases h
theorem yYP{d:List UInt8}{t:Tbl}(h:yQb d t 11):zXx d=none:=by
 rcases h with⟨h,-⟩|⟨-,-,h3⟩
 ·cases h
 ·cases e:zXx d with
  | none=>rfl
  | some u=>exact absurd (zXl e).2 (h3 u (zXl e).1)
theorem zK9{d:List UInt8}{t:Tbl}{c:Int}(h:yQb d t c):(c=0/\zXx d=some t)∨(c=11/\zXx d=none/\t=⟨0,[],[]⟩):=by
 have h':=h
 rcases h with⟨rfl,-⟩|⟨rfl,h2,-⟩
 ·exact .inl ⟨rfl,yKJ h'⟩
 ·exact .inr ⟨rfl,yYP h',h2⟩
def yXN(t:Tbl)(b:List UInt8):Option Rec:=(zXx (zJA { t with recs:=[⟨false,zJp t.fields⟩] } ++ b ++ [26])).bind λx=>x.recs.head?
def goC(t:Tbl)(size:Nat)(recs:List Rec)(rest:List UInt8):Option (List Rec):=
 if h:rest=[]then some recs
 else match yXN t ((rest.drop 2).take size)with
  | none=>none
  | some r=>if zQY (rest.take 2)<1∨recs.length+1<zQY (rest.take 2)∨300<zQY (rest.take 2)then none
   else goC t size (if recs.length<zQY (rest.take 2)then recs ++ [r]else recs.set (zQY (rest.take 2) - 1) r) (rest.drop (size+2))
 termination_by rest.length
 decreasing_by
 rw[List.length_drop]
 have:rest.length ≠ 0:=λe=>h (List.length_eq_zero_iff.1 e)
 omega
def zQZ(t:Tbl)(body:List UInt8):Option Tbl:=
 if body.length<2∨(body.length - 2) % ((zXK t.fields).toNat+2) ≠ 0 then none
 else(goC t (zXK t.fields).toNat t.recs (body.drop 2)).bind λl=>if l.length=zQY (body.take 2)then some { t with recs:=l }else none
def xZ0(t:Tbl)(k:Int):List UInt8:=match t.recs[(k - 1).toNat]? with
 | some r=>zJO zQu t.fields r
 | none=>[]
def zXs(t:Tbl)(l:List Int):List UInt8:=zJh t.recs.length 2 ++ l.flatMap λk=>if (t.recs.length:Int)<k then []else zJh k.toNat 2 ++ xZ0 t k
abbrev Fls:=List UInt8 × List UInt8
def zJK(cur:Option Tbl)(anew:Bool)(rest:List UInt8):Option Tbl × List UInt8 × Bool:=
 match h:zZH rest with
 | none=>(cur,rest,anew)
 | some (k,body,more)=>
  if k=119 then zJK (zXx body) true more
  else if k ≠ 99 then zJK none anew more
  else zJK (cur.bind λt=>zQZ t body) anew more
 termination_by rest.length
 decreasing_by all_goals exact yXq h
def zQA(F:Fls):Option Tbl × List UInt8 × Bool:=zJK (zXx F.1) false F.2
structure Wr where
 file:Int
 at_:Int
 b:List UInt8
def Fls.get(F:Fls)(i:Int):List UInt8:=if i=0 then F.1 else F.2
def Fls.put(F:Fls)(i:Int)(b:List UInt8):Fls:=if i=0 then(b,F.2)else(F.1,b)
def zZs(F:Fls)(x:Wr)(k:Int):Fls:=if k<=0 then F else F.put x.file ((F.get x.file).take (min x.at_ (F.get x.file).length).toNat ++ x.b.take k.toNat)
def zQ1(F:Fls)(x:Wr):Fls:=zZs F x (x.b.length+1)
def zQL(F:Fls):List Wr:=
 (if (zQA F).2.1=[]then []else [⟨1,F.2.length - (zQA F).2.1.length,[]⟩]) ++
 (if (zQA F).2.2 then [⟨0,0,[]⟩,⟨0,0,zQC ((zQA F).1.getD yJA)⟩,⟨1,0,[]⟩]else [])
def zKV(F:Fls):Fls:=(zQL F).foldl zQ1 F
def zZu(F:Fls):List Fls:=(zQL F).foldl (λl x=>l ++ [zQ1 (l.getLast?.getD F) x]) [F]
end Go.Proofs.YtaeecpjhfmcliaaGreatDoor
/- The log: right tables and their bytes stand for each other; headers too. In plain words. No condition but those stated. -/
namespace Go.Proofs.YtaeecpjhfmcliaaGreatDoor
open Go.Sh Go.RowKit Tryz
def wOf(d:List UInt8):World:={ heap:=#[.cells (d.map u8V).toArray 0 (0,0)],tape:=λ_ _=>0,drawn:=0,os:=default,output:=#[] }
theorem wOf_by(d:List UInt8)(hd:d.length<=140737488355328):ByV (wOf d) ⟨some ⟨0,0,none⟩,d.length,d.length⟩ d:=
 ⟨rfl,Nat.le_refl _,hd,λj b hj=>⟨_,rfl,by rw[zQr,zQI (c:=(d.map u8V).toArray) (e:=0) (f:=(0,0)) rfl];simp[hj]⟩⟩
theorem zZK{t:Tbl}(h:zJg t):(zQj t).length<=600300:=by
 have h1:=zWP h
 have h2:=xQi h t.recs.length (Nat.le_refl _)
 rw[List.take_length]at h2
 have h3:=h.n16
 unfold zQj
 simp only[List.length_append,List.length_singleton]
 omega
theorem zWt(t:Tbl):(zQC t).length<=600300:=by
 unfold zQC;split
 ·rename_i h;exact zZK (zJg.of h)
 ·simp
theorem yQx{u v:Tbl}(hu:zQf u=0)(hv:zQf v=0)(h:zQj u=zQj v):u=v:=by
 have hl:=zZK (zJg.of hu)
 obtain⟨e,w',fr,⟨t,f,q,c,_,_,_,_,hr⟩,_⟩:=yK7 (wOf_by (zQj u) (by omega)) (by omega) []
 rcases hr with⟨_,_,_,h3⟩|⟨_,_,h3⟩
 ·rw[←h3 u hu rfl,←h3 v hv h.symm]
 ·exact absurd rfl (h3 u hu)
theorem yX9{f:Fld}(h:zQo f=true):1<=f.kind/\f.kind<=5:=by
 unfold zQo at h
 have h:=(Bool.and_eq_true _ _ ▸ h:zZ3 f.name=true/\zWI f.kind f.width=true).2
 unfold zWI at h
 split at h
 ·omega
 split at h
 ·omega
 split at h
 ·omega
 split at h
 ·omega
 split at h
 ·omega
 ·cases h
theorem yJ5{a b:Int}(ha:1<=a/\a<=5)(hb:1<=b/\b<=5)(h:zVv a=zVv b):a=b:=by
 rcases(by omega:a=1∨a=2∨a=3∨a=4∨a=5)with rfl|rfl|rfl|rfl|rfl <;> rcases(by omega:b=1∨b=2∨b=3∨b=4∨b=5)with rfl|rfl|rfl|rfl|rfl <;> first|rfl|(exfalso;revert h;decide)
theorem xQ2{a b:Bool}(h:yY6 a=yY6 b):a=b:=by
 cases a <;> cases b <;> first|rfl|(exfalso;revert h;decide)
theorem zYT{a b:Int}(ha:0<=a/\a<=255)(hb:0<=b/\b<=255)(h:zZI a=zZI b):a=b:=by
 rw[←zWD ha,←zWD hb,h]
theorem yV0{f g:Fld}(hf:zQo f=true)(hg:zQo g=true)(h:zQN f=zQN g):f=g:=by
 obtain⟨a1,a2,a3,a4⟩:=zWr hf h
 obtain⟨b1,b2,b3,b4⟩:=zWr hg rfl
 have e1:f.name.data.toList=g.name.data.toList:=by
  have:=a1.symm.trans b1
  rw[←zWx _ (zVx hf) (10 - f.name.size),this,zWx _ (zVx hg)]
 have e2:=yJ5 (yX9 hf) (yX9 hg) (Option.some.inj (a2.symm.trans b2))
 have e3:=zYT (by have:=zXt hf;omega) (by have:=zXt hg;omega) (Option.some.inj (a3.symm.trans b3))
 have e4:=xQ2 (Option.some.inj (a4.symm.trans b4))
 obtain⟨n,k,wd,z⟩:=f
 obtain⟨n',k',wd',z'⟩:=g
 dsimp only at e1 e2 e3 e4
 rw[zQU e1,e2,e3,e4]
theorem xJM{x t:Tbl}(hx:zQf x=0)(hp:zQX t.page=true)(hvf:zQV t.fields=0){rest:List UInt8}(h:zQj x=zJA t ++ rest):x.page=t.page/\x.fields=t.fields:=by
 have ox:=zJg.of hx
 obtain⟨h0,hall,_,iY,hw⟩:=zXn hvf
 have x16:=ox.n16
 have e:zJA t ++ rest=zVy t ++ (t.fields.flatMap zQN ++ ([13] ++ rest)):=by unfold zJA zVy;simp only[List.append_assoc]
 rw[e]at h
 obtain⟨d,hd⟩:∃d,d=zQj x:=⟨_,rfl⟩
 obtain⟨_,p1,_,p10⟩:=zWK (u:=x) hd.symm
 have h1:=zXp t.recs.length 4
 have q1:d[1]?=some (zZI t.page):=by rw[hd,h];rfl
 have q10:d[10]?=some (zZI t.fields.length):=by
  rw[hd,h,List.getElem?_append_left (by rw[zW5];omega)]
  unfold zVy
  rw[List.getElem?_append_right (by simp[zXp])]
  simp[zXp]
 have px:=ox.page
 unfold zQX at px hp
 simp only[Bool.and_eq_true,decide_eq_true_eq]at px hp
 have ep:=zYT (by omega) (by omega) (Option.some.inj (p1.symm.trans q1))
 have en:=zYT (by omega) (by omega) (Option.some.inj (p10.symm.trans q10))
 have en:x.fields.length=t.fields.length:=by omega
 refine⟨ep,List.ext_getElem? λk=>?_⟩
 by_cases hk:k<t.fields.length
 ·obtain⟨f,hf⟩:=zQM hk
  obtain⟨g,hg⟩:=zQM (l:=x.fields) (k:=k) (by omega)
  have b1:=zYI ox hd.symm hg
  have b2:(d.drop (12+16 * k)).take 16=zQN f:=by
   have hallk:(t.fields.take k).all zQo=true:=List.all_eq_true.2 λg hg=>List.all_eq_true.1 hall g (List.mem_of_mem_take hg)
   have hl1:=yJW hallk
   rw[List.length_take]at hl1
   have hl16:=zZ6 (zXb (List.all_eq_true.1 hall f (List.mem_of_getElem? hf))).2.1
   have ee:t.fields.flatMap zQN=(t.fields.take k).flatMap zQN ++ (zQN f ++ (t.fields.drop (k+1)).flatMap zQN):=by
    rw[←List.flatMap_cons,←zXU hf,←List.flatMap_append,List.take_append_drop]
   have hl:(zVy t ++ (t.fields.take k).flatMap zQN).length=12+16 * k:=by rw[List.length_append,zW5,hl1];omega
   rw[hd,h,ee,List.append_assoc,←List.append_assoc (zVy t),List.drop_append,List.drop_eq_nil_of_le (by omega),hl,Nat.sub_self,List.drop_zero,List.nil_append,List.append_assoc,List.take_append_of_le_length (by omega),List.take_of_length_le (by omega)]
  rw[hg,hf,yV0 (List.all_eq_true.1 ox.all g (List.mem_of_getElem? hg)) (List.all_eq_true.1 hall f (List.mem_of_getElem? hf)) (b1.symm.trans b2)]
 ·rw[List.getElem?_eq_none (by omega),List.getElem?_eq_none (by omega)]
theorem zK3{t:Tbl}(hp:zQX t.page=true)(hf:zQV t.fields=0)(hn:t.recs.length<=300)(hr:∀r ∈ t.recs,zQ0 t.fields t.page r=0):zQf t=0:=by
 have key:∀l:List Rec,(∀r ∈ l,zQ0 t.fields t.page r=0)->zXw t.fields t.page l=0:=by
  intro l
  induction l with
  | nil=>intro _;rfl
  | cons r l ih=>
   intro h
   unfold zXw
   rw[if_neg (by rw[h r (List.mem_cons_self)];simp)]
   exact ih λx hx=>h x (List.mem_cons_of_mem _ hx)
 unfold zQf
 rw[if_pos hp,if_neg (by rw[hf];simp),if_neg (by omega)]
 exact key _ hr
structure zQP(t:Tbl):Prop where
 page:zQX t.page=true
 vf:zQV t.fields=0
 n300:t.recs.length<=300
 recs:∀r ∈ t.recs,zQ0 t.fields t.page r=0
theorem zQP.of{t:Tbl}(h:zQf t=0):zQP t:=by
 obtain⟨h1,h2,h3,h4⟩:=zW9 h
 exact⟨h1,h2,h3,λr hr=>zJo h4 r hr⟩
theorem zQP.ok{t:Tbl}(h:zQP t):zQf t=0:=zK3 h.page h.vf h.n300 h.recs
end Go.Proofs.YtaeecpjhfmcliaaGreatDoor
