import Derived.Test.YtaeecpjhfmcliaaGreatDoorLgOwD
import Derived.Test.YtaeecpjhfmcliaaGreatDoorLgOwC
/- Table: the program's reading of a row's bytes. No condition. -/
set_option maxRecDepth 100000
set_option maxHeartbeats 2000000
set_option linter.unusedVariables false
set_option linter.unusedSimpArgs false
noncomputable section
namespace Go.Proofs.YtaeecpjhfmcliaaGreatDoor
open Go.Sh Go.RowKit Tryz
def appV(aD:SV)(p6:Option Addr)(c:Array Value)(K:World->Prop)(w:World):Prop:=
 alE (.cells c 73) w λcv dQ=>∃aE:SV,∃dx:World,(Builtin.append_ #[38,38] 38 #[.slice aD.a aD.len aD.cap,.slice (some ⟨cv,0,none⟩) 1 1]).run prog dQ=.ok (.slice aE.a aE.len aE.cap) dx/\
 zQh p6 λna=>st1 (na.add 1) (.slice aE.a aE.len aE.cap) dx λfm=>K fm
def xYI(p6:Option Addr)(aL:Nat)(K:World->Prop)(w:World):Prop:=
 zQh p6 λo2=>∃aD:SV,w.cell? (o2.add 1)=some (.slice aD.a aD.len aD.cap)/\
 ∃ay:Int,w.cell? ((⟨aL,0,none⟩:Addr).add 0)=some (.int .i64 ay)/\
 ∃az:Int,w.cell? ((⟨aL,0,none⟩:Addr).add 1)=some (.int .i64 az)/\
 ∃aA:ByteArray,w.cell? ((⟨aL,0,none⟩:Addr).add 2)=some (.string aA)/\
 appV aD p6 #[.int .i64 ay,.int .i64 az,.string aA] K w
structure yQl(w0 wr:World)(r4 r6:Nat)(g:Bool)(vs:List Val)(w:World):Prop where
 ex:∃q:SV,w.heap[r6]?=some (.cells #[.bool g,.slice q.a q.len q.cap] 67)/\zKa wr w q vs
 b4:w.heap[r4]?=some (.cells #[.bool false,.slice none 0 0] 67)
 sz:wr.heap.size<=w.heap.size
 pu:Pu w0 w
 l4:r4<wr.heap.size
 l6:r6<wr.heap.size
 ne:r4 ≠ r6
 z4:w0.heap.size<=r4
 z6:w0.heap.size<=r6
theorem yQl.on{w0 wr w w':World}{r4 r6:Nat}{g:Bool}{vs:List Val}(h:yQl w0 wr r4 r6 g vs w)(hp:Pu w w'):yQl w0 wr r4 r6 g vs w':=by
 obtain⟨q,h1,h2⟩:=h.ex
 exact⟨⟨q,hp.blk h1,h2.pu hp⟩,hp.blk h.b4,Nat.le_trans h.sz hp.size,h.pu.trans hp,h.l4,h.l6,h.ne,h.z4,h.z6⟩
theorem xWr {w0 wr w:World} {r4 r6:Nat} {g:Bool} {vs:List Val} (h:yQl w0 wr r4 r6 g vs w) {q:SV} (h6:w.heap[r6]?=some (.cells #[.bool g,.slice q.a q.len q.cap] 67)) (hq:zKa wr w q vs) {v:Val} {c:Array Value} (hc:c=#[.int .i64 v.kind,.int .i64 v.n,.string v.s]) (hl:vs.length<=1000000) {K:World->Prop}
  (hK:∀w',yQl w0 wr r4 r6 g (vs ++ [v]) w'->K w'):appV q (some ⟨r6,0,none⟩) c K w:=by
 refine alB λw1 aq aB=>?_
 have h1:=h.on aq
 have z1:=aq.size
 have z:=h.sz
 obtain⟨q',w2,e2,r2,f2⟩:=(hq.pu aq).push (by omega) aB hc hl
 have n6:¬r6 ∈ zQd q:=λhc=>by have:=hq.2 _ hc;have:=h.l6;omega
 have n4:¬r4 ∈ zQd q:=λhc=>by have:=hq.2 _ hc;have:=h.l4;omega
 have b6:=f2.blk (aq.blk h6) n6
 have b4:=f2.blk h1.b4 n4
 refine⟨q',w2,e2,zQt (o:=1) b6 (by simp) λwx ex hbx=>?_⟩
 have fx:Fr (·=r6) w2 wx:=by rw[ex];exact Fr.cell w2 _ _ _
 have zx:wx.heap.size=w2.heap.size:=by rw[ex];simp
 have z2:=f2.size
 have h46:=h.ne
 have hz6:=h.z6
 have hl6:=h.l6
 have hl4:=h.l4
 have hz4:=h.z4
 refine hK wx ⟨⟨q',hbx,r2.fr fx λi hi=>by have:=r2.2 i hi;omega⟩,fx.blk b4 (by omega),by omega,?_,h.l4,h.l6,h.ne,h.z4,h.z6⟩
 have p2:Pu w0 w2:=h1.pu.andNew f2 λi hi=>by have:=hq.2 i hi;omega
 exact p2.andNew fx λi hi=>by omega
theorem yYD {w0 wr w:World} {r4 r6 aL:Nat} {g:Bool} {vs:List Val} (h:yQl w0 wr r4 r6 g vs w) {v:Val} (hv:w.heap[aL]?=some (.cells #[.int .i64 v.kind,.int .i64 v.n,.string v.s] 73)) (hl:vs.length<=1000000) {K:World->Prop}
  (hK:∀w',yQl w0 wr r4 r6 g (vs ++ [v]) w'->K w'):xYI (some ⟨r6,0,none⟩) aL K w:=by
 obtain⟨q,h6,hq⟩:=h.ex
 exact⟨q,cl h6 1,_,cl hv 0,_,cl hv 1,_,cl hv 2,xWr h h6 hq rfl hl hK⟩
def zKE(K:Bool->World->Prop)(p6:Option Addr)(b9 ok:Bool)(aL:Nat)(w:World):Prop:=Br b9 (xYI p6 aL (K ok) w) (xYI p6 aL (K false) w)
def yKK(K:Bool->World->Prop)(p6:Option Addr)(b9:Bool)(co:Nat)(bK:SV)(w9:World):Prop:=
 dwE w9 λbI=>
 ∃S1:World->Prop,S1 bI/\
 ∃lD:Int,(∀w',S1 w'->w'.cell? ((⟨co,0,none⟩:Addr).add 1)=some (.int .i64 lD))/\
 (
 Calls prog 145 #[] bI λe bJ=>
 ∃eX:Option Nat,e=.returned (.map eX)/\
 ∃S2:World->Prop,S2 bJ/\(∀u,S2 u->S1 u)/\
 ∃bG:Int,∃bH:Int,∃bO:Int,∃bP:Value,∃aU:Value,(∀w',S2 w'->(Instr.lookup 176 (.map eX) (.int .i64 lD) false).run prog w'=.ok (.agg #[.int .u8 bG,.int .i64 bH,.int .i64 bO,bP,aU]) w')/\
 (
 ∃dH:ByteArray,∃bR:World,(convert 22 9 (.slice bK.a bK.len bK.cap)).run prog bJ=.ok (.string dH) bR/\
 ∃S3:World->Prop,S3 bR/\(∀u,S3 u->S2 u)/\
 (
 fnE aU λf75 first75 bg=>
 zQ6 prog f75=true/\Calls prog f75 (first75.toList ++ (([.string dH]:List Value) ++ bg.toList)).toArray bR λe cK=>
 ∃am:Int,∃ao:Int,∃ap:ByteArray,∃aF:Bool,e=.returned (.tuple #[.agg #[.int .i64 am,.int .i64 ao,.string ap],.bool aF])/\
 alE (.cells #[.int .i64 0,.int .i64 0,.string (⟨#[]⟩:ByteArray)] 73) cK λaL cj=>
 stA prog 73 (⟨aL,0,none⟩:Addr) #[.int .i64 am,.int .i64 ao,.string ap] cj λcr=>
 zKE K p6 b9 aF aL cr)/\(
 alE (.cells #[.int .i64 0,.int .i64 0,.string (⟨#[]⟩:ByteArray)] 73) bR λaL gz=>
 ∃S4:World->Prop,S4 gz/\(∀u,S4 u->S3 u)/\
 fnE aU λf75 first75 bg=>
 zQ6 prog f75=true/\Calls prog f75 (first75.toList ++ (([.string dH]:List Value) ++ bg.toList)).toArray gz λe fW=>
 ∃am:Int,∃ao:Int,∃ap:ByteArray,∃aF:Bool,e=.returned (.tuple #[.agg #[.int .i64 am,.int .i64 ao,.string ap],.bool aF])/\
 stA prog 73 (⟨aL,0,none⟩:Addr) #[.int .i64 am,.int .i64 ao,.string ap] fW λfo=>
 zKE K p6 b9 aF aL fo))/\(
 alE (.cells #[.int .i64 0,.int .i64 0,.string (⟨#[]⟩:ByteArray)] 73) bJ λaL oZ=>
 ∃S5:World->Prop,S5 oZ/\(∀u,S5 u->S2 u)/\
 ∃dH:ByteArray,∃gm:World,(convert 22 9 (.slice bK.a bK.len bK.cap)).run prog oZ=.ok (.string dH) gm/\
 ∃S6:World->Prop,S6 gm/\(∀u,S6 u->S5 u)/\
 fnE aU λf75 first75 bg=>
 zQ6 prog f75=true/\Calls prog f75 (first75.toList ++ (([.string dH]:List Value) ++ bg.toList)).toArray gm λe xj=>
 ∃am:Int,∃ao:Int,∃ap:ByteArray,∃aF:Bool,e=.returned (.tuple #[.agg #[.int .i64 am,.int .i64 ao,.string ap],.bool aF])/\
 stA prog 73 (⟨aL,0,none⟩:Addr) #[.int .i64 am,.int .i64 ao,.string ap] xj λkX=>
 zKE K p6 b9 aF aL kX))/\(
 (
 ∃dH:ByteArray,∃nI:World,(convert 22 9 (.slice bK.a bK.len bK.cap)).run prog bI=.ok (.string dH) nI/\
 ∃S7:World->Prop,S7 nI/\(∀u,S7 u->S1 u)/\
 (
 Calls prog 145 #[] nI λe pD=>
 ∃eX:Option Nat,e=.returned (.map eX)/\
 ∃S8:World->Prop,S8 pD/\(∀u,S8 u->S7 u)/\
 ∃bG:Int,∃bH:Int,∃bO:Int,∃bP:Value,∃aU:Value,(∀w',S8 w'->(Instr.lookup 176 (.map eX) (.int .i64 lD) false).run prog w'=.ok (.agg #[.int .u8 bG,.int .i64 bH,.int .i64 bO,bP,aU]) w')/\
 (
 fnE aU λf75 first75 bg=>
 zQ6 prog f75=true/\Calls prog f75 (first75.toList ++ (([.string dH]:List Value) ++ bg.toList)).toArray pD λe qp=>
 ∃am:Int,∃ao:Int,∃ap:ByteArray,∃aF:Bool,e=.returned (.tuple #[.agg #[.int .i64 am,.int .i64 ao,.string ap],.bool aF])/\
 alE (.cells #[.int .i64 0,.int .i64 0,.string (⟨#[]⟩:ByteArray)] 73) qp λaL rt=>
 stA prog 73 (⟨aL,0,none⟩:Addr) #[.int .i64 am,.int .i64 ao,.string ap] rt λoU=>
 zKE K p6 b9 aF aL oU)/\(
 alE (.cells #[.int .i64 0,.int .i64 0,.string (⟨#[]⟩:ByteArray)] 73) pD λaL xf=>
 ∃S9:World->Prop,S9 xf/\(∀u,S9 u->S8 u)/\
 fnE aU λf75 first75 bg=>
 zQ6 prog f75=true/\Calls prog f75 (first75.toList ++ (([.string dH]:List Value) ++ bg.toList)).toArray xf λe o5=>
 ∃am:Int,∃ao:Int,∃ap:ByteArray,∃aF:Bool,e=.returned (.tuple #[.agg #[.int .i64 am,.int .i64 ao,.string ap],.bool aF])/\
 stA prog 73 (⟨aL,0,none⟩:Addr) #[.int .i64 am,.int .i64 ao,.string ap] o5 λoY=>
 zKE K p6 b9 aF aL oY))/\(
 alE (.cells #[.int .i64 0,.int .i64 0,.string (⟨#[]⟩:ByteArray)] 73) nI λaL zu=>
 ∃S10:World->Prop,S10 zu/\(∀u,S10 u->S7 u)/\
 Calls prog 145 #[] zu λe zv=>
 ∃eX:Option Nat,e=.returned (.map eX)/\
 ∃S11:World->Prop,S11 zv/\(∀u,S11 u->S10 u)/\
 ∃bG:Int,∃bH:Int,∃bO:Int,∃bP:Value,∃aU:Value,(∀w',S11 w'->(Instr.lookup 176 (.map eX) (.int .i64 lD) false).run prog w'=.ok (.agg #[.int .u8 bG,.int .i64 bH,.int .i64 bO,bP,aU]) w')/\
 fnE aU λf75 first75 bg=>
 zQ6 prog f75=true/\Calls prog f75 (first75.toList ++ (([.string dH]:List Value) ++ bg.toList)).toArray zv λe w89=>
 ∃am:Int,∃ao:Int,∃ap:ByteArray,∃aF:Bool,e=.returned (.tuple #[.agg #[.int .i64 am,.int .i64 ao,.string ap],.bool aF])/\
 stA prog 73 (⟨aL,0,none⟩:Addr) #[.int .i64 am,.int .i64 ao,.string ap] w89 λqZ=>
 zKE K p6 b9 aF aL qZ))/\(
 alE (.cells #[.int .i64 0,.int .i64 0,.string (⟨#[]⟩:ByteArray)] 73) bI λaL pd=>
 ∃S12:World->Prop,S12 pd/\(∀u,S12 u->S1 u)/\
 (
 Calls prog 145 #[] pd λe rM=>
 ∃eX:Option Nat,e=.returned (.map eX)/\
 ∃S13:World->Prop,S13 rM/\(∀u,S13 u->S12 u)/\
 ∃bG:Int,∃bH:Int,∃bO:Int,∃bP:Value,∃aU:Value,(∀w',S13 w'->(Instr.lookup 176 (.map eX) (.int .i64 lD) false).run prog w'=.ok (.agg #[.int .u8 bG,.int .i64 bH,.int .i64 bO,bP,aU]) w')/\
 ∃dH:ByteArray,∃pe:World,(convert 22 9 (.slice bK.a bK.len bK.cap)).run prog rM=.ok (.string dH) pe/\
 ∃S14:World->Prop,S14 pe/\(∀u,S14 u->S13 u)/\
 fnE aU λf75 first75 bg=>
 zQ6 prog f75=true/\Calls prog f75 (first75.toList ++ (([.string dH]:List Value) ++ bg.toList)).toArray pe λe xk=>
 ∃am:Int,∃ao:Int,∃ap:ByteArray,∃aF:Bool,e=.returned (.tuple #[.agg #[.int .i64 am,.int .i64 ao,.string ap],.bool aF])/\
 stA prog 73 (⟨aL,0,none⟩:Addr) #[.int .i64 am,.int .i64 ao,.string ap] xk λj6=>
 zKE K p6 b9 aF aL j6)/\(
 ∃dH:ByteArray,∃pf:World,(convert 22 9 (.slice bK.a bK.len bK.cap)).run prog pd=.ok (.string dH) pf/\
 ∃S15:World->Prop,S15 pf/\(∀u,S15 u->S12 u)/\
 Calls prog 145 #[] pf λe rN=>
 ∃eX:Option Nat,e=.returned (.map eX)/\
 ∃S16:World->Prop,S16 rN/\(∀u,S16 u->S15 u)/\
 ∃bG:Int,∃bH:Int,∃bO:Int,∃bP:Value,∃aU:Value,(∀w',S16 w'->(Instr.lookup 176 (.map eX) (.int .i64 lD) false).run prog w'=.ok (.agg #[.int .u8 bG,.int .i64 bH,.int .i64 bO,bP,aU]) w')/\
 fnE aU λf75 first75 bg=>
 zQ6 prog f75=true/\Calls prog f75 (first75.toList ++ (([.string dH]:List Value) ++ bg.toList)).toArray rN λe xm=>
 ∃am:Int,∃ao:Int,∃ap:ByteArray,∃aF:Bool,e=.returned (.tuple #[.agg #[.int .i64 am,.int .i64 ao,.string ap],.bool aF])/\
 stA prog 73 (⟨aL,0,none⟩:Addr) #[.int .i64 am,.int .i64 ao,.string ap] xm λj7=>
 zKE K p6 b9 aF aL j7)))
theorem yWQ {K:Bool->World->Prop} {p6:Option Addr} {b9:Bool} {co:Nat} {bK:SV} {w9:World} {f:Fld} {part:List UInt8} (hb:w9.heap[co]?=some (.cells #[.string f.name,.int .i64 f.kind,.int .i64 f.width,.bool f.null] 129)) (hf:zQp f=true) (hl:ByV w9 bK part)
  (tail:∀(wz:World) (aL:Nat),Pu w9 wz->wz.heap[aL]?=some (.cells #[.int .i64 (zJm f.kind part).kind,.int .i64 (zJm f.kind part).n,.string (zJm f.kind part).s] 73)->zKE K p6 b9 (okS f.kind part) aL wz):yKK K p6 b9 co bK w9:=by
 obtain⟨R5,hk5,hbody,hcall0⟩:=xJd hf
 have hsz:(bs part).size<=140737488355328:=by rw[zQB,←hl.len];exact hl.lim
 have hcall:∀w,Calls prog R5.rd #[.string (bs part)] w λe w'=>e=.returned (.tuple #[zJ7 (zJm f.kind part),.bool (okS f.kind part)])/\Pu w w':=λw=>by
  have:=hcall0 (bs part) hsz w
  rw[zQP]at this;exact this
 have kin:∀wz,Calls prog 145 #[] wz λe w'=>∃m:Nat,e=.returned (.map (some m))/\(∀u,Pu w' u->(Instr.lookup 176 (.map (some m)) (.int .i64 f.kind) false).run prog u=.ok (.agg #[.int .u8 R5.letter,.int .i64 R5.least,.int .i64 R5.most,.func (.func R5.wr) #[] #[],.func (.func R5.rd) #[] #[]]) u)/\Pu wz w':=λwz=>by
  refine(zVr wz).mono ?_
  rintro e w' ⟨m,rfl,hm,_,hp⟩
  refine⟨m,rfl,λu hu=>?_,hp⟩
  have:=zWF (hm.pu hu) f.kind false
  rw[hk5]at this;exact this
 have conv:∀{wz},Pu w9 wz->(convert 22 9 (.slice bK.a bK.len bK.cap)).run prog wz=.ok (.string (bs part)) wz:=λ{wz} h=>zWr (hl.pu h)
 -- the call, then the variable
 have ca:∀{wz:World},Pu w9 wz->Calls prog R5.rd #[.string (bs part)] wz λe cK=>∃am:Int,∃ao:Int,∃ap:ByteArray,∃aF:Bool,e=.returned (.tuple #[.agg #[.int .i64 am,.int .i64 ao,.string ap],.bool aF])/\
   alE (.cells #[.int .i64 0,.int .i64 0,.string (⟨#[]⟩:ByteArray)] 73) cK λaL cj=>stA prog 73 (⟨aL,0,none⟩:Addr) #[.int .i64 am,.int .i64 ao,.string ap] cj λcr=>zKE K p6 b9 aF aL cr:=λ{wz} hz=>by
  refine(hcall wz).mono ?_
  rintro e w1 ⟨rfl,aq⟩
  exact⟨_,_,_,_,rfl,yQv rfl s25.symm rfl λw2 ar qP aM=>tail w2 _ ((hz.trans aq).trans ar) aM⟩
 -- the call, behind the variable
 have ac:∀{wz:World} {aL:Nat},Pu w9 wz->wz.heap[aL]?=some (.cells #[.int .i64 0,.int .i64 0,.string (⟨#[]⟩:ByteArray)] 73)->w9.heap.size<=aL->Calls prog R5.rd #[.string (bs part)] wz λe cK=>∃am:Int,∃ao:Int,∃ap:ByteArray,∃aF:Bool,e=.returned (.tuple #[.agg #[.int .i64 am,.int .i64 ao,.string ap],.bool aF])/\
   stA prog 73 (⟨aL,0,none⟩:Addr) #[.int .i64 am,.int .i64 ao,.string ap] cK λcr=>zKE K p6 b9 aF aL cr:=λ{wz aL} hz iH hr=>by
  refine(hcall wz).mono ?_
  rintro e w1 ⟨rfl,aq⟩
  exact⟨_,_,_,_,rfl,zQi (aq.blk iH) s25.symm rfl rfl λw2 aM fY qP=>tail w2 _ ((hz.trans aq).andNew fY λi hi=>by omega) aM⟩
 refine zQb λbI dN _=>⟨λu=>Pu bI u,Pu.refl _,f.kind,λu hu=>cl (hu.blk (dN.blk hb)) 1,(kin bI).mono ?_,?_,alB λw2 ar aM=>?_⟩
 ·rintro e w1 ⟨m,rfl,hm,aq⟩
  have q1:=dN.trans aq
  refine⟨some m,rfl,λu=>Pu w1 u,Pu.refl _,λu hu=>aq.trans hu,_,_,_,_,_,hm,⟨bs part,w1,conv q1,λu=>Pu w1 u,Pu.refl _,λu hu=>hu,⟨hbody,ca q1⟩,alB λw2 ar aM=>⟨λu=>Pu w2 u,Pu.refl _,λu hu=>ar.trans hu,hbody,ac (q1.trans ar) aM q1.size⟩⟩,alB λw2 ar aM=>?_⟩
  exact⟨λu=>Pu w2 u,Pu.refl _,λu hu=>ar.trans hu,bs part,w2,conv (q1.trans ar),λu=>Pu w2 u,Pu.refl _,λu hu=>hu,hbody,ac (q1.trans ar) aM q1.size⟩
 ·refine⟨bs part,bI,conv dN,λu=>Pu bI u,Pu.refl _,λu hu=>hu,(kin bI).mono ?_,alB λw2 ar aM=>?_⟩
  ·rintro e w1 ⟨m,rfl,hm,aq⟩
   have q1:=dN.trans aq
   exact⟨some m,rfl,λu=>Pu w1 u,Pu.refl _,λu hu=>aq.trans hu,_,_,_,_,_,hm,⟨hbody,ca q1⟩,alB λw2 ar aM=>⟨λu=>Pu w2 u,Pu.refl _,λu hu=>ar.trans hu,hbody,ac (q1.trans ar) aM q1.size⟩⟩
  ·refine⟨λu=>Pu w2 u,Pu.refl _,λu hu=>ar.trans hu,(kin w2).mono ?_⟩
   rintro e w1 ⟨m,rfl,hm,aq⟩
   exact⟨some m,rfl,λu=>Pu w1 u,Pu.refl _,λu hu=>aq.trans hu,_,_,_,_,_,hm,hbody,ac ((dN.trans ar).trans aq) (aq.blk aM) dN.size⟩
 ·refine⟨λu=>Pu w2 u,Pu.refl _,λu hu=>ar.trans hu,(kin w2).mono ?_,bs part,w2,conv (dN.trans ar),λu=>Pu w2 u,Pu.refl _,λu hu=>hu,(kin w2).mono ?_⟩
  ·rintro e w1 ⟨m,rfl,hm,aq⟩
   exact⟨some m,rfl,λu=>Pu w1 u,Pu.refl _,λu hu=>aq.trans hu,_,_,_,_,_,hm,bs part,w1,conv ((dN.trans ar).trans aq),λu=>Pu w1 u,Pu.refl _,λu hu=>hu,hbody,ac ((dN.trans ar).trans aq) (aq.blk aM) dN.size⟩
  ·rintro e w1 ⟨m,rfl,hm,aq⟩
   exact⟨some m,rfl,λu=>Pu w1 u,Pu.refl _,λu hu=>aq.trans hu,_,_,_,_,_,hm,hbody,ac ((dN.trans ar).trans aq) (aq.blk aM) dN.size⟩
theorem yZO {w:World} {l:List Fld} {s t:SV} {d:List UInt8} (h:zX7 w s l) (hall:l.all zQp=true) (i8:l.length<=16) (ht:ByV w t d) (hd:(d.length:Int)=zXM l) :
  Calls prog 163 #[.slice s.a s.len s.cap,.slice t.a t.len t.cap] w λe w'=>∃(g ok:Bool) (vs:List Val) (q:SV),e=.returned (.tuple #[.agg #[.bool g,.slice q.a q.len q.cap],.bool ok])/\zKa w w' q vs/\vs.length=l.length/\(∀v ∈ vs,zZV v.kind/\zZV v.n)/\Pu w w'/\
   ∀(r:Rec) (p:Int),zXC l p r.v->zJX zQu l r=d->g=r.gone/\vs=r.v/\ok=true:=by
 have hsl:=h.len
 have htl:=ht.len
 have hnl:=zYd l
 have hwide:=zJt (WOk.of hall)
 have hlw:(l.map (·.width)).sum<=254 * l.length:=hwide.2
 have wU:0<d.length:=by unfold zXM at hd;omega
 have hdb:(d.length:Int)<=10000:=by unfold zXM at hd;omega
 have hdw:1+zXr l<=d.length:=by unfold zXM at hd;omega
 refine yWN _ _ w _ (alB λw1 aq aB=>?_)
 obtain⟨b0,tM⟩:=zQL wU
 obtain⟨a0,yq,hc0⟩:=(ht.pu aq).get _ _ tM
 refine⟨a0,yq,by omega,by omega,_,hc0,yQv rfl s46.symm rfl λw2 ar qP aM=>(zWm (h.pu (aq.trans ar))).mono ?_⟩
 rintro e w3 ⟨rfl,ax⟩
 refine⟨_,rfl,?_⟩
 have l1:w.heap.size<w1.heap.size:=zQy aB
 have l2:w1.heap.size<w2.heap.size:=zQy aM
 have z3:=ax.size
 have yp:yQl w w2 w.heap.size w1.heap.size (((b0.toNat:Nat):Int) == 42) [] w3:=⟨⟨⟨none,0,0⟩,ax.blk aM,zKa.nil w2 w3⟩,(ar.trans ax).blk aB,z3,(aq.trans ar).trans ax,by omega,l2,by omega,Nat.le_refl _,by omega⟩
 rw[zQa (by omega) (by omega)]
 refine zQx l.length (λk u w'=>u.2.2.2=(k:Int)/\u.1=(yQ0 l k:Nat)/\u.2.1=(zXT l k:Nat)/\∃vs:List Val,vs.length=k/\(∀v ∈ vs,zZV v.kind/\zZV v.n)/\yQl w w2 w.heap.size w1.heap.size (((b0.toNat:Nat):Int) == 42) vs w'/\
   ∀(r:Rec) (p:Int),zXC l p r.v->zJX zQu l r=d->vs=r.v.take k/\u.2.2.1=true) ⟨rfl,by show(1:Int)+((zXr l:Nat):Int)=_;unfold yQ0;simp,rfl,[],rfl,by simp,yp,λr p _ _=>⟨by simp,rfl⟩⟩ ?_
 rintro k J ⟨u1,u2,u3,u4⟩ w4 hk ⟨e4,e1,e2,vs,hvl,tA,st,hcond⟩ hJ
 obtain rfl:u4=(k:Int):=e4
 obtain rfl:u1=(yQ0 l k:Nat):=e1
 obtain rfl:u2=(zXT l k:Nat):=e2
 have hcond:∀(r:Rec) (p:Int),zXC l p r.v->zJX zQu l r=d->vs=r.v.take k/\u3=true:=hcond
 have hnk:=yKc l k
 have hfl:=List.length_filter_le (·.null) l
 dsimp only
 refine Br.of (λq=>?_) (λq=>?_)
 ·have aH:k<l.length:=by have:=zQk q;omega
  obtain⟨f,hf⟩:=zQL aH
  have hfB:=List.all_eq_true.1 hall f (List.mem_of_getElem? hf)
  have hwf:=zXs hfB
  have hoff:=xYL hall hf
  obtain⟨a,ha,hi,_,_,_,c0,c1,c2,c3⟩:=zJk (h.pu st.pu) hf
  refine⟨a,ha,by omega,by omega,_,c0,_,c1,_,c2,_,c3,yQv rfl s23.symm rfl λw5 aT kK bq=>⟨_,cl bq 2,_,cl bq 2,?_⟩⟩
  have xH:=st.on aT
  have ht5:=ht.pu xH.pu
  obtain⟨bK,e40,h40⟩:=ht5.part3 (lo:=yQ0 l k) (hi:=yQ0 l k+f.width.toNat) (by omega) (by omega)
  rw[show yQ0 l k+f.width.toNat - yQ0 l k=f.width.toNat by omega]at h40
  have ew:IntKind.i64.wrap (((yQ0 l k:Nat):Int)+f.width)=((yQ0 l k+f.width.toNat:Nat):Int):=by rw[zQa (by omega) (by omega)];omega
  rw[ew,zQa (n:=((zXT l k:Nat):Int)+1) (by omega) (by omega)]
  refine⟨bK,w5,e40,_,cl bq 2,_,cl bq 3,?_⟩
  rw[ew]
  have hpart:∀(r:Rec) (p:Int),zXC l p r.v->zJX zQu l r=d->∀v,r.v[k]?=some v->(d.drop (yQ0 l k)).take f.width.toNat=zQu f v:=λr p hR hrow v hv=>xZK hall hR hrow hf hv
  generalize hpt:(d.drop (yQ0 l k)).take f.width.toNat=part at *
  -- behind the value
  have next:∀{nk:Int} {v:Val} {b:Bool} {w':World},nk=(zXT l (k+1):Nat)->zZV v.kind/\zZV v.n->yQl w w2 w.heap.size w1.heap.size (((b0.toNat:Nat):Int) == 42) (vs ++ [v]) w'->
    (∀(r:Rec) (p:Int),zXC l p r.v->zJX zQu l r=d->u3=true->∀v',r.v[k]?=some v'->v=v'/\b=true)->J (((yQ0 l k+f.width.toNat:Nat):Int),nk,b,IntKind.i64.wrap ((k:Int)+1)) w':=λ{nk v b w'} q1 q2 q3 q4=>by
   rw[zQa (by omega) (by omega)]
   refine hJ _ _ aH ⟨by dsimp only;omega,by dsimp only;rw[xXB hall hf],q1,vs ++ [v],by simp[hvl],λx hx=>?_,q3,λr p hR hrow=>?_⟩
   ·rcases List.mem_append.1 hx with hx|hx
    ·exact tA x hx
    ·simp at hx;subst hx;exact q2
   ·obtain⟨h1,h2⟩:=hcond r p hR hrow
    obtain⟨v',hv'⟩:=zQL (l:=r.v) (k:=k) (by have:=hR.1;omega)
    obtain⟨h3,h4⟩:=q4 r p hR hrow h2 v' hv'
    exact⟨by rw[zQE hv',←h1,h3],h4⟩
  -- a value that is there
  have reg:∀{nk:Int},nk=(zXT l (k+1):Nat)->(∀(r:Rec) (p:Int),zXC l p r.v->zJX zQu l r=d->∀v',r.v[k]?=some v'->v'.kind ≠ 0)->
    yKK (λb w'=>J (((yQ0 l k+f.width.toNat:Nat):Int),nk,b,IntKind.i64.wrap ((k:Int)+1)) w') (some ⟨w1.heap.size,0,none⟩) u3 w4.heap.size bK w5:=λ{nk} hnk hkind=>by
   refine yWQ bq hfB h40 λwz aL hz iH=>?_
   have stz:=xH.on hz
   refine Br.of (λq1=>yYD stz (v:=zJm f.kind part) iH (by omega) λw' st'=>next hnk (yKe _ _) st' λr p hR hrow hu v' hv'=>?_) (λq1=>yYD stz (v:=zJm f.kind part) iH (by omega) λw' st'=>next hnk (yKe _ _) st' λr p hR hrow hu v' hv'=>?_)
   ·have:=yVY (hR.2 k f v' hf hv') (hkind r p hR hrow v' hv')
    rw[←hpart r p hR hrow v' hv']at this;exact this
   ·rw[q1]at hu;cases hu
  refine Br.of (λq1=>⟨rfl,by decide,?_⟩) (λq1=>reg (by rw[zVv hf,if_neg (by rw[q1];simp)]) λr p hR hrow v' hv' h0=>?_)
  ·have hm1:zXT l k+1<=(l.filter (·.null)).length:=by
    have h1:=zVv hf
    rw[if_pos q1]at h1
    have h2:=yKc l (k+1)
    omega
   have hq:zXT l k / 8<zXr l:=by unfold zXr;omega
   have e1:((zXT l k:Nat):Int).tdiv 8=((zXT l k / 8:Nat):Int):=zKR _ 8
   have e2:((zXT l k:Nat):Int).tmod 8=((zXT l k % 8:Nat):Int):=zWC _ 8
   rw[e1,e2,zQa (n:=((zXT l k / 8:Nat):Int)) (by omega) (by omega),zQa (n:=1+((zXT l k / 8:Nat):Int)) (by omega) (by omega)]
   obtain⟨bf,hbf⟩:=zQL (l:=d) (k:=1+zXT l k / 8) (by omega)
   obtain⟨af,haf,hcf⟩:=ht5.get _ _ hbf
   refine⟨af,haf,by omega,by omega,_,by rw[show(1+((zXT l k / 8:Nat):Int)).toNat=1+zXT l k / 8 by omega];exact hcf,rfl,by decide,by omega,?_⟩
   rw[zXf,bit_p _ bf.toNat_lt _ (Nat.mod_lt _ (by decide))]
   have enk:((zXT l k:Nat):Int)+1=((zXT l (k+1):Nat):Int):=by rw[zVv hf,if_pos q1];omega
   refine Br.of (λq2=>?_) (λq2=>reg enk λr p hR hrow v' hv' h0=>?_)
   ·obtain⟨q,h6,tt⟩:=xH.ex
    refine⟨q,cl h6 1,xWr (v:=noV) xH h6 tt rfl (by omega) λw' st'=>next enk ⟨⟨by decide,by decide⟩,⟨by decide,by decide⟩⟩ st' λr p hR hrow hu v' hv'=>⟨?_,hu⟩⟩
    have hbit:=yKt hR hrow hf hv' q1 hbf
    rw[q2]at hbit
    have h0:v'.kind=0:=by simpa using hbit.symm
    have hRv:=hR.2 k f v' hf hv'
    cases hRv with
    | nil hv hn=>exact hv.symm
    | truth hk hw hv hn=>rw[hv]at h0;exact absurd h0 (by simp)
    | num hk hw hv hn hl=>rw[hv]at h0;exact absurd h0 (by simp)
    | date hk hw hv hn=>rw[hv]at h0;exact absurd h0 (by simp)
    | text hk hw hv hl hb ht=>rw[hv]at h0;exact absurd h0 (by simp)
    | memo hk hw hv hn=>rw[hv]at h0;exact absurd h0 (by simp)
   ·have hbit:=yKt hR hrow hf hv' q1 hbf
    rw[q2,decide_eq_true h0]at hbit;cases hbit
  ·have hRv:=hR.2 k f v' hf hv'
   cases hRv with
   | nil hv hn=>rw[q1]at hn;cases hn
   | truth hk hw hv hn=>rw[hv]at h0;exact absurd h0 (by simp)
   | num hk hw hv hn hl=>rw[hv]at h0;exact absurd h0 (by simp)
   | date hk hw hv hn=>rw[hv]at h0;exact absurd h0 (by simp)
   | text hk hw hv hl hb ht=>rw[hv]at h0;exact absurd h0 (by simp)
   | memo hk hw hv hn=>rw[hv]at h0;exact absurd h0 (by simp)
 ·have aH:k=l.length:=by have:=zQe q;omega
  subst aH
  obtain⟨q,h6,hq⟩:=st.ex
  have hne:=st.ne
  refine⟨_,cl h6 0,q,cl h6 1,zQi st.b4 s46.symm rfl rfl λw5 bq cI kK=>⟨_,cl bq 0,q,cl bq 1,_,u3,vs,q,rfl,?_,hvl,tA,st.pu.andNew cI λi hi=>by omega,λr p hR hrow=>?_⟩⟩
  ·exact(hq.fr cI λi hi=>by have:=hq.2 i hi;omega).low (by omega)
  ·obtain⟨h1,h2⟩:=hcond r p hR hrow
   refine⟨?_,by rw[h1,List.take_of_length_le (by have:=hR.1;omega)],h2⟩
   rw[xZP hrow tM]
   cases r.gone <;> decide
end Go.Proofs.YtaeecpjhfmcliaaGreatDoor
/- Table: the reference's reading of a row's bytes. No condition. -/
set_option maxHeartbeats 2000000
namespace Go.Proofs.YtaeecpjhfmcliaaGreatDoor
open Go.Sh Go.RowKit Tryz
def w84(K:Int->Int->World->Prop)(l0:SV)(n8 n7:Int)(cj:World):Prop:=
 ∃a21:Addr,l0.a=some a21/\0<=n8/\n8<((l0.len:Nat):Int)/\
 ∃th:Int,cj.cell? ((a21.add (n8.toNat * 4)).add 2)=some (.int .i64 th)/\K th n7 cj
end Go.Proofs.YtaeecpjhfmcliaaGreatDoor
/- Table: rows of fields and of records that a call has made; a field's entry, read by both packages. No condition. -/
set_option maxHeartbeats 1000000
namespace Go.Proofs.YtaeecpjhfmcliaaGreatDoor
open Go.Sh Go.RowKit Tryz
theorem u32':prog.underlying 32=some (.slice 129):=by kernel_rfl
theorem info23:(prog.info? 129).map (λi=>(i.zero,i.size,i.bytes))=some (some (.agg #[.string ⟨#[]⟩,.int .i64 0,.int .i64 0,.bool false]),4,40):=by kernel_rfl
theorem u33:prog.underlying 33=some (.slice 67):=by kernel_rfl
theorem info46:(prog.info? 67).map (λi=>(i.zero,i.size,i.bytes))=some (some (.agg #[.bool false,.slice none 0 0]),2,32):=by kernel_rfl
theorem zZN(f:Fld):(zYg f).length=4:=rfl
def zKH(w0 w:World)(s:SV)(l:List Fld):Prop:=zQl w 129 4 s (l.flatMap zYg)/\∀b ∈ zQd s,w0.heap.size<=b
theorem zKH.len{w0 w:World}{s:SV}{l:List Fld}(h:zKH w0 w s l):s.len=l.length:=h.1.len zZN (by decide)
theorem zKH.pu{w0 w w':World}{s:SV}{l:List Fld}(h:zKH w0 w s l)(hp:Pu w w'):zKH w0 w' s l:=⟨h.1.pu hp,h.2⟩
theorem zKH.fr{B:Nat->Prop}{w0 w w':World}{s:SV}{l:List Fld}(h:zKH w0 w s l)(hf:Fr B w w')(hn:∀k ∈ zQd s,¬B k):zKH w0 w' s l:=⟨h.1.fr hf hn,h.2⟩
theorem zKH.nil(w0 w:World):zKH w0 w ⟨none,0,0⟩ []:=⟨zQl.nil w 129 4,by simp[zQd]⟩
theorem zKH.low{w0 w1 w:World}{s:SV}{l:List Fld}(h:zKH w1 w s l)(hz:w0.heap.size<=w1.heap.size):zKH w0 w s l:=⟨h.1,λb hb=>Nat.le_trans hz (h.2 b hb)⟩
theorem zKH.push {w0 w:World} {s:SV} {l:List Fld} (h:zKH w0 w s l) (hz:w0.heap.size<=w.heap.size) {r:Nat} {f:Fld} {c:Array Value} (hr:w.heap[r]?=some (.cells c 129)) (hc:c=#[.string f.name,.int .i64 f.kind,.int .i64 f.width,.bool f.null]) (hb:l.length<=1000000) :
  ∃(s':SV) (w':World),(Builtin.append_ #[32,32] 32 #[.slice s.a s.len s.cap,.slice (some ⟨r,0,none⟩) 1 1]).run prog w=.ok (.slice s'.a s'.len s'.cap) w'/\zKH w0 w' s' (l ++ [f])/\Fr (· ∈ zQd s) w w':=by
 subst hc
 have h1:=h.len
 obtain⟨s',w',hra,hrow,hf,hblk,_⟩:=zQz (P:=prog) (ty:=32) u32' info23 rfl (by decide) h.1 (A:=some ⟨r,0,none⟩) (m:=1) (c:=1) (news:=zYg f) rfl (λj u hu=>⟨_,rfl,by rw[cl hr];simpa using hu⟩) (λu hu=>by simp[zYg]at hu;rcases hu with rfl|rfl|rfl|rfl <;> rfl) (by omega)
 refine⟨s',w',hra,⟨by simpa using hrow,λb hb=>?_⟩,hf⟩
 rcases hblk b hb with h2|h2
 ·exact h.2 b h2
 ·omega
def F64(l:List Fld):Prop:=∀f ∈ l,zZV f.kind/\zZV f.width
def V64(l:List Val):Prop:=∀v ∈ l,zZV v.kind/\zZV v.n
theorem zKH.rd{w0 w:World}{s:SV}{l:List Fld}(h:zKH w0 w s l)(hb:l.length<=1000000)(pq:F64 l):zX7 w s l:=⟨h.len,h.1.le_cap.1,by have:=h.len;omega,λi f hf=>by
 obtain⟨a,h1,_,c0⟩:=h.1.elem zZN hf (o:=0) rfl
 obtain⟨a1,qj,_,c1⟩:=h.1.elem zZN hf (o:=1) rfl
 obtain⟨a2,h1'',_,c2⟩:=h.1.elem zZN hf (o:=2) rfl
 obtain⟨a3,h1''',_,c3⟩:=h.1.elem zZN hf (o:=3) rfl
 rw[h1]at qj h1'' h1''';cases qj;cases h1'';cases h1'''
 refine⟨a,h1,zYg f,⟨rfl,pq f (List.mem_of_getElem? hf)⟩,λj v hv=>?_⟩
 rcases j with _|_|_|_|j <;> simp[zYg]at hv
 ·subst hv;exact c0
 ·subst hv;exact c1
 ·subst hv;exact c2
 ·subst hv;exact c3⟩
theorem zKa.rdS{w0 w:World}{s:SV}{l:List Val}(h:zKa w0 w s l)(hb:l.length<=1000000)(pq:V64 l):zX7 w s l:=⟨h.len,h.1.le_cap.1,by have:=h.len;omega,λi f hf=>by
 obtain⟨a,h1,_,c0⟩:=h.1.elem zXB hf (o:=0) rfl
 obtain⟨a1,qj,_,c1⟩:=h.1.elem zXB hf (o:=1) rfl
 obtain⟨a2,h1'',_,c2⟩:=h.1.elem zXB hf (o:=2) rfl
 rw[h1]at qj h1'';cases qj;cases h1''
 refine⟨a,h1,zV6 f,⟨rfl,pq f (List.mem_of_getElem? hf)⟩,λj v hv=>?_⟩
 rcases j with _|_|_|j <;> simp[zV6]at hv
 ·subst hv;exact c0
 ·subst hv;exact c1
 ·subst hv;exact c2⟩
def yK8(x:Bool × SV):List Value:=[.bool x.1,.slice x.2.a x.2.len x.2.cap]
theorem zQS(x:Bool × SV):(yK8 x).length=2:=rfl
theorem zQn{w:World}{e e':TypeId}{sz sz':Nat}{s s':SV}{vs vs':List Value}(h:zQl w e sz s vs)(h':zQl w e' sz' s' vs')(hne:e ≠ e'):∀k ∈ zQd s,¬k ∈ zQd s':=λk hk hk'=>by
 obtain⟨_,rfl|⟨g,cur,h3,h4,_⟩⟩:=h
 ·simp[zQd]at hk
 obtain⟨_,rfl|⟨g',cur',h3',h4',_⟩⟩:=h'
 ·simp[zQd]at hk'
 simp[zQd,h3]at hk
 simp[zQd,h3']at hk'
 subst hk;subst hk'
 rw[h4]at h4'
 simp only[Option.some.injEq,Obj.cells.injEq]at h4'
 exact hne h4'.2.1
def zKj(w0 w:World)(s:SV)(rs:List Rec):Prop:=∃qs:List (Bool × SV),zQl w 67 2 s (qs.flatMap yK8)/\(∀b ∈ zQd s,w0.heap.size<=b)/\qs.length=rs.length/\∀(i:Nat) (r:Rec) (x:Bool × SV),rs[i]?=some r->qs[i]?=some x->x.1=r.gone/\zKa w0 w x.2 r.v
theorem zKj.len{w0 w:World}{s:SV}{rs:List Rec}(h:zKj w0 w s rs):s.len=rs.length:=by
 obtain⟨qs,h1,_,h3,_⟩:=h
 rw[h1.len zQS (by decide),h3]
theorem zKj.own{w0 w:World}{s:SV}{rs:List Rec}(h:zKj w0 w s rs):∀b ∈ zQd s,w0.heap.size<=b:=h.choose_spec.2.1
theorem zKj.pu{w0 w w':World}{s:SV}{rs:List Rec}(h:zKj w0 w s rs)(hp:Pu w w'):zKj w0 w' s rs:=by
 obtain⟨qs,h1,h2,h3,h4⟩:=h
 exact⟨qs,h1.pu hp,h2,h3,λi r x hr hx=>⟨(h4 i r x hr hx).1,(h4 i r x hr hx).2.pu hp⟩⟩
theorem zKj.one {w0 w w':World} {b:Nat} {s:SV} {rs:List Rec} (h:zKj w0 w s rs) (hf:Fr (·=b) w w') (hb:b<w0.heap.size):zKj w0 w' s rs:=by
 obtain⟨qs,h1,h2,h3,h4⟩:=h
 exact⟨qs,h1.fr hf λk hk e=>by have:=h2 k hk;omega,h2,h3,λi r x hr hx=>⟨(h4 i r x hr hx).1,(h4 i r x hr hx).2.fr hf λk hk e=>by have:=(h4 i r x hr hx).2.2 k hk;omega⟩⟩
theorem zKj.low{w0 w1 w:World}{s:SV}{rs:List Rec}(h:zKj w1 w s rs)(hz:w0.heap.size<=w1.heap.size):zKj w0 w s rs:=by
 obtain⟨qs,h1,h2,h3,h4⟩:=h
 exact⟨qs,h1,λb hb=>Nat.le_trans hz (h2 b hb),h3,λi r x hr hx=>⟨(h4 i r x hr hx).1,(h4 i r x hr hx).2.low hz⟩⟩
theorem zKj.nil(w0 w:World):zKj w0 w ⟨none,0,0⟩ []:=⟨[],zQl.nil w 67 2,by simp[zQd],rfl,λi r x hr=>by simp at hr⟩
theorem zKj.push {w0 w:World} {s q:SV} {rs:List Rec} {g:Bool} {vs:List Val} (h:zKj w0 w s rs) (hz:w0.heap.size<=w.heap.size) (hq:zKa w0 w q vs) {r:Nat} {c:Array Value} (hr:w.heap[r]?=some (.cells c 67)) (hc:c=#[.bool g,.slice q.a q.len q.cap]) (hb:rs.length<=1000000) :
  ∃(s':SV) (w':World),(Builtin.append_ #[33,33] 33 #[.slice s.a s.len s.cap,.slice (some ⟨r,0,none⟩) 1 1]).run prog w=.ok (.slice s'.a s'.len s'.cap) w'/\zKj w0 w' s' (rs ++ [⟨g,vs⟩])/\Fr (· ∈ zQd s) w w':=by
 subst hc
 have h1:=h.len
 obtain⟨qs,r1,r2,r3,r4⟩:=h
 obtain⟨s',w',hra,hrow,hf,hblk,_⟩:=zQz (P:=prog) (ty:=33) u33 info46 rfl (by decide) r1 (A:=some ⟨r,0,none⟩) (m:=1) (c:=1) (news:=yK8 (g,q)) rfl (λj u hu=>⟨_,rfl,by rw[cl hr];simpa[yK8] using hu⟩) (λu hu=>by simp[yK8]at hu;rcases hu with rfl|rfl <;> rfl) (by omega)
 refine⟨s',w',hra,⟨qs ++ [(g,q)],by simpa using hrow,λb hb=>?_,by simp[r3],λi rr x jx hx=>?_⟩,hf⟩
 ·rcases hblk b hb with h2|h2
  ·exact r2 b h2
  ·omega
 ·rcases Nat.lt_trichotomy i rs.length with hi|hi|hi
  ·rw[List.getElem?_append_left hi]at jx
   rw[List.getElem?_append_left (by omega)]at hx
   obtain⟨e1,e2⟩:=r4 i rr x jx hx
   exact⟨e1,e2.fr hf (zQn e2.1 r1 (by decide))⟩
  ·subst hi
   rw[List.getElem?_append_right (Nat.le_refl _),Nat.sub_self]at jx
   rw[←r3,List.getElem?_append_right (Nat.le_refl _),Nat.sub_self]at hx
   simp at jx hx;subst jx hx
   exact⟨rfl,hq.fr hf (zQn hq.1 r1 (by decide))⟩
  ·rw[List.getElem?_eq_none (by simp;omega)]at jx;cases jx
def R64(rs:List Rec):Prop:=∀r ∈ rs,V64 r.v/\r.v.length<=1000000
theorem zKj.rd{w0 w:World}{s:SV}{rs:List Rec}(h:zKj w0 w s rs)(hb:rs.length<=1000000)(pq:R64 rs):zX7 w s rs:=by
 have hl:=h.len
 obtain⟨qs,r1,r2,r3,r4⟩:=h
 refine⟨hl,r1.le_cap.1,by omega,λi r hr=>?_⟩
 obtain⟨x,hx⟩:=zQL (l:=qs) (k:=i) (by have:=(List.getElem?_eq_some_iff.1 hr).1;omega)
 obtain⟨e1,e2⟩:=r4 i r x hr hx
 obtain⟨a,h1,_,c0⟩:=r1.elem zQS hx (o:=0) rfl
 obtain⟨a1,qj,_,c1⟩:=r1.elem zQS hx (o:=1) rfl
 rw[h1]at qj;cases qj
 obtain⟨q1,q2⟩:=pq r (List.mem_of_getElem? hr)
 refine⟨a,h1,_,⟨x.2,rfl,e2.rdS q2 q1⟩,λj v hv=>?_⟩
 rcases j with _|_|j <;> simp at hv
 ·subst hv;rw[←e1];exact c0
 ·subst hv;exact c1
def yQk(l:List UInt8):List UInt8:=(l.reverse.dropWhile (· == 0)).reverse
theorem kQk(s:ByteArray)(hs:s.size<=140737488355328)(w:World):Calls prog 119 #[.string s,.string ⟨#[0]⟩] w λe w'=>e=.returned (.string (bs (yQk s.data.toList)))/\Pu w w':=
 (Any.strings_TrimRight_one Tryz.lays162 s 0 (by decide) w (by omega)).mono λe w' ⟨h1,h2⟩=>⟨h1,h2 ▸ Pu.refl _⟩
theorem zWn(l:List UInt8)(hl:∀b ∈ l,b ≠ 0)(j:Nat):yQk (l ++ List.replicate j 0)=l:=by
 unfold yQk
 rw[List.reverse_append,List.reverse_replicate]
 have e1:∀(j:Nat) (x:List UInt8),(List.replicate j 0 ++ x).dropWhile (· == 0)=x.dropWhile (· == 0):=by
  intro j x
  induction j with
  | zero=>rfl
  | succ j ih=>rw[List.replicate_succ,List.cons_append,List.dropWhile_cons];simp only[beq_self_eq_true,if_true];exact ih
 rw[e1]
 have e2:l.reverse.dropWhile (· == 0)=l.reverse:=by
  cases h:l.reverse with
  | nil=>rfl
  | cons a r=>
   have ha:a ∈ l:=by rw[←List.mem_reverse,h];simp
   rw[List.dropWhile_cons,if_neg (by simpa using hl a ha)]
 rw[e2,List.reverse_reverse]
theorem xJh(l:List UInt8):(yQk l).length<=l.length:=by
 unfold yQk
 have h:=List.IsSuffix.length_le (List.dropWhile_suffix (· == (0:UInt8)) (l:=l.reverse))
 simpa using h
theorem zV1{f:Fld}(h:zQp f=true):∀b ∈ f.name.data.toList,b ≠ 0:=λb hb=>by
 unfold zQp zZ1 at h
 simp only[Bool.and_eq_true]at h
 have h1:=List.all_eq_true.1 h.1.1.2 b hb
 intro e;subst e;revert h1;decide
theorem zW8{n:Int}(h:0<=n/\n<=255):(((zZE n).toNat:Nat):Int)=n:=by
 unfold zZE
 have:(UInt8.ofNat (n % 256).toNat).toNat=(n % 256).toNat:=by simp;omega
 rw[this];omega
theorem zWu{f:Fld}(hf:zQp f=true){d:List UInt8}(hd:zQM f=d):d.take 10=f.name.data.toList ++ List.replicate (10 - f.name.size) 0/\d[10]?=some (zVw f.kind)/\d[11]?=some (zZE f.width)/\d[12]?=some (yY7 f.null):=by
 obtain⟨_,oT,_⟩:=zXc hf
 have hl:(f.name.data.toList ++ List.replicate (10 - f.name.size) (0:UInt8)).length=10:=by rw[List.length_append,zQ4,List.length_replicate];omega
 subst hd
 unfold zQM
 refine⟨?_,?_,?_,?_⟩
 ·rw[List.take_append_of_le_length (by omega),List.take_of_length_le (by omega)]
 ·rw[List.getElem?_append_right (by omega),hl];rfl
 ·rw[List.getElem?_append_right (by omega),hl];rfl
 ·rw[List.getElem?_append_right (by omega),hl];rfl
theorem yJd{k:Int}{K:K5}(h:zXe k=some K):(k,K) ∈ zZs:=AL.get_mem h
theorem yXc:∀p ∈ zZs,∀q ∈ zZs,p.2.letter=q.2.letter->p.1=q.1:=by decide
theorem xY3:∀p ∈ zZs,zZV p.1:=λp hp=>by
 have:∀p ∈ zZs,0<=p.1/\p.1<=5:=by decide
 have:=this p hp
 exact⟨by omega,by omega⟩
def KindSo (b:UInt8) (kd:Int) (todo:List (Int × K5)):Prop:=(∀p ∈ zZs,p.2.letter=((b.toNat:Nat):Int)->p ∈ todo∨kd=p.1)/\(kd=0∨∃p ∈ zZs,p.2.letter=((b.toNat:Nat):Int)/\kd=p.1)
theorem yJQ{w:World}{t:SV}{d:List UInt8}(ht:ByV w t d)(hd:d.length=16):Calls prog 160 #[.slice t.a t.len t.cap] w λe w'=>∃f':Fld,e=.returned (yQn f')/\zZV f'.kind/\zZV f'.width/\f'.name.size<=10/\Pu w w'/\∀f,zQp f=true->zQM f=d->f'=f:=by
 have htl:=ht.len
 have htc:=ht.cap
 obtain⟨dO,oT⟩:=zQL (l:=d) (k:=10) (by omega)
 obtain⟨qt,rh⟩:=zQL (l:=d) (k:=11) (by omega)
 obtain⟨cN,nA⟩:=zQL (l:=d) (k:=12) (by omega)
 have jb:=dO.toNat_lt
 have dC:=qt.toNat_lt
 refine yWm _ w _ (alB λw1 aq aB=>zQb λw2 ar _=>?_)
 have aG:=aq.trans ar
 obtain⟨dR,ha11,hc11⟩:=(ht.pu aG).get _ _ rh
 obtain⟨kQ,ha12,hc12⟩:=(ht.pu aG).get _ _ nA
 have hsub:∀{wz},Pu w2 wz->(convert 22 9 (.slice (if t.cap=0 then t.a else t.a.map (λx=>x.add (0 * 1))) ((10:Int).toNat - 0) (t.cap - 0))).run prog wz=.ok (.string (bs (d.take 10))) wz:=λ{wz} hz=>by
  have h1:=(ht.pu (aG.trans hz)).sub (lo:=0) (hi:=10) (by omega) (by omega)
  rw[List.drop_zero]at h1
  exact zWr h1
 have hl10:(bs (d.take 10)).size=10:=by rw[zQB,List.length_take];omega
 have trim:∀wz,Calls prog 119 #[.string (bs (d.take 10)),.string (⟨#[0]⟩:ByteArray)] wz λe w'=>e=.returned (.string (bs (yQk (d.take 10))))/\Pu wz w':=λwz=>by
  have:=kQk (bs (d.take 10)) (by omega) wz
  rw[zQP]at this;exact this
 have hnm:(bs (yQk (d.take 10))).size<=10:=by
  have:=xJh (d.take 10)
  rw[List.length_take]at this
  rw[zQB];omega
 have r2lt:w.heap.size<w1.heap.size:=zQy aB
 have z2:=ar.size
 -- behind the variable's first values
 have main:∀{wz:World} {r3:Nat},Pu w2 wz->w2.heap.size<=r3->wz.heap[r3]?=some (.cells #[.string (bs (yQk (d.take 10))),.int .i64 0,.int .i64 (IntKind.i64.wrap ((qt.toNat:Nat):Int)),.bool (((cN.toNat:Nat):Int) == 1)] 129)->
   Calls prog 145 #[] wz λe dQ=>∃rL:Option Nat,e=.returned (.map rL)/\∃om:Option Addr,∃dx:World,(Instr.range 176 (.map rL)).run prog dQ=.ok (.pointer om) dx/\
    yZX (λe w'=>∃f':Fld,e=.returned (yQn f')/\zZV f'.kind/\zZV f'.width/\f'.name.size<=10/\Pu w w'/\∀f,zQp f=true->zQM f=d->f'=f) t (some (⟨w.heap.size,0,none⟩:Addr)) (some (⟨r3,0,none⟩:Addr)) om [] dx:=λ{wz r3} hz hr3 bp=>by
  rw[zQa (n:=((qt.toNat:Nat):Int)) (by omega) (by omega)]at bp
  refine(zVr wz).mono ?_
  rintro e w3 ⟨m,rfl,hm,hml,ax⟩
  obtain⟨w4,e4,hit4,aK,sP⟩:=hm.range (t:=176) xYA
  refine⟨some m,rfl,_,w4,e4,?_⟩
  have b3:=(ax.trans aK).blk bp
  have l3:r3<wz.heap.size:=zQy bp
  have z3:=ax.size
  have zz:=hz.size
  have p4:Pu w2 w4:=(hz.trans ax).trans aK
  refine xZM (σ:=Unit) zZs.length (λn _ w'=>∃(todo:List (Int × K5)) (kd:Int),todo.length=n/\(∀p ∈ todo,p ∈ zZs)/\zZg w' yWR zYu w3.heap.size m zZs todo/\KindSo dO kd todo/\w4.heap.size<=w'.heap.size/\Pu w2 w'/\
   w'.heap[r3]?=some (.cells #[.string (bs (yQk (d.take 10))),.int .i64 kd,.int .i64 ((qt.toNat:Nat):Int),.bool (((cN.toNat:Nat):Int) == 1)] 129)) ⟨zZs,0,rfl,λp hp=>hp,hit4,⟨λp hp _=>.inl hp,.inl rfl⟩,Nat.le_refl _,p4,b3⟩ ?_
  rintro n J _ w5 ⟨todo,kd,hn,hall,hit,⟨hk1,aH⟩,hz5,aT,bq⟩ hJ
  rcases hit.next (P:=prog) 0 with⟨hnil,hr⟩|⟨p,hpm,w6,hr,iL,sQ,hit6,hen⟩
  ·refine .inl ⟨w5,hr,?_⟩
   subst hnil
   refine⟨_,cl bq 0,_,cl bq 1,_,cl bq 2,_,cl bq 3,zQi (aT.blk (ar.blk aB)) s23.symm rfl rfl λw6 fT iL sQ=>⟨_,cl fT 0,_,cl fT 1,_,cl fT 2,_,cl fT 3,⟨bs (yQk (d.take 10)),kd,((qt.toNat:Nat):Int),((cN.toNat:Nat):Int) == 1⟩,rfl,?_,⟨by show _<=((qt.toNat:Nat):Int);omega,by show((qt.toNat:Nat):Int)<=_;omega⟩,hnm,(aG.trans aT).andNew iL λi hi=>by omega,λf hf hd2=>?_⟩⟩
   ·rcases aH with h|⟨p,hp,_,h⟩
    ·show zZV kd;rw[h];exact⟨by decide,by decide⟩
    ·show zZV kd;rw[h];exact xY3 p hp
   ·obtain⟨e1,e2,e3,e4'⟩:=zWu hf hd2
    obtain⟨_,_,K,hK,hKl⟩:=zXc hf
    rw[oT]at e2;rw[rh]at e3;rw[nA]at e4'
    have e2:=Option.some.inj e2
    have e3:=Option.some.inj e3
    have e4':=Option.some.inj e4'
    have hwf:=zXs hf
    rcases hk1 (f.kind,K) (yJd hK) (by rw[e2];exact hKl)with h|h
    ·cases h
    obtain⟨fn,fk,fw,fnl⟩:=f
    simp only at *
    congr 1
    ·rw[e1,zWn _ (zV1 hf),yJu]
    ·rw[e3];exact zW8 (by omega)
    ·rw[e4'];cases fnl <;> decide
  ·refine .inr ⟨_,_,w6,hr,_,_,w6,hen,?_⟩
   simp only[xYM,zYu,xYr,dHd_mk,xY1]
   have fT:=iL.blk bq (show ¬r3=w3.heap.size by omega)
   have bn:Pu w2 w6:=aT.andNew iL λi hi=>by omega
   refine yQv rfl s102.symm (kQl rfl rfl) λw7 ck hs7 jw=>zQb λw8 bU _=>?_
   have p8:=(bn.trans ck).trans bU
   obtain⟨eu,tB,tC⟩:=(ht.pu (aG.trans p8)).get _ _ oT
   have b8:=(ck.trans bU).blk fT
   have hit8:=hit6.fr (Fr.pu (ck.trans bU):Fr (λ_=>False) w6 w8) (λh=>h) (λh=>h)
   have hlen:=AL.length_del hpm hit.nodup
   have hperm:=AL.perm_del hpm hit.nodup
   have wV:∀q ∈ AL.del todo p.1,q ∈ zZs:=λq hq=>hall q (hperm.symm.subset (List.mem_cons_of_mem _ hq))
   have z6:=sQ
   have z78:=(ck.trans bU).size
   refine⟨_,cl0 (bU.blk jw),eu,tB,by omega,by omega,_,tC,Br.of (λq=>?_) (λq=>?_)⟩
   ·have hq:p.2.letter=((dO.toNat:Nat):Int):=zQH q
    show st1 ((⟨r3,0,none⟩:Addr).add 1) _ w8 _
    rw[zQr]
    refine zQt b8 (by simp) λw9 hw9 oM=>?_
    have pm:Fr (·=r3) w8 w9:=by rw[hw9];exact Fr.cell w8 _ _ _
    have z9:w9.heap.size=w8.heap.size:=by rw[hw9];simp
    refine hJ _ () w9 (by omega) ⟨AL.del todo p.1,p.1,rfl,wV,hit8.fr pm (by omega) (by omega),⟨λq' hq' hl'=>.inr (yXc p (hall p hpm) q' hq' (by rw[hq,hl'])),.inr ⟨p,hall p hpm,hq,rfl⟩⟩,by omega,p8.andNew pm λi hi=>by omega,oM⟩
   ·have hq:p.2.letter ≠ ((dO.toNat:Nat):Int):=zQm q
    refine hJ _ () w8 (by omega) ⟨AL.del todo p.1,kd,rfl,wV,hit8,⟨λq' hq' hl'=>?_,aH⟩,by omega,p8,b8⟩
    rcases hk1 q' hq' hl' with h|h
    ·rcases List.mem_cons.1 (hperm.subset h)with h|h
     ·subst h;exact absurd hl' hq
     ·exact .inl h
    ·exact .inr h
 refine⟨λu=>Pu w2 u,Pu.refl _,by omega,by omega,by omega,dR,ha11,by omega,by omega,_,λu hu=>hu.cell hc11,kQ,ha12,by omega,by omega,_,λu hu=>hu.cell hc12,⟨bs (d.take 10),w2,hsub (Pu.refl _),Pu.refl _,(trim w2).mono ?_,alB λw3 ax bp=>⟨ax,(trim w3).mono ?_⟩⟩,alB λw3 ax bp=>⟨ax,bs (d.take 10),w3,hsub ax,ax,(trim w3).mono ?_⟩⟩
 ·rintro e w3 ⟨rfl,ax⟩
  exact⟨_,rfl,ax,alB λw4 aK du=>⟨ax.trans aK,zQi du s23.symm rfl rfl λw5 bq cI kK=>main ((ax.trans aK).andNew cI λi hi=>by have:=ax.size;omega) (ax.size) bq⟩⟩
 ·rintro e w4 ⟨rfl,aK⟩
  exact⟨_,rfl,ax.trans aK,zQi (aK.blk bp) s23.symm rfl rfl λw5 bq cI kK=>main ((ax.trans aK).andNew cI λi hi=>by omega) (Nat.le_refl _) bq⟩
 ·rintro e w4 ⟨rfl,aK⟩
  exact⟨_,rfl,ax.trans aK,zQi (aK.blk bp) s23.symm rfl rfl λw5 bq cI kK=>main ((ax.trans aK).andNew cI λi hi=>by omega) (Nat.le_refl _) bq⟩
end Go.Proofs.YtaeecpjhfmcliaaGreatDoor
/- Table: parts of a table's bytes; a table that a call makes. No condition. -/
set_option maxHeartbeats 1000000
namespace Go.Proofs.YtaeecpjhfmcliaaGreatDoor
open Go.Sh Go.RowKit Tryz
theorem yJX{l:List Fld}(h:l.all zQp=true):(l.flatMap zQM).length=16 * l.length:=by
 induction l with
 | nil=>rfl
 | cons f l ih=>
  rw[List.flatMap_cons,List.length_append,zZ3 (zXc (List.all_eq_true.1 h f (by simp))).2.1,ih (List.all_eq_true.2 λg hg=>List.all_eq_true.1 h g (by simp[hg])),List.length_cons]
  omega
def zVu(u:Tbl):List UInt8:=[67,zZE u.page] ++ zVU u.recs.length 4 ++ zVU (13+16 * u.fields.length) 2 ++ zVU (zXM u.fields).toNat 2 ++ [zZE u.fields.length,0]
theorem zWE(u:Tbl):(zVu u).length=12:=by unfold zVu;simp[zXq]
theorem yZw(u:Tbl):zQj u=zVu u ++ (u.fields.flatMap zQM ++ ([13] ++ (u.recs.flatMap (zJX zQu u.fields) ++ [26]))):=by
 unfold zQj zJK zVu;simp only[List.append_assoc]
theorem zWA{u:Tbl}{d:List UInt8}(hd:zQj u=d):d[0]?=some 67/\d[1]?=some (zZE u.page)/\(d.drop 2).take 4=zVU u.recs.length 4/\d[10]?=some (zZE u.fields.length):=by
 have hl:=zXq u.recs.length 4
 have h2:=zXq (13+16 * u.fields.length) 2
 have h3:=zXq (zXM u.fields).toNat 2
 rw[←hd,yZw]
 refine⟨rfl,rfl,?_,?_⟩
 ·unfold zVu
  simp only[List.append_assoc,List.cons_append,List.nil_append,List.drop_succ_cons,List.drop_zero]
  rw[List.take_append_of_le_length (by omega),List.take_of_length_le (by omega)]
 ·rw[List.getElem?_append_left (by rw[zWE];omega)]
  unfold zVu
  rw[List.getElem?_append_right (by simp[zXq])]
  simp[zXq]
theorem zYG{u:Tbl}(ho:zJj u){d:List UInt8}(hd:zQj u=d):(d.length:Int)=13+16 * (u.fields.length:Int)+(u.recs.length:Int) * zXM u.fields+1:=by
 have h1:=zYf ho u.recs.length (Nat.le_refl _)
 rw[List.take_length]at h1
 have h2:=zWV ho
 rw[←hd]
 unfold zQj
 rw[List.length_append,List.length_append,List.length_singleton]
 omega
theorem yQb {u:Tbl} (ho:zJj u) {d:List UInt8} (hd:zQj u=d) {k:Nat} {f:Fld} (hf:u.fields[k]?=some f):(d.drop (12+16 * k)).take 16=zQM f:=by
 have hk:=(List.getElem?_eq_some_iff.1 hf).1
 have hall:(u.fields.take k).all zQp=true:=List.all_eq_true.2 λg hg=>List.all_eq_true.1 ho.all g (List.mem_of_mem_take hg)
 have h1:=yJX hall
 rw[List.length_take]at h1
 have i8:=zZ3 (zXc (List.all_eq_true.1 ho.all f (List.mem_of_getElem? hf))).2.1
 have e:u.fields.flatMap zQM=(u.fields.take k).flatMap zQM ++ (zQM f ++ (u.fields.drop (k+1)).flatMap zQM):=by
  rw[←List.flatMap_cons,←zXU hf,←List.flatMap_append,List.take_append_drop]
 have hl:(zVu u ++ (u.fields.take k).flatMap zQM).length=12+16 * k:=by rw[List.length_append,zWE,h1];omega
 rw[←hd,yZw,e,List.append_assoc,←List.append_assoc (zVu u),List.drop_append,List.drop_eq_nil_of_le (by omega),hl,Nat.sub_self,List.drop_zero,List.nil_append,List.append_assoc,List.take_append_of_le_length (by omega),List.take_of_length_le (by omega)]
theorem bytes_row {u:Tbl} (ho:zJj u) {d:List UInt8} (hd:zQj u=d) {k:Nat} {r:Rec} (hr:u.recs[k]?=some r):(d.drop (13+16 * u.fields.length+(zXM u.fields).toNat * k)).take (zXM u.fields).toNat=zJX zQu u.fields r:=by
 have hk:=(List.getElem?_eq_some_iff.1 hr).1
 have wQ:0<=zXM u.fields:=by have:=zJt (WOk.of ho.all);unfold zXM;omega
 have h1:=zYf ho k (by omega)
 have h2:=zWV ho
 have h3:=zKK ho.all (ho.recs r (List.mem_of_getElem? hr))
 have e:u.recs.flatMap (zJX zQu u.fields)=(u.recs.take k).flatMap (zJX zQu u.fields) ++ (zJX zQu u.fields r ++ (u.recs.drop (k+1)).flatMap (zJX zQu u.fields)):=by
  rw[←List.flatMap_cons,←zXU hr,←List.flatMap_append,List.take_append_drop]
 have hm:(((zXM u.fields).toNat * k:Nat):Int)=(k:Int) * zXM u.fields:=by
  rw[Int.natCast_mul,Int.toNat_of_nonneg wQ,Int.mul_comm]
 have hl:(zJK u ++ (u.recs.take k).flatMap (zJX zQu u.fields)).length=13+16 * u.fields.length+(zXM u.fields).toNat * k:=by rw[List.length_append,h2];omega
 rw[←hd]
 unfold zQj
 rw[e,←List.append_assoc (zJK u),List.append_assoc,List.drop_append,List.drop_eq_nil_of_le (by omega),hl,Nat.sub_self,List.drop_zero,List.nil_append,List.append_assoc,List.take_append_of_le_length (by omega),List.take_of_length_le (by omega)]
structure zJq(w0 w:World)(t:Tbl)(f q:SV):Prop where
 fs:zKH w0 w f t.fields
 rs:zKj w0 w q t.recs
theorem zJq.pu{w0 w w':World}{t:Tbl}{f q:SV}(h:zJq w0 w t f q)(hp:Pu w w'):zJq w0 w' t f q:=⟨h.fs.pu hp,h.rs.pu hp⟩
theorem zJq.low{w0 w1 w:World}{t:Tbl}{f q:SV}(h:zJq w1 w t f q)(hz:w0.heap.size<=w1.heap.size):zJq w0 w t f q:=⟨h.fs.low hz,h.rs.low hz⟩
theorem zJq.one {w0 w w':World} {b:Nat} {t:Tbl} {f q:SV} (h:zJq w0 w t f q) (hf:Fr (·=b) w w') (hb:b<w0.heap.size):zJq w0 w' t f q:=⟨h.fs.fr hf λk hk e=>by have:=h.fs.2 k hk;omega,h.rs.one hf hb⟩
structure yXO(t:Tbl):Prop where
 page:zZV t.page
 f64:F64 t.fields
 r64:R64 t.recs
 fl:t.fields.length<=255
 rl:t.recs.length<=300
 nm:∀f ∈ t.fields,f.name.size<=10
theorem zJq.rd{w0 w:World}{t:Tbl}{f q:SV}(h:zJq w0 w t f q)(hn:yXO t):zX2 w t f q:=⟨hn.page,h.fs.rd (by have:=hn.fl;omega) hn.f64,h.rs.rd (by have:=hn.rl;omega) hn.r64⟩
theorem yXO.lim{t:Tbl}(hn:yXO t):Lim.ok t.fields:=λf hf=>by
 have:=hn.nm f hf
 show f.name.size<=140737488355328
 omega
theorem yXO.zero:yXO ⟨0,[],[]⟩:=⟨⟨by decide,by decide⟩,λf hf=>by simp at hf,λr hr=>by simp at hr,by simp,by simp,λf hf=>by simp at hf⟩
theorem s35:zXA prog 35=3:=by kernel_rfl
structure zKX(w0 wr:World)(r2 r4:Nat)(t:Tbl)(w:World):Prop where
 ex:∃f q:SV,w.heap[r4]?=some (.cells #[.int .i64 t.page,.slice f.a f.len f.cap,.slice q.a q.len q.cap] 35)/\zJq wr w t f q
 b2:w.heap[r2]?=some (.cells #[.int .i64 0,.slice none 0 0,.slice none 0 0] 35)
 sz:wr.heap.size<=w.heap.size
 pu:Pu w0 w
 l2:r2<wr.heap.size
 l4:r4<wr.heap.size
 ne:r2 ≠ r4
 z2:w0.heap.size<=r2
 z4:w0.heap.size<=r4
theorem zKX.on{w0 wr w w':World}{r2 r4:Nat}{t:Tbl}(h:zKX w0 wr r2 r4 t w)(hp:Pu w w'):zKX w0 wr r2 r4 t w':=by
 obtain⟨f,q,h1,h2⟩:=h.ex
 exact⟨⟨f,q,hp.blk h1,h2.pu hp⟩,hp.blk h.b2,Nat.le_trans h.sz hp.size,h.pu.trans hp,h.l2,h.l4,h.ne,h.z2,h.z4⟩
theorem zKX.putF {w0 wr w:World} {r2 r4 r:Nat} {t:Tbl} (h:zKX w0 wr r2 r4 t w) {f q:SV} (h4:w.heap[r4]?=some (.cells #[.int .i64 t.page,.slice f.a f.len f.cap,.slice q.a q.len q.cap] 35)) (ho:zJq wr w t f q) {x:Fld} (hr:w.heap[r]?=some (.cells #[.string x.name,.int .i64 x.kind,.int .i64 x.width,.bool x.null] 129)) (hb:t.fields.length<=1000000) :
  ∃(f':SV) (w1:World),(Builtin.append_ #[32,32] 32 #[.slice f.a f.len f.cap,.slice (some ⟨r,0,none⟩) 1 1]).run prog w=.ok (.slice f'.a f'.len f'.cap) w1/\
   ∀K:World->Prop,(∀w',zKX w0 wr r2 r4 ⟨t.page,t.fields ++ [x],t.recs⟩ w'->K w')->st1 ((⟨r4,0,none⟩:Addr).add 1) (.slice f'.a f'.len f'.cap) w1 K:=by
 obtain⟨f',w1,e1,r1,f1⟩:=ho.fs.push h.sz hr rfl hb
 have n4:¬r4 ∈ zQd f:=λhc=>by have:=ho.fs.2 _ hc;have:=h.l4;omega
 have n2:¬r2 ∈ zQd f:=λhc=>by have:=ho.fs.2 _ hc;have:=h.l2;omega
 refine⟨f',w1,e1,λK hK=>?_⟩
 rw[zQr,Nat.zero_add]
 refine zQt (f1.blk h4 n4) (by simp) λwx ex hbx=>hK wx ?_
 have fx:Fr (·=r4) w1 wx:=by rw[ex];exact Fr.cell w1 _ _ _
 have zx:wx.heap.size=w1.heap.size:=by rw[ex];simp
 have z1:=f1.size
 have hne:=h.ne
 have hsz:=h.sz
 have hz4:=h.z4
 have hl4:=h.l4
 have rs1:zKj wr w1 q t.recs:=by
  obtain⟨qs,a1,a2,a3,a4⟩:=ho.rs
  exact⟨qs,a1.fr f1 (zQn a1 ho.fs.1 (by decide)),a2,a3,λi r' x' hr' hx'=>⟨(a4 i r' x' hr' hx').1,(a4 i r' x' hr' hx').2.fr f1 (zQn (a4 i r' x' hr' hx').2.1 ho.fs.1 (by decide))⟩⟩
 refine⟨⟨f',q,hbx,⟨r1.fr fx λi hi=>by have:=r1.2 i hi;omega,rs1.one fx hl4⟩⟩,fx.blk (f1.blk h.b2 n2) (by omega),by omega,?_,h.l2,h.l4,h.ne,h.z2,h.z4⟩
 have p1:Pu w0 w1:=h.pu.andNew f1 λi hi=>by have:=ho.fs.2 i hi;omega
 exact p1.andNew fx λi hi=>by omega
theorem zKX.putR {w0 wr w:World} {r2 r4 r:Nat} {t:Tbl} (h:zKX w0 wr r2 r4 t w) {f q qv:SV} (h4:w.heap[r4]?=some (.cells #[.int .i64 t.page,.slice f.a f.len f.cap,.slice q.a q.len q.cap] 35)) (ho:zJq wr w t f q) {g:Bool} {vs:List Val} (hv:zKa wr w qv vs) (hr:w.heap[r]?=some (.cells #[.bool g,.slice qv.a qv.len qv.cap] 67)) (hb:t.recs.length<=1000000) :
  ∃(q':SV) (w1:World),(Builtin.append_ #[33,33] 33 #[.slice q.a q.len q.cap,.slice (some ⟨r,0,none⟩) 1 1]).run prog w=.ok (.slice q'.a q'.len q'.cap) w1/\
   ∀K:World->Prop,(∀w',zKX w0 wr r2 r4 ⟨t.page,t.fields,t.recs ++ [⟨g,vs⟩]⟩ w'->K w')->st1 ((⟨r4,0,none⟩:Addr).add 2) (.slice q'.a q'.len q'.cap) w1 K:=by
 obtain⟨q',w1,e1,r1,f1⟩:=ho.rs.push h.sz hv hr rfl hb
 have n4:¬r4 ∈ zQd q:=λhc=>by have:=ho.rs.own _ hc;have:=h.l4;omega
 have n2:¬r2 ∈ zQd q:=λhc=>by have:=ho.rs.own _ hc;have:=h.l2;omega
 refine⟨q',w1,e1,λK hK=>?_⟩
 rw[zQr,Nat.zero_add]
 refine zQt (f1.blk h4 n4) (by simp) λwx ex hbx=>hK wx ?_
 have fx:Fr (·=r4) w1 wx:=by rw[ex];exact Fr.cell w1 _ _ _
 have zx:wx.heap.size=w1.heap.size:=by rw[ex];simp
 have z1:=f1.size
 have hne:=h.ne
 have hsz:=h.sz
 have hz4:=h.z4
 have hl4:=h.l4
 have own:=ho.rs.own
 have fs1:zKH wr w1 f t.fields:=by
  obtain⟨qs,a1,a2,a3,a4⟩:=ho.rs
  exact ho.fs.fr f1 (zQn ho.fs.1 a1 (by decide))
 refine⟨⟨f,q',hbx,⟨fs1.fr fx λi hi=>by have:=fs1.2 i hi;omega,r1.one fx hl4⟩⟩,fx.blk (f1.blk h.b2 n2) (by omega),by omega,?_,h.l2,h.l4,h.ne,h.z2,h.z4⟩
 have p1:Pu w0 w1:=h.pu.andNew f1 λi hi=>by have:=own i hi;omega
 exact p1.andNew fx λi hi=>by omega
end Go.Proofs.YtaeecpjhfmcliaaGreatDoor
/- Table: the program's reading of a table's bytes. No condition. -/
set_option maxHeartbeats 2000000
namespace Go.Proofs.YtaeecpjhfmcliaaGreatDoor
open Go.Sh Go.RowKit Tryz
def retT(R:Rt)(r2 r4:Nat)(ok:Bool)(w:World):Prop:=
 zQh (some (⟨r4,0,none⟩:Addr)) λa1=>
 ∃gN:Int,w.cell? (a1.add 0)=some (.int .i64 gN)/\
 ∃cb:SV,w.cell? (a1.add 1)=some (.slice cb.a cb.len cb.cap)/\
 ∃cc:SV,w.cell? (a1.add 2)=some (.slice cc.a cc.len cc.cap)/\
 zQh (some (⟨r2,0,none⟩:Addr)) λa2=>
 stA prog 35 a2 #[.int .i64 gN,.slice cb.a cb.len cb.cap,.slice cc.a cc.len cc.cap] w λw3=>
 zQh (some (⟨r2,0,none⟩:Addr)) λa5=>
 ∃ag:Int,w3.cell? (a5.add 0)=some (.int .i64 ag)/\
 ∃ab:SV,w3.cell? (a5.add 1)=some (.slice ab.a ab.len ab.cap)/\
 ∃ae:SV,w3.cell? (a5.add 2)=some (.slice ae.a ae.len ae.cap)/\
 R (.returned (.tuple #[.agg #[.int .i64 ag,.slice ab.a ab.len ab.cap,.slice ae.a ae.len ae.cap],.bool ok])) w3
theorem retT_c {R:Rt} {w0 wr w:World} {r2 r4:Nat} {t:Tbl} (h:zKX w0 wr r2 r4 t w) (ok:Bool) (hR:∀f q w',zJq wr w' t f q->Pu w0 w'->R (.returned (.tuple #[zVe t f q,.bool ok])) w'):retT R r2 r4 ok w:=by
 obtain⟨f,q,h4,ho⟩:=h.ex
 have hz:=h.z2
 exact⟨_,cl h4 0,f,cl h4 1,q,cl h4 2,zQi h.b2 s35.symm rfl rfl λw5 bq cI kK=>⟨_,cl bq 0,f,cl bq 1,q,cl bq 2,hR f q w5 (ho.one cI h.l2) (h.pu.andNew cI λi hi=>by omega)⟩⟩
def yXZ(d:List UInt8)(t:Tbl)(ok:Bool):Prop:=∀u,zQg u=0->zQj u=d->t=u/\ok=true
theorem yJM{w:World}{s:SV}{d:List UInt8}(hb:ByV w s d)(hd:d.length<=1000000000):Calls prog 124 #[.slice s.a s.len s.cap] w λe w'=>∃(t:Tbl) (f q:SV) (ok:Bool),e=.returned (.tuple #[zVe t f q,.bool ok])/\zJq w w' t f q/\yXO t/\Pu w w'/\yXZ d t ok:=by
 have hsl:=hb.len
 have hsc:=hb.cap
 refine yWk _ w _ (alB λw1 aq aB=>alB λw2 ar aM=>?_)
 have aG:=aq.trans ar
 have nG:w.heap.size<w1.heap.size:=zQy aB
 have lt2:w1.heap.size<w2.heap.size:=zQy aM
 have cN:=ar.blk aB
 have yp:zKX w w2 w.heap.size w1.heap.size ⟨0,[],[]⟩ w2:=⟨⟨⟨none,0,0⟩,⟨none,0,0⟩,aM,⟨zKH.nil w2 w2,zKj.nil w2 w2⟩⟩,cN,Nat.le_refl _,aG,by omega,lt2,by omega,Nat.le_refl _,by omega⟩
 have ret:∀{t:Tbl} {w':World} (ok:Bool),zKX w w2 w.heap.size w1.heap.size t w'->yXO t->yXZ d t ok->retT (λe w'=>∃(t:Tbl) (f q:SV) (ok:Bool),e=.returned (.tuple #[zVe t f q,.bool ok])/\zJq w w' t f q/\yXO t/\Pu w w'/\yXZ d t ok) w.heap.size w1.heap.size ok w':=λ{t w'} ok st hn hc=>
  retT_c st ok λf q w'' ho hp=>⟨t,f,q,ok,rfl,ho.low aG.size,hn,hp,hc⟩
 have no:∀{t:Tbl} {ok:Bool},(∀u,zQg u=0->zQj u=d->False)->yXZ d t ok:=λh u hv hu=>(h u hv hu).elim
 have hlong:∀u,zQg u=0->zQj u=d->14<=d.length:=λu hv hu=>by
  have ho:=zJj.of hv
  have h1:=zYG ho hu
  have hf:0<u.fields.length:=List.length_pos_iff.2 ho.ne
  have wQ:0<=zXM u.fields:=by have:=zJt (WOk.of ho.all);unfold zXM;omega
  have h2:0<=(u.recs.length:Int) * zXM u.fields:=Int.mul_nonneg (by omega) wQ
  omega
 refine Br.of (λq=>ret false yp yXO.zero (no λu hv hu=>by have:=hlong u hv hu;have:=zQk q;omega)) (λq=>?_)
 have h14:14<=d.length:=by have:=zQe q;omega
 clear q
 obtain⟨b0,e0⟩:=zQL (l:=d) (k:=0) (by omega)
 obtain⟨b1,e1⟩:=zQL (l:=d) (k:=1) (by omega)
 obtain⟨dO,e10⟩:=zQL (l:=d) (k:=10) (by omega)
 have lk:=hb.pu aG
 obtain⟨a0,yq,hc0⟩:=lk.get _ _ e0
 obtain⟨a1,yr,hc1⟩:=lk.get _ _ e1
 refine⟨a0,yq,by omega,by omega,_,hc0,Br.of (λq=>ret false yp yXO.zero (no λu hv hu=>?_)) (λq=>⟨a1,yr,by omega,by omega,_,hc1,?_⟩)⟩
 ·have h1:=(zWA hu).1
  rw[e0]at h1
  have h1:=Option.some.inj h1
  rw[h1]at q;exact zQ3 q rfl
 have n1:=b1.toNat_lt
 have jb:=dO.toNat_lt
 rw[zQa (n:=((b1.toNat:Nat):Int)) (by omega) (by omega)]
 refine zQt aM (by decide) λw3 tw bp=>zQb λw4 aK _=>?_
 have fr3:Fr (·=w1.heap.size) w2 w3:=by rw[tw];exact Fr.cell w2 _ _ _
 have z3:w3.heap.size=w2.heap.size:=by rw[tw];simp
 have st4:zKX w w2 w.heap.size w1.heap.size ⟨((b1.toNat:Nat):Int),[],[]⟩ w4:=(⟨⟨⟨none,0,0⟩,⟨none,0,0⟩,bp,⟨zKH.nil w2 w3,zKj.nil w2 w3⟩⟩,fr3.blk cN (by omega),by omega,aG.andNew fr3 λi hi=>by omega,by omega,lt2,by omega,Nat.le_refl _,by omega⟩:zKX w w2 w.heap.size w1.heap.size ⟨((b1.toNat:Nat):Int),[],[]⟩ w3).on aK
 obtain⟨eu,tB,tC⟩:=(hb.pu st4.pu).get _ _ e10
 refine⟨λu=>Pu w4 u,Pu.refl _,eu,tB,by omega,by omega,_,λu hu=>hu.cell tC,eu,tB,by omega,by omega,_,λu hu=>hu.cell tC,?_⟩
 rw[zQa (n:=((dO.toNat:Nat):Int)) (by omega) (by omega)]
 refine(yZQ dO.toNat (by omega) w4).mono ?_
 rintro e w5 ⟨rfl,aT⟩
 have xH:=st4.on aT
 have pg:zZV ((b1.toNat:Nat):Int):=⟨by omega,by omega⟩
 have nice0:yXO ⟨((b1.toNat:Nat):Int),[],[]⟩:=⟨pg,λf hf=>by simp at hf,λr hr=>by simp at hr,by simp,by simp,λf hf=>by simp at hf⟩
 -- what a right table's bytes tell
 have pgu:∀u,zQg u=0->zQj u=d->u.page=((b1.toNat:Nat):Int)/\u.fields.length=dO.toNat:=λu hv hu=>by
  have ho:=zJj.of hv
  obtain⟨_,h1,_,h2⟩:=zWA hu
  rw[e1]at h1;rw[e10]at h2
  have h1:=Option.some.inj h1
  have h2:=Option.some.inj h2
  have hpg:=ho.page
  unfold zQY at hpg
  simp only[Bool.and_eq_true,decide_eq_true_eq]at hpg
  have i8:=ho.n16
  have e1:=zW8 (n:=u.page) (by omega)
  have e2:=zW8 (n:=((u.fields.length:Nat):Int)) (by omega)
  rw[h1,h2];omega
 refine⟨_,rfl,aT,Br.of (λq=>ret false xH nice0 (no λu hv hu=>?_)) (λq=>?_)⟩
 ·have h1:=zYG (zJj.of hv) hu
  have h2:=(pgu u hv hu).2
  have wQ:0<=zXM u.fields:=by have:=zJt (WOk.of (zJj.of hv).all);unfold zXM;omega
  have h3:0<=(u.recs.length:Int) * zXM u.fields:=Int.mul_nonneg (by omega) wQ
  have:=zQk q
  omega
 have hbeg:13+16 * dO.toNat<=d.length:=by have:=zQe q;omega
 clear q
 refine zQx dO.toNat (λk t w'=>t=(k:Int)/\∃fs:List Fld,fs.length=k/\F64 fs/\(∀f ∈ fs,f.name.size<=10)/\zKX w w2 w.heap.size w1.heap.size ⟨((b1.toNat:Nat):Int),fs,[]⟩ w'/\∀u,zQg u=0->zQj u=d->fs=u.fields.take k) ⟨rfl,[],rfl,λf hf=>by simp at hf,λf hf=>by simp at hf,xH,λu _ _=>by simp⟩ ?_
 rintro k J t w6 hk ⟨ht,fs,hfl,xI,hfn,st,hcond⟩ hJ
 obtain rfl:t=(k:Int):=ht
 refine Br.of (λq=>zQb λw7 ck _=>?_) (λq=>?_)
 ·have aH:k<dO.toNat:=by have:=zQk q;omega
  have yt:=st.on ck
  obtain⟨f,qr,h4,ho⟩:=yt.ex
  obtain⟨pb,e58,h58⟩:=(hb.pu yt.pu).part3 (lo:=12+16 * k) (hi:=28+16 * k) (by omega) (by omega)
  rw[show 28+16 * k - (12+16 * k)=16 by omega]at h58
  refine⟨λu=>Pu w7 u,Pu.refl _,f,λu hu=>cl (hu.blk h4) 1,?_⟩
  rw[zQa (n:=16 * (k:Int)) (by omega) (by omega),zQa (n:=12+16 * (k:Int)) (by omega) (by omega),zQa (n:=28+16 * (k:Int)) (by omega) (by omega),show 12+16 * (k:Int)=((12+16 * k:Nat):Int)by omega,show 28+16 * (k:Int)=((28+16 * k:Nat):Int)by omega]
  refine⟨pb,w7,e58,Pu.refl _,(yJQ h58 (by rw[List.length_take,List.length_drop];omega)).mono ?_⟩
  rintro e w8 ⟨x,rfl,x1,x2,x3,bU,hx⟩
  refine⟨_,_,_,_,rfl,bU,alB λw9 cG oM=>⟨bU.trans cG,?_⟩⟩
  have st9:=(yt.on bU).on cG
  obtain⟨f',aN,e10',hK⟩:=st9.putF ((bU.trans cG).blk h4) (ho.pu (bU.trans cG)) oM (by show fs.length<=_;omega)
  refine⟨f',aN,e10',hK _ λaV tD=>?_⟩
  rw[zQa (by omega) (by omega)]
  refine hJ _ _ aH ⟨by omega,fs ++ [x],by simp[hfl],λy hy=>?_,λy hy=>?_,tD,λu hv hu=>?_⟩
  ·rcases List.mem_append.1 hy with hy|hy
   ·exact xI y hy
   ·simp at hy;subst hy;exact⟨x1,x2⟩
  ·rcases List.mem_append.1 hy with hy|hy
   ·exact hfn y hy
   ·simp at hy;subst hy;exact x3
  ·obtain⟨g,hg⟩:=zQL (l:=u.fields) (k:=k) (by have:=(pgu u hv hu).2;omega)
   rw[zQE hg,←hcond u hv hu]
   have wT:=zJj.of hv
   rw[hx g (List.all_eq_true.1 wT.all g (List.mem_of_getElem? hg)) (yQb wT hu hg).symm]
 have aH:k=dO.toNat:=by have:=zQe q;omega
 subst aH
 clear hJ J q
 have hfs:∀u,zQg u=0->zQj u=d->fs=u.fields:=λu hv hu=>by
  rw[hcond u hv hu,List.take_of_length_le (by have:=(pgu u hv hu).2;omega)]
 have m4:yXO ⟨((b1.toNat:Nat):Int),fs,[]⟩:=⟨pg,xI,λr hr=>by simp at hr,by show fs.length<=_;omega,by simp,hfn⟩
 obtain⟨f,qr,h4,ho⟩:=st.ex
 refine⟨f,cl h4 1,(zZO (ho.rd m4).fields m4.lim).mono ?_⟩
 rintro e w7 ⟨rfl,ck⟩
 have yt:=st.on ck
 refine⟨_,rfl,Br.of (λq=>ret false yt m4 (no λu hv hu=>?_)) (λq=>zQb λw8 bU _=>?_)⟩
 ·have:=(zJj.of hv).vf
  rw[←hfs u hv hu]at this
  exact zQ3 q this
 have hvf:zQW fs=0:=zQs q
 clear q
 obtain⟨_,hall,_,i8,nu⟩:=zXn hvf
 have hwok:=WOk.of hall
 have hwide:1<=zXM fs:=by have:=zJt hwok;unfold zXM;omega
 have st8:=yt.on bU
 have h48:=(ck.trans bU).blk h4
 have ho8:=ho.pu (ck.trans bU)
 refine⟨f,cl h48 1,by omega,by show 6<=_;omega,by omega,by decide,(zYh (ho8.rd m4).fields hwok).mono ?_⟩
 rintro e w9 ⟨rfl,cG⟩
 have hnum:=(hb.pu (st8.pu.trans cG)).sub (lo:=2) (hi:=6) (by omega) (by omega)
 have hd4:((d.drop 2).take (6 - 2)).length=4:=by rw[List.length_take,List.length_drop];omega
 refine⟨_,rfl,(xZU hnum hd4).mono ?_⟩
 rintro e aN ⟨rfl,dM⟩
 have xJ:=(st8.on cG).on dM
 obtain⟨cnt,hcnt⟩:∃cnt,cnt=xX4 ((d.drop 2).take (6 - 2)):=⟨_,rfl⟩
 rw[←hcnt]
 have hrl:∀u,zQg u=0->zQj u=d->u.recs.length=cnt:=λu hv hu=>by
  have h1:=(zWA hu).2.2.1
  have h2:=(zJj.of hv).m300
  rw[hcnt,show 6 - 2=4 from rfl,h1,xZA (by omega)]
 refine⟨_,rfl,Br.of (λq=>ret false xJ m4 (no λu hv hu=>by have:=hrl u hv hu;have:=(zJj.of hv).m300;have:=zQk q;omega)) (λq=>?_)⟩
 have hc300:cnt<=300:=by have:=zQe q;omega
 clear q
 obtain⟨W,hW⟩:∃W:Nat,zXM fs=(W:Int):=⟨(zXM fs).toNat,by omega⟩
 have hWl:W<=2000:=by omega
 have hWc:W * cnt<=600000:=Nat.mul_le_mul hWl hc300
 have eWc:(W:Int) * (cnt:Int)=((W * cnt:Nat):Int):=by omega
 rw[hW,eWc,zQa (n:=((W * cnt:Nat):Int)) (by omega) (by omega),zQa (n:=((13+16 * dO.toNat:Nat):Int)+((W * cnt:Nat):Int)) (by omega) (by omega),zQa (n:=((13+16 * dO.toNat:Nat):Int)+((W * cnt:Nat):Int)+1) (by omega) (by omega)]
 refine Br.of (λq=>ret false xJ m4 (no λu hv hu=>?_)) (λq=>?_)
 ·have h1:=zYG (zJj.of hv) hu
  have h2:=(pgu u hv hu).2
  rw[←hfs u hv hu,hW,hrl u hv hu]at h1
  rw[←hfs u hv hu]at h2
  have h3:(cnt:Int) * (W:Int)=((W * cnt:Nat):Int):=by rw[Int.mul_comm];exact eWc
  have:=zQ3 q
  omega
 have hdl:d.length=13+16 * dO.toNat+W * cnt+1:=by have:=zQs q;omega
 clear q
 refine zQx cnt (λk t w'=>t=(k:Int)/\∃rs:List Rec,rs.length=k/\R64 rs/\zKX w w2 w.heap.size w1.heap.size ⟨((b1.toNat:Nat):Int),fs,rs⟩ w'/\∀u,zQg u=0->zQj u=d->rs=u.recs.take k) ⟨rfl,[],rfl,λr hr=>by simp at hr,xJ,λu _ _=>by simp⟩ ?_
 rintro k J t aV hk ⟨ht,rs,hrn,hr64,tD,hrc⟩ hJ
 obtain rfl:t=(k:Int):=ht
 have qk:yXO ⟨((b1.toNat:Nat):Int),fs,rs⟩:=⟨pg,xI,hr64,by show fs.length<=_;omega,by show rs.length<=_;omega,hfn⟩
 refine Br.of (λq=>zQb λaO dL _=>?_) (λq=>?_)
 ·have aH:k<cnt:=by have:=zQk q;omega
  have tE:=tD.on dL
  obtain⟨f,qr,h4,ho⟩:=tE.ex
  have hWk:W * k+W<=W * cnt:=by rw[←Nat.mul_succ];exact Nat.mul_le_mul_left W aH
  have eWk:(W:Int) * (k:Int)=((W * k:Nat):Int):=by omega
  have eWk1:(W:Int) * ((k:Int)+1)=((W * k+W:Nat):Int):=by rw[Int.mul_add,eWk];omega
  refine⟨λu=>Pu aO u,Pu.refl _,f,λu hu=>cl (hu.blk h4) 1,?_⟩
  rw[zQa (n:=(k:Int)+1) (by omega) (by omega),eWk,eWk1,zQa (n:=((W * k:Nat):Int)) (by omega) (by omega),zQa (n:=((W * k+W:Nat):Int)) (by omega) (by omega),zQa (n:=((13+16 * dO.toNat:Nat):Int)+((W * k:Nat):Int)) (by omega) (by omega),zQa (n:=((13+16 * dO.toNat:Nat):Int)+((W * k+W:Nat):Int)) (by omega) (by omega)]
  have elo:(((13+16 * dO.toNat:Nat):Int)+((W * k:Nat):Int)).toNat=13+16 * dO.toNat+W * k:=by omega
  have ehi:(((13+16 * dO.toNat:Nat):Int)+((W * k+W:Nat):Int)).toNat=13+16 * dO.toNat+W * k+W:=by omega
  rw[elo,ehi]
  have hpart:∀{wz},Pu aO wz->ByV wz ⟨if s.cap=13+16 * dO.toNat+W * k then s.a else s.a.map (λx=>x.add ((13+16 * dO.toNat+W * k) * 1)),13+16 * dO.toNat+W * k+W - (13+16 * dO.toNat+W * k),s.cap - (13+16 * dO.toNat+W * k)⟩ ((d.drop (13+16 * dO.toNat+W * k)).take W):=λ{wz} hz=>by
   have:=(hb.pu (tE.pu.trans hz)).sub (lo:=13+16 * dO.toNat+W * k) (hi:=13+16 * dO.toNat+W * k+W) (by omega) (by omega)
   rw[show(d.drop (13+16 * dO.toNat+W * k)).take (13+16 * dO.toNat+W * k+W - (13+16 * dO.toNat+W * k))=(d.drop (13+16 * dO.toNat+W * k)).take W by rw[Nat.add_sub_cancel_left]]at this
   exact this
  have hplen:(((d.drop (13+16 * dO.toNat+W * k)).take W).length:Int)=zXM fs:=by rw[List.length_take,List.length_drop,hW];omega
  have hrowu:∀u,zQg u=0->zQj u=d->∀r,u.recs[k]?=some r->zXC fs u.page r.v/\zJX zQu fs r=(d.drop (13+16 * dO.toNat+W * k)).take W:=λu hv hu r hr=>by
   have wT:=zJj.of hv
   have h1:=bytes_row wT hu hr
   have h2:=(pgu u hv hu).2
   have h3:=hfs u hv hu
   rw[h2,←h3,hW,zXf]at h1
   exact⟨by rw[h3];exact wT.recs r (List.mem_of_getElem? hr),h1.symm⟩
  -- behind the row
  have tail:∀{wz:World} {co:Nat} {g ok:Bool} {vs:List Val} {qv:SV},Pu aO wz->zKa aO wz qv vs->vs.length=fs.length->V64 vs->(∀(r:Rec) (p:Int),zXC fs p r.v->zJX zQu fs r=(d.drop (13+16 * dO.toNat+W * k)).take W->g=r.gone/\vs=r.v/\ok=true)->wz.heap[co]?=some (.cells #[.bool g,.slice qv.a qv.len qv.cap] 67)->
    Br (!ok) (retT (λe w'=>∃(t:Tbl) (f q:SV) (ok:Bool),e=.returned (.tuple #[zVe t f q,.bool ok])/\zJq w w' t f q/\yXO t/\Pu w w'/\yXZ d t ok) w.heap.size w1.heap.size false wz) (
     zQh (some (⟨w1.heap.size,0,none⟩:Addr)) λiJ=>∃fE:SV,wz.cell? (iJ.add 2)=some (.slice fE.a fE.len fE.cap)/\
     ∃gP:Bool,wz.cell? ((⟨co,0,none⟩:Addr).add 0)=some (.bool gP)/\∃bo:SV,wz.cell? ((⟨co,0,none⟩:Addr).add 1)=some (.slice bo.a bo.len bo.cap)/\
     alE (.cells #[.bool gP,.slice bo.a bo.len bo.cap] 67) wz λrJ bJ=>∃fF:SV,∃bR:World,(Builtin.append_ #[33,33] 33 #[.slice fE.a fE.len fE.cap,.slice (some ⟨rJ,0,none⟩) 1 1]).run prog bJ=.ok (.slice fF.a fF.len fF.cap) bR/\
     zQh (some (⟨w1.heap.size,0,none⟩:Addr)) λke=>st1 (ke.add 2) (.slice fF.a fF.len fF.cap) bR λcj=>J ((k:Int)+1) cj):=λ{wz co g ok vs qv} hz hv hvl tA hcv iu=>by
   have stz:=tE.on hz
   refine Br.of (λq1=>ret false stz qk (no λu hv hu=>?_)) (λq1=>?_)
   ·obtain⟨r,hr⟩:=zQL (l:=u.recs) (k:=k) (by have:=hrl u hv hu;omega)
    obtain⟨h1,h2⟩:=hrowu u hv hu r hr
    rw[(hcv r u.page h1 h2).2.2]at q1;cases q1
   ·refine⟨qr,cl (hz.blk h4) 2,g,cl iu 0,qv,cl iu 1,alB λaI bl oO=>?_⟩
    obtain⟨q',bt,e14,hK⟩:=(stz.on bl).putR ((hz.trans bl).blk h4) (ho.pu (hz.trans bl)) ((hv.pu bl).low tE.sz) oO (by show rs.length<=_;omega)
    refine⟨q',bt,e14,hK _ λbr st15=>hJ _ _ aH ⟨by omega,rs ++ [⟨g,vs⟩],by simp[hrn],λy hy=>?_,st15,λu hv hu=>?_⟩⟩
    ·rcases List.mem_append.1 hy with hy|hy
     ·exact hr64 y hy
     ·simp at hy;subst hy;exact⟨tA,by show vs.length<=_;omega⟩
    ·obtain⟨r,hr⟩:=zQL (l:=u.recs) (k:=k) (by have:=hrl u hv hu;omega)
     obtain⟨h1,h2⟩:=hrowu u hv hu r hr
     obtain⟨c1,c2,_⟩:=hcv r u.page h1 h2
     rw[zQE hr,←hrc u hv hu,c1,c2]
  refine⟨by omega,by omega,by omega,by omega,(yZO (ho.rd qk).fields hall i8 (hpart (Pu.refl _)) hplen).mono ?_,alB λaI bl oO=>⟨bl,(yZO ((ho.pu bl).rd qk).fields hall i8 (hpart bl) hplen).mono ?_⟩⟩
  ·rintro e aI ⟨g,ok,vs,qv,rfl,v1,v2,v3,bl,v4⟩
   exact⟨g,qv,ok,rfl,yQv rfl s46.symm rfl λbt oP hs14 iH=>tail (bl.trans oP) (v1.pu oP) v2 v3 v4 iH⟩
  ·rintro e bt ⟨g,ok,vs,qv,rfl,v1,v2,v3,oP,v4⟩
   have lt13:aO.heap.size<aI.heap.size:=zQy oO
   refine⟨g,qv,ok,rfl,zQi (oP.blk oO) s46.symm rfl rfl λbr hb15 hf15 hs15=>tail ((bl.trans oP).andNew hf15 λi hi=>by omega) ((v1.fr hf15 λi hi e=>by have:=v1.2 i hi;omega).low bl.size) v2 v3 v4 hb15⟩
 ·have aH:k=cnt:=by have:=zQe q;omega
  subst aH
  refine ret true tD qk λu hv hu=>⟨?_,rfl⟩
  have h1:=hrc u hv hu
  rw[List.take_of_length_le (by have:=hrl u hv hu;omega)]at h1
  rw[h1,hfs u hv hu,←(pgu u hv hu).1]
end Go.Proofs.YtaeecpjhfmcliaaGreatDoor
/- Table: both packages' reading of a table's bytes. No condition. -/
set_option maxHeartbeats 2000000
namespace Go.Proofs.YtaeecpjhfmcliaaGreatDoor
open Go.Sh Go.RowKit Tryz
def zYR(d:List UInt8)(t:Tbl)(c:Int):Prop:=(c=0/\zQg t=0/\zQj t=d/\∀u,zQg u=0->zQj u=d->t=u)∨(c=11/\t=⟨0,[],[]⟩/\∀u,zQg u=0->zQj u ≠ d)
def xYB(w:World)(d:List UInt8):Rt:=λe w'=>∃(t:Tbl) (f q:SV) (c:Int),e=.returned (.tuple #[zVe t f q,.int .i64 c])/\zJq w w' t f q/\yXO t/\Pu w w'/\zYR d t c
def zeroT(R:Rt)(r2:Nat)(w:World):Prop:=
 stA prog 35 (⟨r2,0,none⟩:Addr) #[.int .i64 0,.slice none 0 0,.slice none 0 0] w λw5=>
 ∃ag:Int,w5.cell? ((⟨r2,0,none⟩:Addr).add 0)=some (.int .i64 ag)/\
 ∃ab:SV,w5.cell? ((⟨r2,0,none⟩:Addr).add 1)=some (.slice ab.a ab.len ab.cap)/\
 ∃ae:SV,w5.cell? ((⟨r2,0,none⟩:Addr).add 2)=some (.slice ae.a ae.len ae.cap)/\
 R (.returned (.tuple #[.agg #[.int .i64 ag,.slice ab.a ab.len ab.cap,.slice ae.a ae.len ae.cap],.int .i64 11])) w5
theorem yJv {w0 w:World} {d:List UInt8} {r2:Nat} (hb:w.heap[r2]?=some (.cells #[.int .i64 0,.slice none 0 0,.slice none 0 0] 35)) (hp:Pu w0 w) (hr:w0.heap.size<=r2) (hno:∀u,zQg u=0->zQj u ≠ d):zeroT (xYB w0 d) r2 w:=
 zQi hb s35.symm rfl rfl λw5 bq cI kK=>⟨_,cl bq 0,⟨none,0,0⟩,cl bq 1,⟨none,0,0⟩,cl bq 2,⟨0,[],[]⟩,⟨none,0,0⟩,⟨none,0,0⟩,11,rfl,⟨zKH.nil w0 w5,zKj.nil w0 w5⟩,yXO.zero,hp.andNew cI λi hi=>by omega,.inr ⟨rfl,rfl,hno⟩⟩
def copyT(R:Rt)(r2 r4:Nat)(w:World):Prop:=
 ∃gN:Int,w.cell? ((⟨r4,0,none⟩:Addr).add 0)=some (.int .i64 gN)/\
 ∃cb:SV,w.cell? ((⟨r4,0,none⟩:Addr).add 1)=some (.slice cb.a cb.len cb.cap)/\
 ∃cc:SV,w.cell? ((⟨r4,0,none⟩:Addr).add 2)=some (.slice cc.a cc.len cc.cap)/\
 stA prog 35 (⟨r2,0,none⟩:Addr) #[.int .i64 gN,.slice cb.a cb.len cb.cap,.slice cc.a cc.len cc.cap] w λw3=>
 ∃ag:Int,w3.cell? ((⟨r2,0,none⟩:Addr).add 0)=some (.int .i64 ag)/\
 ∃ab:SV,w3.cell? ((⟨r2,0,none⟩:Addr).add 1)=some (.slice ab.a ab.len ab.cap)/\
 ∃ae:SV,w3.cell? ((⟨r2,0,none⟩:Addr).add 2)=some (.slice ae.a ae.len ae.cap)/\
 R (.returned (.tuple #[.agg #[.int .i64 ag,.slice ab.a ab.len ab.cap,.slice ae.a ae.len ae.cap],.int .i64 0])) w3
theorem kQm {w0 wr w:World} {d:List UInt8} {r2 r4:Nat} {t:Tbl} {f q:SV} (aM:w.heap[r2]?=some (.cells #[.int .i64 0,.slice none 0 0,.slice none 0 0] 35)) (h4:w.heap[r4]?=some (.cells #[.int .i64 t.page,.slice f.a f.len f.cap,.slice q.a q.len q.cap] 35)) (ho:zJq wr w t f q) (hn:yXO t) (hp:Pu w0 w) (hr:w0.heap.size<=r2) (hl:r2<wr.heap.size) (hz:w0.heap.size<=wr.heap.size)
  (hout:zYR d t 0):copyT (xYB w0 d) r2 r4 w:=
 ⟨_,cl h4 0,f,cl h4 1,q,cl h4 2,zQi aM s35.symm rfl rfl λw5 bq cI kK=>⟨_,cl bq 0,f,cl bq 1,q,cl bq 2,t,f,q,0,rfl,(ho.one cI hl).low hz,hn,hp.andNew cI λi hi=>by omega,hout⟩⟩
theorem yZq{w w0:World}{s t:SV}{a b:List UInt8}(ha:zQf w0 w s a)(hb:ByV w t b):Calls prog 125 #[.slice s.a s.len s.cap,.slice t.a t.len t.cap] w λe w'=>e=.returned (.bool (decide (a=b)))/\Pu w w':=by
 refine yVw _ _ w _ ⟨_,w,xZ9 ha,_,w,zWr hb,?_,Pu.refl w⟩
 rw[zX9]
 congr 2
 exact zZG ⟨λh=>by rw[←zQP a,h,zQP],λh=>by rw[h]⟩
theorem yJY{w:World}{s:SV}{d:List UInt8}(hb:ByV w s d)(hd:d.length<=1000000000):Calls prog 87 #[.slice s.a s.len s.cap] w (xYB w d):=by
 refine xX3 _ w _ (alB λw1 aq aB=>(yJM (hb.pu aq) hd).mono ?_)
 rintro e w2 ⟨t,f,q,ok,rfl,ho,hn,ar,hpar⟩
 have nG:w.heap.size<w1.heap.size:=zQy aB
 refine⟨_,f,q,ok,rfl,yQv rfl s35.symm rfl λw3 ax re bp=>?_⟩
 have p3:=(aq.trans ar).trans ax
 have ho3:=ho.pu ax
 refine Br.of (λd1=>yJv ((ar.trans ax).blk aB) p3 (Nat.le_refl _) λu hv hu=>?_) (λd1=>⟨_,cl bp 0,f,cl bp 1,q,cl bp 2,(zZ0 (ho3.rd hn) hn.lim).mono ?_⟩)
 ·rw[(hpar u hv hu).2]at d1;cases d1
 rintro e w4 ⟨rfl,aK⟩
 have p4:=p3.trans aK
 have b3:=aK.blk bp
 have yu:=ho3.pu aK
 refine⟨_,rfl,Br.of (λd1=>yJv (((ar.trans ax).trans aK).blk aB) p4 (Nat.le_refl _) λu hv hu=>?_) (λd1=>⟨_,cl b3 0,f,cl b3 1,q,cl b3 2,?_⟩)⟩
 ·rw[(hpar u hv hu).1]at d1;exact zQ3 d1 hv
 have nr:zQg t=0:=zQs d1
 refine(yQT (yu.rd hn) (zJj.of nr)).mono ?_
 rintro e w5 ⟨o,rfl,ho5,aT⟩
 refine⟨o,rfl,(yZq ho5 (hb.pu (p4.trans aT))).mono ?_⟩
 rintro e w6 ⟨rfl,bn⟩
 have yv:=aT.trans bn
 refine⟨_,rfl,Br.of (λd1=>yJv ((((ar.trans ax).trans aK).trans yv).blk aB) (p4.trans yv) (Nat.le_refl _) λu hv hu=>?_) (λd1=>?_)⟩
 ·rw[(hpar u hv hu).1,decide_eq_true hu]at d1;cases d1
 have hbt:zQj t=d:=by simpa using d1
 exact kQm ((((ar.trans ax).trans aK).trans yv).blk aB) (yv.blk b3) (yu.pu yv) hn (p4.trans yv) (Nat.le_refl _) nG aq.size (.inl ⟨rfl,nr,hbt,λu hv hu=>(hpar u hv hu).1⟩)
end Go.Proofs.YtaeecpjhfmcliaaGreatDoor
/- The log: what files tell, and what a recovery writes. In plain words. No condition but those stated. -/
namespace Go.Proofs.YtaeecpjhfmcliaaGreatDoor
open Go.Sh Go.RowKit Tryz
def zXx(d:List UInt8):Option Tbl:=open Classical in if h:∃u,zQg u=0/\zQj u=d then some h.choose else none
theorem zXl{d:List UInt8}{t:Tbl}(h:zXx d=some t):zQg t=0/\zQj t=d:=by
 unfold zXx at h
 split at h
 ·next hx=>rw[←Option.some.inj h];exact hx.choose_spec
 ·cases h
theorem zVs{d:List UInt8}(h:zXx d=none):∀u,zQg u=0->zQj u ≠ d:=λu hu hd=>by
 unfold zXx at h
 split at h
 ·cases h
 ·next hx=>exact hx ⟨u,hu,hd⟩
theorem yK0{d:List UInt8}{t:Tbl}(h:zYR d t 0):zXx d=some t:=by
 rcases h with⟨-,h1,h2,h3⟩|⟨h,-⟩
 ·cases e:zXx d with
  | none=>exact absurd h2 (zVs e t h1)
  | some u=>rw[h3 u (zXl e).1 (zXl e).2]
 ·cases h
theorem xZe{d:List UInt8}{t:Tbl}(h:zYR d t 11):zXx d=none:=by
 rcases h with⟨h,-⟩|⟨-,-,h3⟩
 ·cases h
 ·cases e:zXx d with
  | none=>rfl
  | some u=>exact absurd (zXl e).2 (h3 u (zXl e).1)
theorem zKC{d:List UInt8}{t:Tbl}{c:Int}(h:zYR d t c):(c=0/\zXx d=some t)∨(c=11/\zXx d=none/\t=⟨0,[],[]⟩):=by
 have h':=h
 rcases h with⟨rfl,-⟩|⟨rfl,h2,-⟩
 ·exact .inl ⟨rfl,yK0 h'⟩
 ·exact .inr ⟨rfl,xZe h',h2⟩
def yXP(t:Tbl)(b:List UInt8):Option Rec:=(zXx (zJK { t with recs:=[⟨false,zJr t.fields⟩] } ++ b ++ [26])).bind λx=>x.recs.head?
def goC(t:Tbl)(size:Nat)(recs:List Rec)(rest:List UInt8):Option (List Rec):=
 if h:rest=[]then some recs
 else match yXP t ((rest.drop 2).take size)with
  | none=>none
  | some r=>if zQZ (rest.take 2)<1∨recs.length+1<zQZ (rest.take 2)∨300<zQZ (rest.take 2)then none
   else goC t size (if recs.length<zQZ (rest.take 2)then recs ++ [r]else recs.set (zQZ (rest.take 2) - 1) r) (rest.drop (size+2))
 termination_by rest.length
 decreasing_by
 rw[List.length_drop]
 have:rest.length ≠ 0:=λe=>h (List.length_eq_zero_iff.1 e)
 omega
def zXb(t:Tbl)(body:List UInt8):Option Tbl:=
 if body.length<2∨(body.length - 2) % ((zXM t.fields).toNat+2) ≠ 0 then none
 else(goC t (zXM t.fields).toNat t.recs (body.drop 2)).bind λl=>if l.length=zQZ (body.take 2)then some { t with recs:=l }else none
def xZs(t:Tbl)(k:Int):List UInt8:=match t.recs[(k - 1).toNat]? with
 | some r=>zJX zQu t.fields r
 | none=>[]
def zXt(t:Tbl)(l:List Int):List UInt8:=zJi t.recs.length 2 ++ l.flatMap λk=>if (t.recs.length:Int)<k then []else zJi k.toNat 2 ++ xZs t k
abbrev Fls:=List UInt8 × List UInt8
def zJL(cur:Option Tbl)(anew:Bool)(rest:List UInt8):Option Tbl × List UInt8 × Bool:=
 match h:zZF rest with
 | none=>(cur,rest,anew)
 | some (k,body,more)=>
  if k=119 then zJL (zXx body) true more
  else if k ≠ 99 then zJL none anew more
  else zJL (cur.bind λt=>zXb t body) anew more
 termination_by rest.length
 decreasing_by all_goals exact yXb h
def zQ9(F:Fls):Option Tbl × List UInt8 × Bool:=zJL (zXx F.1) false F.2
structure Wr where
 file:Int
 at_:Int
 b:List UInt8
def Fls.get(F:Fls)(i:Int):List UInt8:=if i=0 then F.1 else F.2
def Fls.put(F:Fls)(i:Int)(b:List UInt8):Fls:=if i=0 then(b,F.2)else(F.1,b)
def zZp(F:Fls)(x:Wr)(k:Int):Fls:=if k<=0 then F else F.put x.file ((F.get x.file).take (min x.at_ (F.get x.file).length).toNat ++ x.b.take k.toNat)
def zQw(F:Fls)(x:Wr):Fls:=zZp F x (x.b.length+1)
def zQ8(F:Fls):List Wr:=
 (if (zQ9 F).2.1=[]then []else [⟨1,F.2.length - (zQ9 F).2.1.length,[]⟩]) ++
 (if (zQ9 F).2.2 then [⟨0,0,[]⟩,⟨0,0,zQC ((zQ9 F).1.getD yJ6)⟩,⟨1,0,[]⟩]else [])
def zKb(F:Fls):Fls:=(zQ8 F).foldl zQw F
def zQO(F:Fls):List Fls:=(zQ8 F).foldl (λl x=>l ++ [zQw (l.getLast?.getD F) x]) [F]
end Go.Proofs.YtaeecpjhfmcliaaGreatDoor
/- The log: right tables and their bytes stand for each other; headers too. In plain words. No condition but those stated. -/
namespace Go.Proofs.YtaeecpjhfmcliaaGreatDoor
open Go.Sh Go.RowKit Tryz
def wOf(d:List UInt8):World:={ heap:=#[.cells (d.map u8V).toArray 0 (0,0)],tape:=λ_ _=>0,drawn:=0,os:=default,output:=#[] }
theorem wOf_by(d:List UInt8)(hd:d.length<=140737488355328):ByV (wOf d) ⟨some ⟨0,0,none⟩,d.length,d.length⟩ d:=
 ⟨rfl,Nat.le_refl _,hd,λj b hj=>⟨_,rfl,by rw[zQr,zQI (c:=(d.map u8V).toArray) (e:=0) (f:=(0,0)) rfl];simp[hj]⟩⟩
theorem zJh{t:Tbl}(h:zJj t):(zQj t).length<=600300:=by
 have h1:=zWV h
 have h2:=yYu h t.recs.length (Nat.le_refl _)
 rw[List.take_length]at h2
 have h3:=h.n16
 unfold zQj
 simp only[List.length_append,List.length_singleton]
 omega
theorem zW3(t:Tbl):(zQC t).length<=600300:=by
 unfold zQC;split
 ·rename_i h;exact zJh (zJj.of h)
 ·simp
theorem yQ6{u v:Tbl}(hu:zQg u=0)(hv:zQg v=0)(h:zQj u=zQj v):u=v:=by
 have hl:=zJh (zJj.of hu)
 obtain⟨e,w',fr,⟨t,f,q,c,_,_,_,_,hr⟩,_⟩:=yJY (wOf_by (zQj u) (by omega)) (by omega) []
 rcases hr with⟨_,_,_,h3⟩|⟨_,_,h3⟩
 ·rw[←h3 u hu rfl,←h3 v hv h.symm]
 ·exact absurd rfl (h3 u hu)
theorem yQY{f:Fld}(h:zQp f=true):1<=f.kind/\f.kind<=5:=by
 unfold zQp at h
 have h:=(Bool.and_eq_true _ _ ▸ h:zZ1 f.name=true/\zWJ f.kind f.width=true).2
 unfold zWJ at h
 split at h
 ·omega
 split at h
 ·omega
 split at h
 ·omega
 split at h
 ·omega
 split at h
 ·omega
 ·cases h
theorem yJt{a b:Int}(ha:1<=a/\a<=5)(hb:1<=b/\b<=5)(h:zVw a=zVw b):a=b:=by
 rcases(by omega:a=1∨a=2∨a=3∨a=4∨a=5)with rfl|rfl|rfl|rfl|rfl <;> rcases(by omega:b=1∨b=2∨b=3∨b=4∨b=5)with rfl|rfl|rfl|rfl|rfl <;> first|rfl|(exfalso;revert h;decide)
theorem yYP{a b:Bool}(h:yY7 a=yY7 b):a=b:=by
 cases a <;> cases b <;> first|rfl|(exfalso;revert h;decide)
theorem zY3{a b:Int}(ha:0<=a/\a<=255)(hb:0<=b/\b<=255)(h:zZE a=zZE b):a=b:=by
 rw[←zW8 ha,←zW8 hb,h]
theorem yYc{f g:Fld}(hf:zQp f=true)(hg:zQp g=true)(h:zQM f=zQM g):f=g:=by
 obtain⟨a1,a2,a3,a4⟩:=zWu hf h
 obtain⟨b1,b2,b3,b4⟩:=zWu hg rfl
 have e1:f.name.data.toList=g.name.data.toList:=by
  have:=a1.symm.trans b1
  rw[←zWn _ (zV1 hf) (10 - f.name.size),this,zWn _ (zV1 hg)]
 have e2:=yJt (yQY hf) (yQY hg) (Option.some.inj (a2.symm.trans b2))
 have e3:=zY3 (by have:=zXs hf;omega) (by have:=zXs hg;omega) (Option.some.inj (a3.symm.trans b3))
 have e4:=yYP (Option.some.inj (a4.symm.trans b4))
 obtain⟨n,k,wd,z⟩:=f
 obtain⟨n',k',wd',z'⟩:=g
 dsimp only at e1 e2 e3 e4
 rw[zQU e1,e2,e3,e4]
theorem xZL{x t:Tbl}(hx:zQg x=0)(hp:zQY t.page=true)(hvf:zQW t.fields=0){rest:List UInt8}(h:zQj x=zJK t ++ rest):x.page=t.page/\x.fields=t.fields:=by
 have ox:=zJj.of hx
 obtain⟨h0,hall,_,i8,hw⟩:=zXn hvf
 have x16:=ox.n16
 have e:zJK t ++ rest=zVu t ++ (t.fields.flatMap zQM ++ ([13] ++ rest)):=by unfold zJK zVu;simp only[List.append_assoc]
 rw[e]at h
 obtain⟨d,hd⟩:∃d,d=zQj x:=⟨_,rfl⟩
 obtain⟨_,p1,_,p10⟩:=zWA (u:=x) hd.symm
 have h1:=zXq t.recs.length 4
 have q1:d[1]?=some (zZE t.page):=by rw[hd,h];rfl
 have q10:d[10]?=some (zZE t.fields.length):=by
  rw[hd,h,List.getElem?_append_left (by rw[zWE];omega)]
  unfold zVu
  rw[List.getElem?_append_right (by simp[zXq])]
  simp[zXq]
 have px:=ox.page
 unfold zQY at px hp
 simp only[Bool.and_eq_true,decide_eq_true_eq]at px hp
 have ep:=zY3 (by omega) (by omega) (Option.some.inj (p1.symm.trans q1))
 have en:=zY3 (by omega) (by omega) (Option.some.inj (p10.symm.trans q10))
 have en:x.fields.length=t.fields.length:=by omega
 refine⟨ep,List.ext_getElem? λk=>?_⟩
 by_cases hk:k<t.fields.length
 ·obtain⟨f,hf⟩:=zQL hk
  obtain⟨g,hg⟩:=zQL (l:=x.fields) (k:=k) (by omega)
  have b1:=yQb ox hd.symm hg
  have b2:(d.drop (12+16 * k)).take 16=zQM f:=by
   have hallk:(t.fields.take k).all zQp=true:=List.all_eq_true.2 λg hg=>List.all_eq_true.1 hall g (List.mem_of_mem_take hg)
   have xK:=yJX hallk
   rw[List.length_take]at xK
   have hl16:=zZ3 (zXc (List.all_eq_true.1 hall f (List.mem_of_getElem? hf))).2.1
   have ee:t.fields.flatMap zQM=(t.fields.take k).flatMap zQM ++ (zQM f ++ (t.fields.drop (k+1)).flatMap zQM):=by
    rw[←List.flatMap_cons,←zXU hf,←List.flatMap_append,List.take_append_drop]
   have hl:(zVu t ++ (t.fields.take k).flatMap zQM).length=12+16 * k:=by rw[List.length_append,zWE,xK];omega
   rw[hd,h,ee,List.append_assoc,←List.append_assoc (zVu t),List.drop_append,List.drop_eq_nil_of_le (by omega),hl,Nat.sub_self,List.drop_zero,List.nil_append,List.append_assoc,List.take_append_of_le_length (by omega),List.take_of_length_le (by omega)]
  rw[hg,hf,yYc (List.all_eq_true.1 ox.all g (List.mem_of_getElem? hg)) (List.all_eq_true.1 hall f (List.mem_of_getElem? hf)) (b1.symm.trans b2)]
 ·rw[List.getElem?_eq_none (by omega),List.getElem?_eq_none (by omega)]
theorem zKv{t:Tbl}(hp:zQY t.page=true)(hf:zQW t.fields=0)(hn:t.recs.length<=300)(hr:∀r ∈ t.recs,zQ1 t.fields t.page r=0):zQg t=0:=by
 have key:∀l:List Rec,(∀r ∈ l,zQ1 t.fields t.page r=0)->zXw t.fields t.page l=0:=by
  intro l
  induction l with
  | nil=>intro _;rfl
  | cons r l ih=>
   intro h
   unfold zXw
   rw[if_neg (by rw[h r (List.mem_cons_self)];simp)]
   exact ih λx hx=>h x (List.mem_cons_of_mem _ hx)
 unfold zQg
 rw[if_pos hp,if_neg (by rw[hf];simp),if_neg (by omega)]
 exact key _ hr
structure zQN(t:Tbl):Prop where
 page:zQY t.page=true
 vf:zQW t.fields=0
 n300:t.recs.length<=300
 recs:∀r ∈ t.recs,zQ1 t.fields t.page r=0
theorem zQN.of{t:Tbl}(h:zQg t=0):zQN t:=by
 obtain⟨h1,h2,h3,h4⟩:=zW6 h
 exact⟨h1,h2,h3,λr hr=>zJv h4 r hr⟩
theorem zQN.ok{t:Tbl}(h:zQN t):zQg t=0:=zKv h.page h.vf h.n300 h.recs
end Go.Proofs.YtaeecpjhfmcliaaGreatDoor
