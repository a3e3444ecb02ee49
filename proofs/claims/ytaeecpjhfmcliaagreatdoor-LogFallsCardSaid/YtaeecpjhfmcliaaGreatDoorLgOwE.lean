import Derived.Test.YtaeecpjhfmcliaaGreatDoorLgOwD
import Derived.Test.YtaeecpjhfmcliaaGreatDoorLgOwC
/- Table: the program's reading of a row's bytes. No condition. -/
set_option maxRecDepth 100000
set_option maxHeartbeats 2000000
set_option linter.unusedVariables false
set_option linter.unusedSimpArgs false
noncomputable section
namespace Go.Proofs.YtaeecpjhfmcliaaGreatDoor
open Go.Sh Go.RowKit Tryz
def appV(aD:SV)(p6:Option Addr)(c:Array Value)(K:World->Prop)(w:World):Prop:=
 alE (.cells c 73) w λcv dU=>∃aE:SV,∃dD:World,(Builtin.append_ #[38,38] 38 #[.slice aD.a aD.len aD.cap,.slice (some ⟨cv,0,none⟩) 1 1]).run prog dU=.ok (.slice aE.a aE.len aE.cap) dD/\
 zQg p6 λmK=>st1 (mK.add 1) (.slice aE.a aE.len aE.cap) dD λfX=>K fX
def xYG(p6:Option Addr)(aL:Nat)(K:World->Prop)(w:World):Prop:=
 zQg p6 λoN=>∃aD:SV,w.cell? (oN.add 1)=some (.slice aD.a aD.len aD.cap)/\
 ∃az:Int,w.cell? ((⟨aL,0,none⟩:Addr).add 0)=some (.int .i64 az)/\
 ∃aA:Int,w.cell? ((⟨aL,0,none⟩:Addr).add 1)=some (.int .i64 aA)/\
 ∃aB:ByteArray,w.cell? ((⟨aL,0,none⟩:Addr).add 2)=some (.string aB)/\
 appV aD p6 #[.int .i64 az,.int .i64 aA,.string aB] K w
structure yQg(w0 wr:World)(r4 r6:Nat)(g:Bool)(vs:List Val)(w:World):Prop where
 ex:∃q:SV,w.heap[r6]?=some (.cells #[.bool g,.slice q.a q.len q.cap] 67)/\zJF wr w q vs
 b4:w.heap[r4]?=some (.cells #[.bool false,.slice none 0 0] 67)
 sz:wr.heap.size<=w.heap.size
 pu:Pu w0 w
 l4:r4<wr.heap.size
 l6:r6<wr.heap.size
 ne:r4 ≠ r6
 z4:w0.heap.size<=r4
 z6:w0.heap.size<=r6
theorem yQg.on{w0 wr w w':World}{r4 r6:Nat}{g:Bool}{vs:List Val}(h:yQg w0 wr r4 r6 g vs w)(hp:Pu w w'):yQg w0 wr r4 r6 g vs w':=by
 obtain⟨q,h1,h2⟩:=h.ex
 exact⟨⟨q,hp.blk h1,h2.pu hp⟩,hp.blk h.b4,Nat.le_trans h.sz hp.size,h.pu.trans hp,h.l4,h.l6,h.ne,h.z4,h.z6⟩
theorem xJR {w0 wr w:World} {r4 r6:Nat} {g:Bool} {vs:List Val} (h:yQg w0 wr r4 r6 g vs w) {q:SV} (h6:w.heap[r6]?=some (.cells #[.bool g,.slice q.a q.len q.cap] 67)) (hq:zJF wr w q vs) {v:Val} {c:Array Value} (hc:c=#[.int .i64 v.kind,.int .i64 v.n,.string v.s]) (hl:vs.length<=1000000) {K:World->Prop}
  (hK:∀w',yQg w0 wr r4 r6 g (vs ++ [v]) w'->K w'):appV q (some ⟨r6,0,none⟩) c K w:=by
 refine alB λw1 aq ay=>?_
 have h1:=h.on aq
 have z1:=aq.size
 have z:=h.sz
 obtain⟨q',w2,e2,r2,f2⟩:=(hq.pu aq).push (by omega) ay hc hl
 have n6:¬r6 ∈ zQe q:=λhc=>by have:=hq.2 _ hc;have:=h.l6;omega
 have n4:¬r4 ∈ zQe q:=λhc=>by have:=hq.2 _ hc;have:=h.l4;omega
 have b6:=f2.blk (aq.blk h6) n6
 have b4:=f2.blk h1.b4 n4
 refine⟨q',w2,e2,zQt (o:=1) b6 (by simp) λwx ex hbx=>?_⟩
 have fx:Fr (·=r6) w2 wx:=by rw[ex];exact Fr.cell w2 _ _ _
 have zx:wx.heap.size=w2.heap.size:=by rw[ex];simp
 have z2:=f2.size
 have h46:=h.ne
 have hz6:=h.z6
 have hl6:=h.l6
 have hl4:=h.l4
 have hz4:=h.z4
 refine hK wx ⟨⟨q',hbx,r2.fr fx λi hi=>by have:=r2.2 i hi;omega⟩,fx.blk b4 (by omega),by omega,?_,h.l4,h.l6,h.ne,h.z4,h.z6⟩
 have p2:Pu w0 w2:=h1.pu.andNew f2 λi hi=>by have:=hq.2 i hi;omega
 exact p2.andNew fx λi hi=>by omega
theorem yYP {w0 wr w:World} {r4 r6 aL:Nat} {g:Bool} {vs:List Val} (h:yQg w0 wr r4 r6 g vs w) {v:Val} (hv:w.heap[aL]?=some (.cells #[.int .i64 v.kind,.int .i64 v.n,.string v.s] 73)) (hl:vs.length<=1000000) {K:World->Prop}
  (hK:∀w',yQg w0 wr r4 r6 g (vs ++ [v]) w'->K w'):xYG (some ⟨r6,0,none⟩) aL K w:=by
 obtain⟨q,h6,hq⟩:=h.ex
 exact⟨q,cl h6 1,_,cl hv 0,_,cl hv 1,_,cl hv 2,xJR h h6 hq rfl hl hK⟩
def zKx(K:Bool->World->Prop)(p6:Option Addr)(b9 ok:Bool)(aL:Nat)(w:World):Prop:=Br b9 (xYG p6 aL (K ok) w) (xYG p6 aL (K false) w)
def yKJ(K:Bool->World->Prop)(p6:Option Addr)(b9:Bool)(cn:Nat)(bH:SV)(w9:World):Prop:=
 dwE w9 λbB=>
 ∃S1:World->Prop,S1 bB/\
 ∃kv:Int,(∀w',S1 w'->w'.cell? ((⟨cn,0,none⟩:Addr).add 1)=some (.int .i64 kv))/\
 (
 Calls prog 145 #[] bB λe bG=>
 ∃eX:Option Nat,e=.returned (.map eX)/\
 ∃S2:World->Prop,S2 bG/\(∀u,S2 u->S1 u)/\
 ∃bE:Int,∃bF:Int,∃bM:Int,∃bN:Value,∃aT:Value,(∀w',S2 w'->(Instr.lookup 176 (.map eX) (.int .i64 kv) false).run prog w'=.ok (.agg #[.int .u8 bE,.int .i64 bF,.int .i64 bM,bN,aT]) w')/\
 (
 ∃dK:ByteArray,∃bI:World,(convert 22 9 (.slice bH.a bH.len bH.cap)).run prog bG=.ok (.string dK) bI/\
 ∃S3:World->Prop,S3 bI/\(∀u,S3 u->S2 u)/\
 (
 fnE aT λf75 first75 aZ=>
 zQ5 prog f75=true/\Calls prog f75 (first75.toList ++ (([.string dK]:List Value) ++ aZ.toList)).toArray bI λe cE=>
 ∃am:Int,∃ao:Int,∃ap:ByteArray,∃aG:Bool,e=.returned (.tuple #[.agg #[.int .i64 am,.int .i64 ao,.string ap],.bool aG])/\
 alE (.cells #[.int .i64 0,.int .i64 0,.string (⟨#[]⟩:ByteArray)] 73) cE λaL bO=>
 stA prog 73 (⟨aL,0,none⟩:Addr) #[.int .i64 am,.int .i64 ao,.string ap] bO λcq=>
 zKx K p6 b9 aG aL cq)/\(
 alE (.cells #[.int .i64 0,.int .i64 0,.string (⟨#[]⟩:ByteArray)] 73) bI λaL gz=>
 ∃S4:World->Prop,S4 gz/\(∀u,S4 u->S3 u)/\
 fnE aT λf75 first75 aZ=>
 zQ5 prog f75=true/\Calls prog f75 (first75.toList ++ (([.string dK]:List Value) ++ aZ.toList)).toArray gz λe gk=>
 ∃am:Int,∃ao:Int,∃ap:ByteArray,∃aG:Bool,e=.returned (.tuple #[.agg #[.int .i64 am,.int .i64 ao,.string ap],.bool aG])/\
 stA prog 73 (⟨aL,0,none⟩:Addr) #[.int .i64 am,.int .i64 ao,.string ap] gk λgd=>
 zKx K p6 b9 aG aL gd))/\(
 alE (.cells #[.int .i64 0,.int .i64 0,.string (⟨#[]⟩:ByteArray)] 73) bG λaL wA=>
 ∃S5:World->Prop,S5 wA/\(∀u,S5 u->S2 u)/\
 ∃dK:ByteArray,∃gT:World,(convert 22 9 (.slice bH.a bH.len bH.cap)).run prog wA=.ok (.string dK) gT/\
 ∃S6:World->Prop,S6 gT/\(∀u,S6 u->S5 u)/\
 fnE aT λf75 first75 aZ=>
 zQ5 prog f75=true/\Calls prog f75 (first75.toList ++ (([.string dK]:List Value) ++ aZ.toList)).toArray gT λe yw=>
 ∃am:Int,∃ao:Int,∃ap:ByteArray,∃aG:Bool,e=.returned (.tuple #[.agg #[.int .i64 am,.int .i64 ao,.string ap],.bool aG])/\
 stA prog 73 (⟨aL,0,none⟩:Addr) #[.int .i64 am,.int .i64 ao,.string ap] yw λmM=>
 zKx K p6 b9 aG aL mM))/\(
 (
 ∃dK:ByteArray,∃oQ:World,(convert 22 9 (.slice bH.a bH.len bH.cap)).run prog bB=.ok (.string dK) oQ/\
 ∃S7:World->Prop,S7 oQ/\(∀u,S7 u->S1 u)/\
 (
 Calls prog 145 #[] oQ λe pj=>
 ∃eX:Option Nat,e=.returned (.map eX)/\
 ∃S8:World->Prop,S8 pj/\(∀u,S8 u->S7 u)/\
 ∃bE:Int,∃bF:Int,∃bM:Int,∃bN:Value,∃aT:Value,(∀w',S8 w'->(Instr.lookup 176 (.map eX) (.int .i64 kv) false).run prog w'=.ok (.agg #[.int .u8 bE,.int .i64 bF,.int .i64 bM,bN,aT]) w')/\
 (
 fnE aT λf75 first75 aZ=>
 zQ5 prog f75=true/\Calls prog f75 (first75.toList ++ (([.string dK]:List Value) ++ aZ.toList)).toArray pj λe pZ=>
 ∃am:Int,∃ao:Int,∃ap:ByteArray,∃aG:Bool,e=.returned (.tuple #[.agg #[.int .i64 am,.int .i64 ao,.string ap],.bool aG])/\
 alE (.cells #[.int .i64 0,.int .i64 0,.string (⟨#[]⟩:ByteArray)] 73) pZ λaL qP=>
 stA prog 73 (⟨aL,0,none⟩:Addr) #[.int .i64 am,.int .i64 ao,.string ap] qP λoE=>
 zKx K p6 b9 aG aL oE)/\(
 alE (.cells #[.int .i64 0,.int .i64 0,.string (⟨#[]⟩:ByteArray)] 73) pj λaL wq=>
 ∃S9:World->Prop,S9 wq/\(∀u,S9 u->S8 u)/\
 fnE aT λf75 first75 aZ=>
 zQ5 prog f75=true/\Calls prog f75 (first75.toList ++ (([.string dK]:List Value) ++ aZ.toList)).toArray wq λe oS=>
 ∃am:Int,∃ao:Int,∃ap:ByteArray,∃aG:Bool,e=.returned (.tuple #[.agg #[.int .i64 am,.int .i64 ao,.string ap],.bool aG])/\
 stA prog 73 (⟨aL,0,none⟩:Addr) #[.int .i64 am,.int .i64 ao,.string ap] oS λoJ=>
 zKx K p6 b9 aG aL oJ))/\(
 alE (.cells #[.int .i64 0,.int .i64 0,.string (⟨#[]⟩:ByteArray)] 73) oQ λaL yL=>
 ∃S10:World->Prop,S10 yL/\(∀u,S10 u->S7 u)/\
 Calls prog 145 #[] yL λe yM=>
 ∃eX:Option Nat,e=.returned (.map eX)/\
 ∃S11:World->Prop,S11 yM/\(∀u,S11 u->S10 u)/\
 ∃bE:Int,∃bF:Int,∃bM:Int,∃bN:Value,∃aT:Value,(∀w',S11 w'->(Instr.lookup 176 (.map eX) (.int .i64 kv) false).run prog w'=.ok (.agg #[.int .u8 bE,.int .i64 bF,.int .i64 bM,bN,aT]) w')/\
 fnE aT λf75 first75 aZ=>
 zQ5 prog f75=true/\Calls prog f75 (first75.toList ++ (([.string dK]:List Value) ++ aZ.toList)).toArray yM λe w89=>
 ∃am:Int,∃ao:Int,∃ap:ByteArray,∃aG:Bool,e=.returned (.tuple #[.agg #[.int .i64 am,.int .i64 ao,.string ap],.bool aG])/\
 stA prog 73 (⟨aL,0,none⟩:Addr) #[.int .i64 am,.int .i64 ao,.string ap] w89 λqE=>
 zKx K p6 b9 aG aL qE))/\(
 alE (.cells #[.int .i64 0,.int .i64 0,.string (⟨#[]⟩:ByteArray)] 73) bB λaL oZ=>
 ∃S12:World->Prop,S12 oZ/\(∀u,S12 u->S1 u)/\
 (
 Calls prog 145 #[] oZ λe ro=>
 ∃eX:Option Nat,e=.returned (.map eX)/\
 ∃S13:World->Prop,S13 ro/\(∀u,S13 u->S12 u)/\
 ∃bE:Int,∃bF:Int,∃bM:Int,∃bN:Value,∃aT:Value,(∀w',S13 w'->(Instr.lookup 176 (.map eX) (.int .i64 kv) false).run prog w'=.ok (.agg #[.int .u8 bE,.int .i64 bF,.int .i64 bM,bN,aT]) w')/\
 ∃dK:ByteArray,∃o0:World,(convert 22 9 (.slice bH.a bH.len bH.cap)).run prog ro=.ok (.string dK) o0/\
 ∃S14:World->Prop,S14 o0/\(∀u,S14 u->S13 u)/\
 fnE aT λf75 first75 aZ=>
 zQ5 prog f75=true/\Calls prog f75 (first75.toList ++ (([.string dK]:List Value) ++ aZ.toList)).toArray o0 λe wB=>
 ∃am:Int,∃ao:Int,∃ap:ByteArray,∃aG:Bool,e=.returned (.tuple #[.agg #[.int .i64 am,.int .i64 ao,.string ap],.bool aG])/\
 stA prog 73 (⟨aL,0,none⟩:Addr) #[.int .i64 am,.int .i64 ao,.string ap] wB λjY=>
 zKx K p6 b9 aG aL jY)/\(
 ∃dK:ByteArray,∃o1:World,(convert 22 9 (.slice bH.a bH.len bH.cap)).run prog oZ=.ok (.string dK) o1/\
 ∃S15:World->Prop,S15 o1/\(∀u,S15 u->S12 u)/\
 Calls prog 145 #[] o1 λe rp=>
 ∃eX:Option Nat,e=.returned (.map eX)/\
 ∃S16:World->Prop,S16 rp/\(∀u,S16 u->S15 u)/\
 ∃bE:Int,∃bF:Int,∃bM:Int,∃bN:Value,∃aT:Value,(∀w',S16 w'->(Instr.lookup 176 (.map eX) (.int .i64 kv) false).run prog w'=.ok (.agg #[.int .u8 bE,.int .i64 bF,.int .i64 bM,bN,aT]) w')/\
 fnE aT λf75 first75 aZ=>
 zQ5 prog f75=true/\Calls prog f75 (first75.toList ++ (([.string dK]:List Value) ++ aZ.toList)).toArray rp λe wC=>
 ∃am:Int,∃ao:Int,∃ap:ByteArray,∃aG:Bool,e=.returned (.tuple #[.agg #[.int .i64 am,.int .i64 ao,.string ap],.bool aG])/\
 stA prog 73 (⟨aL,0,none⟩:Addr) #[.int .i64 am,.int .i64 ao,.string ap] wC λjZ=>
 zKx K p6 b9 aG aL jZ)))
theorem yKY {K:Bool->World->Prop} {p6:Option Addr} {b9:Bool} {cn:Nat} {bH:SV} {w9:World} {f:Fld} {part:List UInt8} (hb:w9.heap[cn]?=some (.cells #[.string f.name,.int .i64 f.kind,.int .i64 f.width,.bool f.null] 129)) (hf:zQn f=true) (hl:ByV w9 bH part)
  (tail:∀(wz:World) (aL:Nat),Pu w9 wz->wz.heap[aL]?=some (.cells #[.int .i64 (zJe f.kind part).kind,.int .i64 (zJe f.kind part).n,.string (zJe f.kind part).s] 73)->zKx K p6 b9 (okS f.kind part) aL wz):yKJ K p6 b9 cn bH w9:=by
 obtain⟨R5,hk5,hbody,hcall0⟩:=xZC hf
 have hsz:(bs part).size<=140737488355328:=by rw[zQ8,←hl.len];exact hl.lim
 have hcall:∀w,Calls prog R5.rd #[.string (bs part)] w λe w'=>e=.returned (.tuple #[zJA (zJe f.kind part),.bool (okS f.kind part)])/\Pu w w':=λw=>by
  have:=hcall0 (bs part) hsz w
  rw[zQN]at this;exact this
 have kin:∀wz,Calls prog 145 #[] wz λe w'=>∃m:Nat,e=.returned (.map (some m))/\(∀u,Pu w' u->(Instr.lookup 176 (.map (some m)) (.int .i64 f.kind) false).run prog u=.ok (.agg #[.int .u8 R5.letter,.int .i64 R5.least,.int .i64 R5.most,.func (.func R5.wr) #[] #[],.func (.func R5.rd) #[] #[]]) u)/\Pu wz w':=λwz=>by
  refine(zWZ wz).mono ?_
  rintro e w' ⟨m,rfl,hm,_,hp⟩
  refine⟨m,rfl,λu hu=>?_,hp⟩
  have:=zWL (hm.pu hu) f.kind false
  rw[hk5]at this;exact this
 have conv:∀{wz},Pu w9 wz->(convert 22 9 (.slice bH.a bH.len bH.cap)).run prog wz=.ok (.string (bs part)) wz:=λ{wz} h=>yZX (hl.pu h)
 -- the call, then the variable
 have ca:∀{wz:World},Pu w9 wz->Calls prog R5.rd #[.string (bs part)] wz λe cE=>∃am:Int,∃ao:Int,∃ap:ByteArray,∃aG:Bool,e=.returned (.tuple #[.agg #[.int .i64 am,.int .i64 ao,.string ap],.bool aG])/\
   alE (.cells #[.int .i64 0,.int .i64 0,.string (⟨#[]⟩:ByteArray)] 73) cE λaL bO=>stA prog 73 (⟨aL,0,none⟩:Addr) #[.int .i64 am,.int .i64 ao,.string ap] bO λcq=>zKx K p6 b9 aG aL cq:=λ{wz} hz=>by
  refine(hcall wz).mono ?_
  rintro e w1 ⟨rfl,aq⟩
  exact⟨_,_,_,_,rfl,yQk rfl s25.symm rfl λw2 ar sa aN=>tail w2 _ ((hz.trans aq).trans ar) aN⟩
 -- the call, behind the variable
 have ac:∀{wz:World} {aL:Nat},Pu w9 wz->wz.heap[aL]?=some (.cells #[.int .i64 0,.int .i64 0,.string (⟨#[]⟩:ByteArray)] 73)->w9.heap.size<=aL->Calls prog R5.rd #[.string (bs part)] wz λe cE=>∃am:Int,∃ao:Int,∃ap:ByteArray,∃aG:Bool,e=.returned (.tuple #[.agg #[.int .i64 am,.int .i64 ao,.string ap],.bool aG])/\
   stA prog 73 (⟨aL,0,none⟩:Addr) #[.int .i64 am,.int .i64 ao,.string ap] cE λcq=>zKx K p6 b9 aG aL cq:=λ{wz aL} hz iH hr=>by
  refine(hcall wz).mono ?_
  rintro e w1 ⟨rfl,aq⟩
  exact⟨_,_,_,_,rfl,zQi (aq.blk iH) s25.symm rfl rfl λw2 aN fZ sa=>tail w2 _ ((hz.trans aq).andNew fZ λi hi=>by omega) aN⟩
 refine zQc λbB dQ _=>⟨λu=>Pu bB u,Pu.refl _,f.kind,λu hu=>cl (hu.blk (dQ.blk hb)) 1,(kin bB).mono ?_,?_,alB λw2 ar aN=>?_⟩
 ·rintro e w1 ⟨m,rfl,hm,aq⟩
  have q1:=dQ.trans aq
  refine⟨some m,rfl,λu=>Pu w1 u,Pu.refl _,λu hu=>aq.trans hu,_,_,_,_,_,hm,⟨bs part,w1,conv q1,λu=>Pu w1 u,Pu.refl _,λu hu=>hu,⟨hbody,ca q1⟩,alB λw2 ar aN=>⟨λu=>Pu w2 u,Pu.refl _,λu hu=>ar.trans hu,hbody,ac (q1.trans ar) aN q1.size⟩⟩,alB λw2 ar aN=>?_⟩
  exact⟨λu=>Pu w2 u,Pu.refl _,λu hu=>ar.trans hu,bs part,w2,conv (q1.trans ar),λu=>Pu w2 u,Pu.refl _,λu hu=>hu,hbody,ac (q1.trans ar) aN q1.size⟩
 ·refine⟨bs part,bB,conv dQ,λu=>Pu bB u,Pu.refl _,λu hu=>hu,(kin bB).mono ?_,alB λw2 ar aN=>?_⟩
  ·rintro e w1 ⟨m,rfl,hm,aq⟩
   have q1:=dQ.trans aq
   exact⟨some m,rfl,λu=>Pu w1 u,Pu.refl _,λu hu=>aq.trans hu,_,_,_,_,_,hm,⟨hbody,ca q1⟩,alB λw2 ar aN=>⟨λu=>Pu w2 u,Pu.refl _,λu hu=>ar.trans hu,hbody,ac (q1.trans ar) aN q1.size⟩⟩
  ·refine⟨λu=>Pu w2 u,Pu.refl _,λu hu=>ar.trans hu,(kin w2).mono ?_⟩
   rintro e w1 ⟨m,rfl,hm,aq⟩
   exact⟨some m,rfl,λu=>Pu w1 u,Pu.refl _,λu hu=>aq.trans hu,_,_,_,_,_,hm,hbody,ac ((dQ.trans ar).trans aq) (aq.blk aN) dQ.size⟩
 ·refine⟨λu=>Pu w2 u,Pu.refl _,λu hu=>ar.trans hu,(kin w2).mono ?_,bs part,w2,conv (dQ.trans ar),λu=>Pu w2 u,Pu.refl _,λu hu=>hu,(kin w2).mono ?_⟩
  ·rintro e w1 ⟨m,rfl,hm,aq⟩
   exact⟨some m,rfl,λu=>Pu w1 u,Pu.refl _,λu hu=>aq.trans hu,_,_,_,_,_,hm,bs part,w1,conv ((dQ.trans ar).trans aq),λu=>Pu w1 u,Pu.refl _,λu hu=>hu,hbody,ac ((dQ.trans ar).trans aq) (aq.blk aN) dQ.size⟩
  ·rintro e w1 ⟨m,rfl,hm,aq⟩
   exact⟨some m,rfl,λu=>Pu w1 u,Pu.refl _,λu hu=>aq.trans hu,_,_,_,_,_,hm,hbody,ac ((dQ.trans ar).trans aq) (aq.blk aN) dQ.size⟩
theorem yZB {w:World} {l:List Fld} {s t:SV} {d:List UInt8} (h:zX6 w s l) (hall:l.all zQn=true) (ja:l.length<=16) (ht:ByV w t d) (hd:(d.length:Int)=zXK l) :
  Calls prog 163 #[.slice s.a s.len s.cap,.slice t.a t.len t.cap] w λe w'=>∃(g ok:Bool) (vs:List Val) (q:SV),e=.returned (.tuple #[.agg #[.bool g,.slice q.a q.len q.cap],.bool ok])/\zJF w w' q vs/\vs.length=l.length/\(∀v ∈ vs,zZL v.kind/\zZL v.n)/\Pu w w'/\
   ∀(r:Rec) (p:Int),zXB l p r.v->zJK zQu l r=d->g=r.gone/\vs=r.v/\ok=true:=by
 have hsl:=h.len
 have htl:=ht.len
 have hnl:=zVJ l
 have hwide:=zJk (WOk.of hall)
 have hlw:(l.map (·.width)).sum<=254 * l.length:=hwide.2
 have vV:0<d.length:=by unfold zXK at hd;omega
 have hdb:(d.length:Int)<=10000:=by unfold zXK at hd;omega
 have hdw:1+zXo l<=d.length:=by unfold zXK at hd;omega
 refine yWZ _ _ w _ (alB λw1 aq ay=>?_)
 obtain⟨b0,rZ⟩:=zQM vV
 obtain⟨a0,ha0,hc0⟩:=(ht.pu aq).get _ _ rZ
 refine⟨a0,ha0,by omega,by omega,_,hc0,yQk rfl s46.symm rfl λw2 ar sa aN=>(zWo (h.pu (aq.trans ar))).mono ?_⟩
 rintro e w3 ⟨rfl,ax⟩
 refine⟨_,rfl,?_⟩
 have l1:w.heap.size<w1.heap.size:=zQx ay
 have l2:w1.heap.size<w2.heap.size:=zQx aN
 have z3:=ax.size
 have xH:yQg w w2 w.heap.size w1.heap.size (((b0.toNat:Nat):Int) == 42) [] w3:=⟨⟨⟨none,0,0⟩,ax.blk aN,zJF.nil w2 w3⟩,(ar.trans ax).blk ay,z3,(aq.trans ar).trans ax,by omega,l2,by omega,Nat.le_refl _,by omega⟩
 rw[zQa (by omega) (by omega)]
 refine zQw l.length (λk u w'=>u.2.2.2=(k:Int)/\u.1=(yQ7 l k:Nat)/\u.2.1=(zXW l k:Nat)/\∃vs:List Val,vs.length=k/\(∀v ∈ vs,zZL v.kind/\zZL v.n)/\yQg w w2 w.heap.size w1.heap.size (((b0.toNat:Nat):Int) == 42) vs w'/\
   ∀(r:Rec) (p:Int),zXB l p r.v->zJK zQu l r=d->vs=r.v.take k/\u.2.2.1=true) ⟨rfl,by show(1:Int)+((zXo l:Nat):Int)=_;unfold yQ7;simp,rfl,[],rfl,by simp,xH,λr p _ _=>⟨by simp,rfl⟩⟩ ?_
 rintro k J ⟨u1,u2,u3,u4⟩ w4 hk ⟨e4,e1,e2,vs,hvl,sU,st,hcond⟩ hJ
 obtain rfl:u4=(k:Int):=e4
 obtain rfl:u1=(yQ7 l k:Nat):=e1
 obtain rfl:u2=(zXW l k:Nat):=e2
 have hcond:∀(r:Rec) (p:Int),zXB l p r.v->zJK zQu l r=d->vs=r.v.take k/\u3=true:=hcond
 have hnk:=yKp l k
 have hfl:=List.length_filter_le (·.null) l
 dsimp only
 refine Br.of (λq=>?_) (λq=>?_)
 ·have aI:k<l.length:=by have:=zQk q;omega
  obtain⟨f,hf⟩:=zQM aI
  have hfB:=List.all_eq_true.1 hall f (List.mem_of_getElem? hf)
  have hwf:=zXq hfB
  have hoff:=xYS hall hf
  obtain⟨a,ha,hi,_,_,_,c0,c1,c2,c3⟩:=zJd (h.pu st.pu) hf
  refine⟨a,ha,by omega,by omega,_,c0,_,c1,_,c2,_,c3,yQk rfl s23.symm rfl λw5 aU oo bu=>⟨_,cl bu 2,_,cl bu 2,?_⟩⟩
  have wS:=st.on aU
  have ht5:=ht.pu wS.pu
  obtain⟨bH,e40,h40⟩:=ht5.part3 (lo:=yQ7 l k) (hi:=yQ7 l k+f.width.toNat) (by omega) (by omega)
  rw[show yQ7 l k+f.width.toNat - yQ7 l k=f.width.toNat by omega]at h40
  have ew:IntKind.i64.wrap (((yQ7 l k:Nat):Int)+f.width)=((yQ7 l k+f.width.toNat:Nat):Int):=by rw[zQa (by omega) (by omega)];omega
  rw[ew,zQa (n:=((zXW l k:Nat):Int)+1) (by omega) (by omega)]
  refine⟨bH,w5,e40,_,cl bu 2,_,cl bu 3,?_⟩
  rw[ew]
  have hpart:∀(r:Rec) (p:Int),zXB l p r.v->zJK zQu l r=d->∀v,r.v[k]?=some v->(d.drop (yQ7 l k)).take f.width.toNat=zQu f v:=λr p hR hrow v hv=>xZx hall hR hrow hf hv
  generalize hpt:(d.drop (yQ7 l k)).take f.width.toNat=part at *
  -- behind the value
  have next:∀{nk:Int} {v:Val} {b:Bool} {w':World},nk=(zXW l (k+1):Nat)->zZL v.kind/\zZL v.n->yQg w w2 w.heap.size w1.heap.size (((b0.toNat:Nat):Int) == 42) (vs ++ [v]) w'->
    (∀(r:Rec) (p:Int),zXB l p r.v->zJK zQu l r=d->u3=true->∀v',r.v[k]?=some v'->v=v'/\b=true)->J (((yQ7 l k+f.width.toNat:Nat):Int),nk,b,IntKind.i64.wrap ((k:Int)+1)) w':=λ{nk v b w'} q1 q2 q3 q4=>by
   rw[zQa (by omega) (by omega)]
   refine hJ _ _ aI ⟨by dsimp only;omega,by dsimp only;rw[xQk hall hf],q1,vs ++ [v],by simp[hvl],λx hx=>?_,q3,λr p hR hrow=>?_⟩
   ·rcases List.mem_append.1 hx with hx|hx
    ·exact sU x hx
    ·simp at hx;subst hx;exact q2
   ·obtain⟨h1,h2⟩:=hcond r p hR hrow
    obtain⟨v',hv'⟩:=zQM (l:=r.v) (k:=k) (by have:=hR.1;omega)
    obtain⟨h3,h4⟩:=q4 r p hR hrow h2 v' hv'
    exact⟨by rw[zQB hv',←h1,h3],h4⟩
  -- a value that is there
  have reg:∀{nk:Int},nk=(zXW l (k+1):Nat)->(∀(r:Rec) (p:Int),zXB l p r.v->zJK zQu l r=d->∀v',r.v[k]?=some v'->v'.kind ≠ 0)->
    yKJ (λb w'=>J (((yQ7 l k+f.width.toNat:Nat):Int),nk,b,IntKind.i64.wrap ((k:Int)+1)) w') (some ⟨w1.heap.size,0,none⟩) u3 w4.heap.size bH w5:=λ{nk} hnk hkind=>by
   refine yKY bu hfB h40 λwz aL hz iH=>?_
   have stz:=wS.on hz
   refine Br.of (λq1=>yYP stz (v:=zJe f.kind part) iH (by omega) λw' st'=>next hnk (yKl _ _) st' λr p hR hrow hu v' hv'=>?_) (λq1=>yYP stz (v:=zJe f.kind part) iH (by omega) λw' st'=>next hnk (yKl _ _) st' λr p hR hrow hu v' hv'=>?_)
   ·have:=yVG (hR.2 k f v' hf hv') (hkind r p hR hrow v' hv')
    rw[←hpart r p hR hrow v' hv']at this;exact this
   ·rw[q1]at hu;cases hu
  refine Br.of (λq1=>⟨rfl,by decide,?_⟩) (λq1=>reg (by rw[zVp hf,if_neg (by rw[q1];simp)]) λr p hR hrow v' hv' h0=>?_)
  ·have hm1:zXW l k+1<=(l.filter (·.null)).length:=by
    have h1:=zVp hf
    rw[if_pos q1]at h1
    have h2:=yKp l (k+1)
    omega
   have hq:zXW l k / 8<zXo l:=by unfold zXo;omega
   have e1:((zXW l k:Nat):Int).tdiv 8=((zXW l k / 8:Nat):Int):=zK6 _ 8
   have e2:((zXW l k:Nat):Int).tmod 8=((zXW l k % 8:Nat):Int):=zW8 _ 8
   rw[e1,e2,zQa (n:=((zXW l k / 8:Nat):Int)) (by omega) (by omega),zQa (n:=1+((zXW l k / 8:Nat):Int)) (by omega) (by omega)]
   obtain⟨bf,hbf⟩:=zQM (l:=d) (k:=1+zXW l k / 8) (by omega)
   obtain⟨af,haf,hcf⟩:=ht5.get _ _ hbf
   refine⟨af,haf,by omega,by omega,_,by rw[show(1+((zXW l k / 8:Nat):Int)).toNat=1+zXW l k / 8 by omega];exact hcf,rfl,by decide,by omega,?_⟩
   rw[zXh,bit_p _ bf.toNat_lt _ (Nat.mod_lt _ (by decide))]
   have enk:((zXW l k:Nat):Int)+1=((zXW l (k+1):Nat):Int):=by rw[zVp hf,if_pos q1];omega
   refine Br.of (λq2=>?_) (λq2=>reg enk λr p hR hrow v' hv' h0=>?_)
   ·obtain⟨q,h6,sN⟩:=wS.ex
    refine⟨q,cl h6 1,xJR (v:=noV) wS h6 sN rfl (by omega) λw' st'=>next enk ⟨⟨by decide,by decide⟩,⟨by decide,by decide⟩⟩ st' λr p hR hrow hu v' hv'=>⟨?_,hu⟩⟩
    have hbit:=yKP hR hrow hf hv' q1 hbf
    rw[q2]at hbit
    have h0:v'.kind=0:=by simpa using hbit.symm
    have hRv:=hR.2 k f v' hf hv'
    cases hRv with
    | nil hv hn=>exact hv.symm
    | truth hk hw hv hn=>rw[hv]at h0;exact absurd h0 (by simp)
    | num hk hw hv hn hl=>rw[hv]at h0;exact absurd h0 (by simp)
    | date hk hw hv hn=>rw[hv]at h0;exact absurd h0 (by simp)
    | text hk hw hv hl hb ht=>rw[hv]at h0;exact absurd h0 (by simp)
    | memo hk hw hv hn=>rw[hv]at h0;exact absurd h0 (by simp)
   ·have hbit:=yKP hR hrow hf hv' q1 hbf
    rw[q2,decide_eq_true h0]at hbit;cases hbit
  ·have hRv:=hR.2 k f v' hf hv'
   cases hRv with
   | nil hv hn=>rw[q1]at hn;cases hn
   | truth hk hw hv hn=>rw[hv]at h0;exact absurd h0 (by simp)
   | num hk hw hv hn hl=>rw[hv]at h0;exact absurd h0 (by simp)
   | date hk hw hv hn=>rw[hv]at h0;exact absurd h0 (by simp)
   | text hk hw hv hl hb ht=>rw[hv]at h0;exact absurd h0 (by simp)
   | memo hk hw hv hn=>rw[hv]at h0;exact absurd h0 (by simp)
 ·have aI:k=l.length:=by have:=zQd q;omega
  subst aI
  obtain⟨q,h6,hq⟩:=st.ex
  have hne:=st.ne
  refine⟨_,cl h6 0,q,cl h6 1,zQi st.b4 s46.symm rfl rfl λw5 bu cL oo=>⟨_,cl bu 0,q,cl bu 1,_,u3,vs,q,rfl,?_,hvl,sU,st.pu.andNew cL λi hi=>by omega,λr p hR hrow=>?_⟩⟩
  ·exact(hq.fr cL λi hi=>by have:=hq.2 i hi;omega).low (by omega)
  ·obtain⟨h1,h2⟩:=hcond r p hR hrow
   refine⟨?_,by rw[h1,List.take_of_length_le (by have:=hR.1;omega)],h2⟩
   rw[xJ6 hrow rZ]
   cases r.gone <;> decide
end Go.Proofs.YtaeecpjhfmcliaaGreatDoor
/- Table: the reference's reading of a row's bytes. No condition. -/
set_option maxHeartbeats 2000000
namespace Go.Proofs.YtaeecpjhfmcliaaGreatDoor
open Go.Sh Go.RowKit Tryz
def w84(K:Int->Int->World->Prop)(l0:SV)(n8 n7:Int)(bO:World):Prop:=
 ∃a21:Addr,l0.a=some a21/\0<=n8/\n8<((l0.len:Nat):Int)/\
 ∃sE:Int,bO.cell? ((a21.add (n8.toNat * 4)).add 2)=some (.int .i64 sE)/\K sE n7 bO
end Go.Proofs.YtaeecpjhfmcliaaGreatDoor
/- Table: rows of fields and of records that a call has made; a field's entry, read by both packages. No condition. -/
set_option maxHeartbeats 1000000
namespace Go.Proofs.YtaeecpjhfmcliaaGreatDoor
open Go.Sh Go.RowKit Tryz
theorem u32':prog.underlying 32=some (.slice 129):=by kernel_rfl
theorem info23:(prog.info? 129).map (λi=>(i.zero,i.size,i.bytes))=some (some (.agg #[.string ⟨#[]⟩,.int .i64 0,.int .i64 0,.bool false]),4,40):=by kernel_rfl
theorem u33:prog.underlying 33=some (.slice 67):=by kernel_rfl
theorem info46:(prog.info? 67).map (λi=>(i.zero,i.size,i.bytes))=some (some (.agg #[.bool false,.slice none 0 0]),2,32):=by kernel_rfl
theorem zZK(f:Fld):(zVT f).length=4:=rfl
def zKH(w0 w:World)(s:SV)(l:List Fld):Prop:=zQl w 129 4 s (l.flatMap zVT)/\∀b ∈ zQe s,w0.heap.size<=b
theorem zKH.len{w0 w:World}{s:SV}{l:List Fld}(h:zKH w0 w s l):s.len=l.length:=h.1.len zZK (by decide)
theorem zKH.pu{w0 w w':World}{s:SV}{l:List Fld}(h:zKH w0 w s l)(hp:Pu w w'):zKH w0 w' s l:=⟨h.1.pu hp,h.2⟩
theorem zKH.fr{B:Nat->Prop}{w0 w w':World}{s:SV}{l:List Fld}(h:zKH w0 w s l)(hf:Fr B w w')(hn:∀k ∈ zQe s,¬B k):zKH w0 w' s l:=⟨h.1.fr hf hn,h.2⟩
theorem zKH.nil(w0 w:World):zKH w0 w ⟨none,0,0⟩ []:=⟨zQl.nil w 129 4,by simp[zQe]⟩
theorem zKH.low{w0 w1 w:World}{s:SV}{l:List Fld}(h:zKH w1 w s l)(hz:w0.heap.size<=w1.heap.size):zKH w0 w s l:=⟨h.1,λb hb=>Nat.le_trans hz (h.2 b hb)⟩
theorem zKH.push {w0 w:World} {s:SV} {l:List Fld} (h:zKH w0 w s l) (hz:w0.heap.size<=w.heap.size) {r:Nat} {f:Fld} {c:Array Value} (hr:w.heap[r]?=some (.cells c 129)) (hc:c=#[.string f.name,.int .i64 f.kind,.int .i64 f.width,.bool f.null]) (hb:l.length<=1000000) :
  ∃(s':SV) (w':World),(Builtin.append_ #[32,32] 32 #[.slice s.a s.len s.cap,.slice (some ⟨r,0,none⟩) 1 1]).run prog w=.ok (.slice s'.a s'.len s'.cap) w'/\zKH w0 w' s' (l ++ [f])/\Fr (· ∈ zQe s) w w':=by
 subst hc
 have h1:=h.len
 obtain⟨s',w',hra,hrow,hf,hblk,_⟩:=zQy (P:=prog) (ty:=32) u32' info23 rfl (by decide) h.1 (A:=some ⟨r,0,none⟩) (m:=1) (c:=1) (news:=zVT f) rfl (λj u hu=>⟨_,rfl,by rw[cl hr];simpa using hu⟩) (λu hu=>by simp[zVT]at hu;rcases hu with rfl|rfl|rfl|rfl <;> rfl) (by omega)
 refine⟨s',w',hra,⟨by simpa using hrow,λb hb=>?_⟩,hf⟩
 rcases hblk b hb with h2|h2
 ·exact h.2 b h2
 ·omega
def F64(l:List Fld):Prop:=∀f ∈ l,zZL f.kind/\zZL f.width
def V64(l:List Val):Prop:=∀v ∈ l,zZL v.kind/\zZL v.n
theorem zKH.rd{w0 w:World}{s:SV}{l:List Fld}(h:zKH w0 w s l)(hb:l.length<=1000000)(o9:F64 l):zX6 w s l:=⟨h.len,h.1.le_cap.1,by have:=h.len;omega,λi f hf=>by
 obtain⟨a,h1,_,c0⟩:=h.1.elem zZK hf (o:=0) rfl
 obtain⟨a1,pT,_,c1⟩:=h.1.elem zZK hf (o:=1) rfl
 obtain⟨a2,h1'',_,c2⟩:=h.1.elem zZK hf (o:=2) rfl
 obtain⟨a3,h1''',_,c3⟩:=h.1.elem zZK hf (o:=3) rfl
 rw[h1]at pT h1'' h1''';cases pT;cases h1'';cases h1'''
 refine⟨a,h1,zVT f,⟨rfl,o9 f (List.mem_of_getElem? hf)⟩,λj v hv=>?_⟩
 rcases j with _|_|_|_|j <;> simp[zVT]at hv
 ·subst hv;exact c0
 ·subst hv;exact c1
 ·subst hv;exact c2
 ·subst hv;exact c3⟩
theorem zJF.rdS{w0 w:World}{s:SV}{l:List Val}(h:zJF w0 w s l)(hb:l.length<=1000000)(o9:V64 l):zX6 w s l:=⟨h.len,h.1.le_cap.1,by have:=h.len;omega,λi f hf=>by
 obtain⟨a,h1,_,c0⟩:=h.1.elem zXA hf (o:=0) rfl
 obtain⟨a1,pT,_,c1⟩:=h.1.elem zXA hf (o:=1) rfl
 obtain⟨a2,h1'',_,c2⟩:=h.1.elem zXA hf (o:=2) rfl
 rw[h1]at pT h1'';cases pT;cases h1''
 refine⟨a,h1,zVA f,⟨rfl,o9 f (List.mem_of_getElem? hf)⟩,λj v hv=>?_⟩
 rcases j with _|_|_|j <;> simp[zVA]at hv
 ·subst hv;exact c0
 ·subst hv;exact c1
 ·subst hv;exact c2⟩
def yK9(x:Bool × SV):List Value:=[.bool x.1,.slice x.2.a x.2.len x.2.cap]
theorem zQS(x:Bool × SV):(yK9 x).length=2:=rfl
theorem zQq{w:World}{e e':TypeId}{sz sz':Nat}{s s':SV}{vs vs':List Value}(h:zQl w e sz s vs)(h':zQl w e' sz' s' vs')(hne:e ≠ e'):∀k ∈ zQe s,¬k ∈ zQe s':=λk hk hk'=>by
 obtain⟨_,rfl|⟨g,cur,h3,h4,_⟩⟩:=h
 ·simp[zQe]at hk
 obtain⟨_,rfl|⟨g',cur',h3',h4',_⟩⟩:=h'
 ·simp[zQe]at hk'
 simp[zQe,h3]at hk
 simp[zQe,h3']at hk'
 subst hk;subst hk'
 rw[h4]at h4'
 simp only[Option.some.injEq,Obj.cells.injEq]at h4'
 exact hne h4'.2.1
def zKb(w0 w:World)(s:SV)(rs:List Rec):Prop:=∃qs:List (Bool × SV),zQl w 67 2 s (qs.flatMap yK9)/\(∀b ∈ zQe s,w0.heap.size<=b)/\qs.length=rs.length/\∀(i:Nat) (r:Rec) (x:Bool × SV),rs[i]?=some r->qs[i]?=some x->x.1=r.gone/\zJF w0 w x.2 r.v
theorem zKb.len{w0 w:World}{s:SV}{rs:List Rec}(h:zKb w0 w s rs):s.len=rs.length:=by
 obtain⟨qs,h1,_,h3,_⟩:=h
 rw[h1.len zQS (by decide),h3]
theorem zKb.own{w0 w:World}{s:SV}{rs:List Rec}(h:zKb w0 w s rs):∀b ∈ zQe s,w0.heap.size<=b:=h.choose_spec.2.1
theorem zKb.pu{w0 w w':World}{s:SV}{rs:List Rec}(h:zKb w0 w s rs)(hp:Pu w w'):zKb w0 w' s rs:=by
 obtain⟨qs,h1,h2,h3,h4⟩:=h
 exact⟨qs,h1.pu hp,h2,h3,λi r x hr hx=>⟨(h4 i r x hr hx).1,(h4 i r x hr hx).2.pu hp⟩⟩
theorem zKb.one {w0 w w':World} {b:Nat} {s:SV} {rs:List Rec} (h:zKb w0 w s rs) (hf:Fr (·=b) w w') (hb:b<w0.heap.size):zKb w0 w' s rs:=by
 obtain⟨qs,h1,h2,h3,h4⟩:=h
 exact⟨qs,h1.fr hf λk hk e=>by have:=h2 k hk;omega,h2,h3,λi r x hr hx=>⟨(h4 i r x hr hx).1,(h4 i r x hr hx).2.fr hf λk hk e=>by have:=(h4 i r x hr hx).2.2 k hk;omega⟩⟩
theorem zKb.low{w0 w1 w:World}{s:SV}{rs:List Rec}(h:zKb w1 w s rs)(hz:w0.heap.size<=w1.heap.size):zKb w0 w s rs:=by
 obtain⟨qs,h1,h2,h3,h4⟩:=h
 exact⟨qs,h1,λb hb=>Nat.le_trans hz (h2 b hb),h3,λi r x hr hx=>⟨(h4 i r x hr hx).1,(h4 i r x hr hx).2.low hz⟩⟩
theorem zKb.nil(w0 w:World):zKb w0 w ⟨none,0,0⟩ []:=⟨[],zQl.nil w 67 2,by simp[zQe],rfl,λi r x hr=>by simp at hr⟩
theorem zKb.push {w0 w:World} {s q:SV} {rs:List Rec} {g:Bool} {vs:List Val} (h:zKb w0 w s rs) (hz:w0.heap.size<=w.heap.size) (hq:zJF w0 w q vs) {r:Nat} {c:Array Value} (hr:w.heap[r]?=some (.cells c 67)) (hc:c=#[.bool g,.slice q.a q.len q.cap]) (hb:rs.length<=1000000) :
  ∃(s':SV) (w':World),(Builtin.append_ #[33,33] 33 #[.slice s.a s.len s.cap,.slice (some ⟨r,0,none⟩) 1 1]).run prog w=.ok (.slice s'.a s'.len s'.cap) w'/\zKb w0 w' s' (rs ++ [⟨g,vs⟩])/\Fr (· ∈ zQe s) w w':=by
 subst hc
 have h1:=h.len
 obtain⟨qs,r1,r2,r3,r4⟩:=h
 obtain⟨s',w',hra,hrow,hf,hblk,_⟩:=zQy (P:=prog) (ty:=33) u33 info46 rfl (by decide) r1 (A:=some ⟨r,0,none⟩) (m:=1) (c:=1) (news:=yK9 (g,q)) rfl (λj u hu=>⟨_,rfl,by rw[cl hr];simpa[yK9] using hu⟩) (λu hu=>by simp[yK9]at hu;rcases hu with rfl|rfl <;> rfl) (by omega)
 refine⟨s',w',hra,⟨qs ++ [(g,q)],by simpa using hrow,λb hb=>?_,by simp[r3],λi rr x jo hx=>?_⟩,hf⟩
 ·rcases hblk b hb with h2|h2
  ·exact r2 b h2
  ·omega
 ·rcases Nat.lt_trichotomy i rs.length with hi|hi|hi
  ·rw[List.getElem?_append_left hi]at jo
   rw[List.getElem?_append_left (by omega)]at hx
   obtain⟨e1,e2⟩:=r4 i rr x jo hx
   exact⟨e1,e2.fr hf (zQq e2.1 r1 (by decide))⟩
  ·subst hi
   rw[List.getElem?_append_right (Nat.le_refl _),Nat.sub_self]at jo
   rw[←r3,List.getElem?_append_right (Nat.le_refl _),Nat.sub_self]at hx
   simp at jo hx;subst jo hx
   exact⟨rfl,hq.fr hf (zQq hq.1 r1 (by decide))⟩
  ·rw[List.getElem?_eq_none (by simp;omega)]at jo;cases jo
def R64(rs:List Rec):Prop:=∀r ∈ rs,V64 r.v/\r.v.length<=1000000
theorem zKb.rd{w0 w:World}{s:SV}{rs:List Rec}(h:zKb w0 w s rs)(hb:rs.length<=1000000)(o9:R64 rs):zX6 w s rs:=by
 have hl:=h.len
 obtain⟨qs,r1,r2,r3,r4⟩:=h
 refine⟨hl,r1.le_cap.1,by omega,λi r hr=>?_⟩
 obtain⟨x,hx⟩:=zQM (l:=qs) (k:=i) (by have:=(List.getElem?_eq_some_iff.1 hr).1;omega)
 obtain⟨e1,e2⟩:=r4 i r x hr hx
 obtain⟨a,h1,_,c0⟩:=r1.elem zQS hx (o:=0) rfl
 obtain⟨a1,pT,_,c1⟩:=r1.elem zQS hx (o:=1) rfl
 rw[h1]at pT;cases pT
 obtain⟨q1,q2⟩:=o9 r (List.mem_of_getElem? hr)
 refine⟨a,h1,_,⟨x.2,rfl,e2.rdS q2 q1⟩,λj v hv=>?_⟩
 rcases j with _|_|j <;> simp at hv
 ·subst hv;rw[←e1];exact c0
 ·subst hv;exact c1
def yQc(l:List UInt8):List UInt8:=(l.reverse.dropWhile (· == 0)).reverse
theorem xYk(s:ByteArray)(hs:s.size<=140737488355328)(w:World):Calls prog 119 #[.string s,.string ⟨#[0]⟩] w λe w'=>e=.returned (.string (bs (yQc s.data.toList)))/\Pu w w':=
 (Any.strings_TrimRight_one Tryz.lays162 s 0 (by decide) w (by omega)).mono λe w' ⟨h1,h2⟩=>⟨h1,h2 ▸ Pu.refl _⟩
theorem zWq(l:List UInt8)(hl:∀b ∈ l,b ≠ 0)(j:Nat):yQc (l ++ List.replicate j 0)=l:=by
 unfold yQc
 rw[List.reverse_append,List.reverse_replicate]
 have e1:∀(j:Nat) (x:List UInt8),(List.replicate j 0 ++ x).dropWhile (· == 0)=x.dropWhile (· == 0):=by
  intro j x
  induction j with
  | zero=>rfl
  | succ j ih=>rw[List.replicate_succ,List.cons_append,List.dropWhile_cons];simp only[beq_self_eq_true,if_true];exact ih
 rw[e1]
 have e2:l.reverse.dropWhile (· == 0)=l.reverse:=by
  cases h:l.reverse with
  | nil=>rfl
  | cons a r=>
   have ha:a ∈ l:=by rw[←List.mem_reverse,h];simp
   rw[List.dropWhile_cons,if_neg (by simpa using hl a ha)]
 rw[e2,List.reverse_reverse]
theorem xJd(l:List UInt8):(yQc l).length<=l.length:=by
 unfold yQc
 have h:=List.IsSuffix.length_le (List.dropWhile_suffix (· == (0:UInt8)) (l:=l.reverse))
 simpa using h
theorem zVf{f:Fld}(h:zQn f=true):∀b ∈ f.name.data.toList,b ≠ 0:=λb hb=>by
 unfold zQn zZx at h
 simp only[Bool.and_eq_true]at h
 have h1:=List.all_eq_true.1 h.1.1.2 b hb
 intro e;subst e;revert h1;decide
theorem zWC{n:Int}(h:0<=n/\n<=255):(((zZD n).toNat:Nat):Int)=n:=by
 unfold zZD
 have:(UInt8.ofNat (n % 256).toNat).toNat=(n % 256).toNat:=by simp;omega
 rw[this];omega
theorem zWg{f:Fld}(hf:zQn f=true){d:List UInt8}(hd:zQK f=d):d.take 10=f.name.data.toList ++ List.replicate (10 - f.name.size) 0/\d[10]?=some (zVl f.kind)/\d[11]?=some (zZD f.width)/\d[12]?=some (xX1 f.null):=by
 obtain⟨_,oC,_⟩:=zXa hf
 have hl:(f.name.data.toList ++ List.replicate (10 - f.name.size) (0:UInt8)).length=10:=by rw[List.length_append,zQ3,List.length_replicate];omega
 subst hd
 unfold zQK
 refine⟨?_,?_,?_,?_⟩
 ·rw[List.take_append_of_le_length (by omega),List.take_of_length_le (by omega)]
 ·rw[List.getElem?_append_right (by omega),hl];rfl
 ·rw[List.getElem?_append_right (by omega),hl];rfl
 ·rw[List.getElem?_append_right (by omega),hl];rfl
theorem yJa{k:Int}{K:K5}(h:zXc k=some K):(k,K) ∈ zZo:=AL.get_mem h
theorem yX0:∀p ∈ zZo,∀q ∈ zZo,p.2.letter=q.2.letter->p.1=q.1:=by decide
theorem kQb:∀p ∈ zZo,zZL p.1:=λp hp=>by
 have:∀p ∈ zZo,0<=p.1/\p.1<=5:=by decide
 have:=this p hp
 exact⟨by omega,by omega⟩
def KindSo (b:UInt8) (kd:Int) (todo:List (Int × K5)):Prop:=(∀p ∈ zZo,p.2.letter=((b.toNat:Nat):Int)->p ∈ todo∨kd=p.1)/\(kd=0∨∃p ∈ zZo,p.2.letter=((b.toNat:Nat):Int)/\kd=p.1)
theorem yJm{w:World}{t:SV}{d:List UInt8}(ht:ByV w t d)(hd:d.length=16):Calls prog 160 #[.slice t.a t.len t.cap] w λe w'=>∃f':Fld,e=.returned (yQb f')/\zZL f'.kind/\zZL f'.width/\f'.name.size<=10/\Pu w w'/\∀f,zQn f=true->zQK f=d->f'=f:=by
 have htl:=ht.len
 have htc:=ht.cap
 obtain⟨dS,oC⟩:=zQM (l:=d) (k:=10) (by omega)
 obtain⟨qb,qH⟩:=zQM (l:=d) (k:=11) (by omega)
 obtain⟨cM,mY⟩:=zQM (l:=d) (k:=12) (by omega)
 have fY:=dS.toNat_lt
 have cF:=qb.toNat_lt
 refine yV2 _ w _ (alB λw1 aq ay=>zQc λw2 ar _=>?_)
 have aF:=aq.trans ar
 obtain⟨dV,ha11,hc11⟩:=(ht.pu aF).get _ _ qH
 obtain⟨kF,ha12,hc12⟩:=(ht.pu aF).get _ _ mY
 have hsub:∀{wz},Pu w2 wz->(convert 22 9 (.slice (if t.cap=0 then t.a else t.a.map (λx=>x.add (0 * 1))) ((10:Int).toNat - 0) (t.cap - 0))).run prog wz=.ok (.string (bs (d.take 10))) wz:=λ{wz} hz=>by
  have h1:=(ht.pu (aF.trans hz)).sub (lo:=0) (hi:=10) (by omega) (by omega)
  rw[List.drop_zero]at h1
  exact yZX h1
 have hl10:(bs (d.take 10)).size=10:=by rw[zQ8,List.length_take];omega
 have trim:∀wz,Calls prog 119 #[.string (bs (d.take 10)),.string (⟨#[0]⟩:ByteArray)] wz λe w'=>e=.returned (.string (bs (yQc (d.take 10))))/\Pu wz w':=λwz=>by
  have:=xYk (bs (d.take 10)) (by omega) wz
  rw[zQN]at this;exact this
 have hnm:(bs (yQc (d.take 10))).size<=10:=by
  have:=xJd (d.take 10)
  rw[List.length_take]at this
  rw[zQ8];omega
 have r2lt:w.heap.size<w1.heap.size:=zQx ay
 have z2:=ar.size
 -- behind the variable's first values
 have main:∀{wz:World} {r3:Nat},Pu w2 wz->w2.heap.size<=r3->wz.heap[r3]?=some (.cells #[.string (bs (yQc (d.take 10))),.int .i64 0,.int .i64 (IntKind.i64.wrap ((qb.toNat:Nat):Int)),.bool (((cM.toNat:Nat):Int) == 1)] 129)->
   Calls prog 145 #[] wz λe dU=>∃rm:Option Nat,e=.returned (.map rm)/\∃nN:Option Addr,∃dD:World,(Instr.range 176 (.map rm)).run prog dU=.ok (.pointer nN) dD/\
    yXL (λe w'=>∃f':Fld,e=.returned (yQb f')/\zZL f'.kind/\zZL f'.width/\f'.name.size<=10/\Pu w w'/\∀f,zQn f=true->zQK f=d->f'=f) t (some (⟨w.heap.size,0,none⟩:Addr)) (some (⟨r3,0,none⟩:Addr)) nN [] dD:=λ{wz r3} hz hr3 br=>by
  rw[zQa (n:=((qb.toNat:Nat):Int)) (by omega) (by omega)]at br
  refine(zWZ wz).mono ?_
  rintro e w3 ⟨m,rfl,hm,hml,ax⟩
  obtain⟨w4,e4,hit4,aK,xF⟩:=hm.range (t:=176) xYD
  refine⟨some m,rfl,_,w4,e4,?_⟩
  have b3:=(ax.trans aK).blk br
  have l3:r3<wz.heap.size:=zQx br
  have z3:=ax.size
  have zz:=hz.size
  have p4:Pu w2 w4:=(hz.trans ax).trans aK
  refine xJu (σ:=Unit) zZo.length (λn _ w'=>∃(todo:List (Int × K5)) (kd:Int),todo.length=n/\(∀p ∈ todo,p ∈ zZo)/\zZb w' yWS zY4 w3.heap.size m zZo todo/\KindSo dS kd todo/\w4.heap.size<=w'.heap.size/\Pu w2 w'/\
   w'.heap[r3]?=some (.cells #[.string (bs (yQc (d.take 10))),.int .i64 kd,.int .i64 ((qb.toNat:Nat):Int),.bool (((cM.toNat:Nat):Int) == 1)] 129)) ⟨zZo,0,rfl,λp hp=>hp,hit4,⟨λp hp _=>.inl hp,.inl rfl⟩,Nat.le_refl _,p4,b3⟩ ?_
  rintro n J _ w5 ⟨todo,kd,hn,hall,hit,⟨hk1,aI⟩,hz5,aU,bu⟩ hJ
  rcases hit.next (P:=prog) 0 with⟨hnil,hr⟩|⟨p,hpm,w6,hr,iN,xI,hit6,hen⟩
  ·refine .inl ⟨w5,hr,?_⟩
   subst hnil
   refine⟨_,cl bu 0,_,cl bu 1,_,cl bu 2,_,cl bu 3,zQi (aU.blk (ar.blk ay)) s23.symm rfl rfl λw6 fV iN xI=>⟨_,cl fV 0,_,cl fV 1,_,cl fV 2,_,cl fV 3,⟨bs (yQc (d.take 10)),kd,((qb.toNat:Nat):Int),((cM.toNat:Nat):Int) == 1⟩,rfl,?_,⟨by show _<=((qb.toNat:Nat):Int);omega,by show((qb.toNat:Nat):Int)<=_;omega⟩,hnm,(aF.trans aU).andNew iN λi hi=>by omega,λf hf hd2=>?_⟩⟩
   ·rcases aI with h|⟨p,hp,_,h⟩
    ·show zZL kd;rw[h];exact⟨by decide,by decide⟩
    ·show zZL kd;rw[h];exact kQb p hp
   ·obtain⟨e1,e2,e3,e4'⟩:=zWg hf hd2
    obtain⟨_,_,K,hK,hKl⟩:=zXa hf
    rw[oC]at e2;rw[qH]at e3;rw[mY]at e4'
    have e2:=Option.some.inj e2
    have e3:=Option.some.inj e3
    have e4':=Option.some.inj e4'
    have hwf:=zXq hf
    rcases hk1 (f.kind,K) (yJa hK) (by rw[e2];exact hKl)with h|h
    ·cases h
    obtain⟨fn,fk,fw,fnl⟩:=f
    simp only at *
    congr 1
    ·rw[e1,zWq _ (zVf hf),yJG]
    ·rw[e3];exact zWC (by omega)
    ·rw[e4'];cases fnl <;> decide
  ·refine .inr ⟨_,_,w6,hr,_,_,w6,hen,?_⟩
   simp only[xYZ,zY4,xY5,dHd_mk,xY3]
   have fV:=iN.blk bu (show ¬r3=w3.heap.size by omega)
   have bC:Pu w2 w6:=aU.andNew iN λi hi=>by omega
   refine yQk rfl s102.symm (xYU rfl rfl) λw7 cH hs7 j0=>zQc λw8 cj _=>?_
   have p8:=(bC.trans cH).trans cj
   obtain⟨eE,sV,sW⟩:=(ht.pu (aF.trans p8)).get _ _ oC
   have b8:=(cH.trans cj).blk fV
   have hit8:=hit6.fr (Fr.pu (cH.trans cj):Fr (λ_=>False) w6 w8) (λh=>h) (λh=>h)
   have hlen:=AL.length_del hpm hit.nodup
   have hperm:=AL.perm_del hpm hit.nodup
   have vW:∀q ∈ AL.del todo p.1,q ∈ zZo:=λq hq=>hall q (hperm.symm.subset (List.mem_cons_of_mem _ hq))
   have z6:=xI
   have z78:=(cH.trans cj).size
   refine⟨_,cl0 (cj.blk j0),eE,sV,by omega,by omega,_,sW,Br.of (λq=>?_) (λq=>?_)⟩
   ·have hq:p.2.letter=((dS.toNat:Nat):Int):=zQE q
    show st1 ((⟨r3,0,none⟩:Addr).add 1) _ w8 _
    rw[zQr]
    refine zQt b8 (by simp) λw9 hw9 oq=>?_
    have o6:Fr (·=r3) w8 w9:=by rw[hw9];exact Fr.cell w8 _ _ _
    have z9:w9.heap.size=w8.heap.size:=by rw[hw9];simp
    refine hJ _ () w9 (by omega) ⟨AL.del todo p.1,p.1,rfl,vW,hit8.fr o6 (by omega) (by omega),⟨λq' hq' hl'=>.inr (yX0 p (hall p hpm) q' hq' (by rw[hq,hl'])),.inr ⟨p,hall p hpm,hq,rfl⟩⟩,by omega,p8.andNew o6 λi hi=>by omega,oq⟩
   ·have hq:p.2.letter ≠ ((dS.toNat:Nat):Int):=zQm q
    refine hJ _ () w8 (by omega) ⟨AL.del todo p.1,kd,rfl,vW,hit8,⟨λq' hq' hl'=>?_,aI⟩,by omega,p8,b8⟩
    rcases hk1 q' hq' hl' with h|h
    ·rcases List.mem_cons.1 (hperm.subset h)with h|h
     ·subst h;exact absurd hl' hq
     ·exact .inl h
    ·exact .inr h
 refine⟨λu=>Pu w2 u,Pu.refl _,by omega,by omega,by omega,dV,ha11,by omega,by omega,_,λu hu=>hu.cell hc11,kF,ha12,by omega,by omega,_,λu hu=>hu.cell hc12,⟨bs (d.take 10),w2,hsub (Pu.refl _),Pu.refl _,(trim w2).mono ?_,alB λw3 ax br=>⟨ax,(trim w3).mono ?_⟩⟩,alB λw3 ax br=>⟨ax,bs (d.take 10),w3,hsub ax,ax,(trim w3).mono ?_⟩⟩
 ·rintro e w3 ⟨rfl,ax⟩
  exact⟨_,rfl,ax,alB λw4 aK dx=>⟨ax.trans aK,zQi dx s23.symm rfl rfl λw5 bu cL oo=>main ((ax.trans aK).andNew cL λi hi=>by have:=ax.size;omega) (ax.size) bu⟩⟩
 ·rintro e w4 ⟨rfl,aK⟩
  exact⟨_,rfl,ax.trans aK,zQi (aK.blk br) s23.symm rfl rfl λw5 bu cL oo=>main ((ax.trans aK).andNew cL λi hi=>by omega) (Nat.le_refl _) bu⟩
 ·rintro e w4 ⟨rfl,aK⟩
  exact⟨_,rfl,ax.trans aK,zQi (aK.blk br) s23.symm rfl rfl λw5 bu cL oo=>main ((ax.trans aK).andNew cL λi hi=>by omega) (Nat.le_refl _) bu⟩
end Go.Proofs.YtaeecpjhfmcliaaGreatDoor
/- Table: parts of a table's bytes; a table that a call makes. No condition. -/
set_option maxHeartbeats 1000000
namespace Go.Proofs.YtaeecpjhfmcliaaGreatDoor
open Go.Sh Go.RowKit Tryz
theorem yKa{l:List Fld}(h:l.all zQn=true):(l.flatMap zQK).length=16 * l.length:=by
 induction l with
 | nil=>rfl
 | cons f l ih=>
  rw[List.flatMap_cons,List.length_append,zZu (zXa (List.all_eq_true.1 h f (by simp))).2.1,ih (List.all_eq_true.2 λg hg=>List.all_eq_true.1 h g (by simp[hg])),List.length_cons]
  omega
def zVd(u:Tbl):List UInt8:=[67,zZD u.page] ++ zVF u.recs.length 4 ++ zVF (13+16 * u.fields.length) 2 ++ zVF (zXK u.fields).toNat 2 ++ [zZD u.fields.length,0]
theorem zWB(u:Tbl):(zVd u).length=12:=by unfold zVd;simp[zXm]
theorem yZm(u:Tbl):zQj u=zVd u ++ (u.fields.flatMap zQK ++ ([13] ++ (u.recs.flatMap (zJK zQu u.fields) ++ [26]))):=by
 unfold zQj zJu zVd;simp only[List.append_assoc]
theorem zW2{u:Tbl}{d:List UInt8}(hd:zQj u=d):d[0]?=some 67/\d[1]?=some (zZD u.page)/\(d.drop 2).take 4=zVF u.recs.length 4/\d[10]?=some (zZD u.fields.length):=by
 have hl:=zXm u.recs.length 4
 have h2:=zXm (13+16 * u.fields.length) 2
 have h3:=zXm (zXK u.fields).toNat 2
 rw[←hd,yZm]
 refine⟨rfl,rfl,?_,?_⟩
 ·unfold zVd
  simp only[List.append_assoc,List.cons_append,List.nil_append,List.drop_succ_cons,List.drop_zero]
  rw[List.take_append_of_le_length (by omega),List.take_of_length_le (by omega)]
 ·rw[List.getElem?_append_left (by rw[zWB];omega)]
  unfold zVd
  rw[List.getElem?_append_right (by simp[zXm])]
  simp[zXm]
theorem zYF{u:Tbl}(ho:zJc u){d:List UInt8}(hd:zQj u=d):(d.length:Int)=13+16 * (u.fields.length:Int)+(u.recs.length:Int) * zXK u.fields+1:=by
 have h1:=zVP ho u.recs.length (Nat.le_refl _)
 rw[List.take_length]at h1
 have h2:=zWA ho
 rw[←hd]
 unfold zQj
 rw[List.length_append,List.length_append,List.length_singleton]
 omega
theorem zYt {u:Tbl} (ho:zJc u) {d:List UInt8} (hd:zQj u=d) {k:Nat} {f:Fld} (hf:u.fields[k]?=some f):(d.drop (12+16 * k)).take 16=zQK f:=by
 have hk:=(List.getElem?_eq_some_iff.1 hf).1
 have hall:(u.fields.take k).all zQn=true:=List.all_eq_true.2 λg hg=>List.all_eq_true.1 ho.all g (List.mem_of_mem_take hg)
 have h1:=yKa hall
 rw[List.length_take]at h1
 have ja:=zZu (zXa (List.all_eq_true.1 ho.all f (List.mem_of_getElem? hf))).2.1
 have e:u.fields.flatMap zQK=(u.fields.take k).flatMap zQK ++ (zQK f ++ (u.fields.drop (k+1)).flatMap zQK):=by
  rw[←List.flatMap_cons,←zXU hf,←List.flatMap_append,List.take_append_drop]
 have hl:(zVd u ++ (u.fields.take k).flatMap zQK).length=12+16 * k:=by rw[List.length_append,zWB,h1];omega
 rw[←hd,yZm,e,List.append_assoc,←List.append_assoc (zVd u),List.drop_append,List.drop_eq_nil_of_le (by omega),hl,Nat.sub_self,List.drop_zero,List.nil_append,List.append_assoc,List.take_append_of_le_length (by omega),List.take_of_length_le (by omega)]
theorem bytes_row {u:Tbl} (ho:zJc u) {d:List UInt8} (hd:zQj u=d) {k:Nat} {r:Rec} (hr:u.recs[k]?=some r):(d.drop (13+16 * u.fields.length+(zXK u.fields).toNat * k)).take (zXK u.fields).toNat=zJK zQu u.fields r:=by
 have hk:=(List.getElem?_eq_some_iff.1 hr).1
 have vR:0<=zXK u.fields:=by have:=zJk (WOk.of ho.all);unfold zXK;omega
 have h1:=zVP ho k (by omega)
 have h2:=zWA ho
 have h3:=zKD ho.all (ho.recs r (List.mem_of_getElem? hr))
 have e:u.recs.flatMap (zJK zQu u.fields)=(u.recs.take k).flatMap (zJK zQu u.fields) ++ (zJK zQu u.fields r ++ (u.recs.drop (k+1)).flatMap (zJK zQu u.fields)):=by
  rw[←List.flatMap_cons,←zXU hr,←List.flatMap_append,List.take_append_drop]
 have hm:(((zXK u.fields).toNat * k:Nat):Int)=(k:Int) * zXK u.fields:=by
  rw[Int.natCast_mul,Int.toNat_of_nonneg vR,Int.mul_comm]
 have hl:(zJu u ++ (u.recs.take k).flatMap (zJK zQu u.fields)).length=13+16 * u.fields.length+(zXK u.fields).toNat * k:=by rw[List.length_append,h2];omega
 rw[←hd]
 unfold zQj
 rw[e,←List.append_assoc (zJu u),List.append_assoc,List.drop_append,List.drop_eq_nil_of_le (by omega),hl,Nat.sub_self,List.drop_zero,List.nil_append,List.append_assoc,List.take_append_of_le_length (by omega),List.take_of_length_le (by omega)]
structure zJn(w0 w:World)(t:Tbl)(f q:SV):Prop where
 fs:zKH w0 w f t.fields
 rs:zKb w0 w q t.recs
theorem zJn.pu{w0 w w':World}{t:Tbl}{f q:SV}(h:zJn w0 w t f q)(hp:Pu w w'):zJn w0 w' t f q:=⟨h.fs.pu hp,h.rs.pu hp⟩
theorem zJn.low{w0 w1 w:World}{t:Tbl}{f q:SV}(h:zJn w1 w t f q)(hz:w0.heap.size<=w1.heap.size):zJn w0 w t f q:=⟨h.fs.low hz,h.rs.low hz⟩
theorem zJn.one {w0 w w':World} {b:Nat} {t:Tbl} {f q:SV} (h:zJn w0 w t f q) (hf:Fr (·=b) w w') (hb:b<w0.heap.size):zJn w0 w' t f q:=⟨h.fs.fr hf λk hk e=>by have:=h.fs.2 k hk;omega,h.rs.one hf hb⟩
structure yXG(t:Tbl):Prop where
 page:zZL t.page
 f64:F64 t.fields
 r64:R64 t.recs
 fl:t.fields.length<=255
 rl:t.recs.length<=300
 nm:∀f ∈ t.fields,f.name.size<=10
theorem zJn.rd{w0 w:World}{t:Tbl}{f q:SV}(h:zJn w0 w t f q)(hn:yXG t):zXz w t f q:=⟨hn.page,h.fs.rd (by have:=hn.fl;omega) hn.f64,h.rs.rd (by have:=hn.rl;omega) hn.r64⟩
theorem yXG.lim{t:Tbl}(hn:yXG t):Lim.ok t.fields:=λf hf=>by
 have:=hn.nm f hf
 show f.name.size<=140737488355328
 omega
theorem yXG.zero:yXG ⟨0,[],[]⟩:=⟨⟨by decide,by decide⟩,λf hf=>by simp at hf,λr hr=>by simp at hr,by simp,by simp,λf hf=>by simp at hf⟩
theorem s35:zX9 prog 35=3:=by kernel_rfl
structure zKM(w0 wr:World)(r2 r4:Nat)(t:Tbl)(w:World):Prop where
 ex:∃f q:SV,w.heap[r4]?=some (.cells #[.int .i64 t.page,.slice f.a f.len f.cap,.slice q.a q.len q.cap] 35)/\zJn wr w t f q
 b2:w.heap[r2]?=some (.cells #[.int .i64 0,.slice none 0 0,.slice none 0 0] 35)
 sz:wr.heap.size<=w.heap.size
 pu:Pu w0 w
 l2:r2<wr.heap.size
 l4:r4<wr.heap.size
 ne:r2 ≠ r4
 z2:w0.heap.size<=r2
 z4:w0.heap.size<=r4
theorem zKM.on{w0 wr w w':World}{r2 r4:Nat}{t:Tbl}(h:zKM w0 wr r2 r4 t w)(hp:Pu w w'):zKM w0 wr r2 r4 t w':=by
 obtain⟨f,q,h1,h2⟩:=h.ex
 exact⟨⟨f,q,hp.blk h1,h2.pu hp⟩,hp.blk h.b2,Nat.le_trans h.sz hp.size,h.pu.trans hp,h.l2,h.l4,h.ne,h.z2,h.z4⟩
theorem zKM.putF {w0 wr w:World} {r2 r4 r:Nat} {t:Tbl} (h:zKM w0 wr r2 r4 t w) {f q:SV} (h4:w.heap[r4]?=some (.cells #[.int .i64 t.page,.slice f.a f.len f.cap,.slice q.a q.len q.cap] 35)) (ho:zJn wr w t f q) {x:Fld} (hr:w.heap[r]?=some (.cells #[.string x.name,.int .i64 x.kind,.int .i64 x.width,.bool x.null] 129)) (hb:t.fields.length<=1000000) :
  ∃(f':SV) (w1:World),(Builtin.append_ #[32,32] 32 #[.slice f.a f.len f.cap,.slice (some ⟨r,0,none⟩) 1 1]).run prog w=.ok (.slice f'.a f'.len f'.cap) w1/\
   ∀K:World->Prop,(∀w',zKM w0 wr r2 r4 ⟨t.page,t.fields ++ [x],t.recs⟩ w'->K w')->st1 ((⟨r4,0,none⟩:Addr).add 1) (.slice f'.a f'.len f'.cap) w1 K:=by
 obtain⟨f',w1,e1,r1,f1⟩:=ho.fs.push h.sz hr rfl hb
 have n4:¬r4 ∈ zQe f:=λhc=>by have:=ho.fs.2 _ hc;have:=h.l4;omega
 have n2:¬r2 ∈ zQe f:=λhc=>by have:=ho.fs.2 _ hc;have:=h.l2;omega
 refine⟨f',w1,e1,λK hK=>?_⟩
 rw[zQr,Nat.zero_add]
 refine zQt (f1.blk h4 n4) (by simp) λwx ex hbx=>hK wx ?_
 have fx:Fr (·=r4) w1 wx:=by rw[ex];exact Fr.cell w1 _ _ _
 have zx:wx.heap.size=w1.heap.size:=by rw[ex];simp
 have z1:=f1.size
 have hne:=h.ne
 have hsz:=h.sz
 have hz4:=h.z4
 have hl4:=h.l4
 have rs1:zKb wr w1 q t.recs:=by
  obtain⟨qs,a1,a2,a3,a4⟩:=ho.rs
  exact⟨qs,a1.fr f1 (zQq a1 ho.fs.1 (by decide)),a2,a3,λi r' x' hr' hx'=>⟨(a4 i r' x' hr' hx').1,(a4 i r' x' hr' hx').2.fr f1 (zQq (a4 i r' x' hr' hx').2.1 ho.fs.1 (by decide))⟩⟩
 refine⟨⟨f',q,hbx,⟨r1.fr fx λi hi=>by have:=r1.2 i hi;omega,rs1.one fx hl4⟩⟩,fx.blk (f1.blk h.b2 n2) (by omega),by omega,?_,h.l2,h.l4,h.ne,h.z2,h.z4⟩
 have p1:Pu w0 w1:=h.pu.andNew f1 λi hi=>by have:=ho.fs.2 i hi;omega
 exact p1.andNew fx λi hi=>by omega
theorem zKM.putR {w0 wr w:World} {r2 r4 r:Nat} {t:Tbl} (h:zKM w0 wr r2 r4 t w) {f q qv:SV} (h4:w.heap[r4]?=some (.cells #[.int .i64 t.page,.slice f.a f.len f.cap,.slice q.a q.len q.cap] 35)) (ho:zJn wr w t f q) {g:Bool} {vs:List Val} (hv:zJF wr w qv vs) (hr:w.heap[r]?=some (.cells #[.bool g,.slice qv.a qv.len qv.cap] 67)) (hb:t.recs.length<=1000000) :
  ∃(q':SV) (w1:World),(Builtin.append_ #[33,33] 33 #[.slice q.a q.len q.cap,.slice (some ⟨r,0,none⟩) 1 1]).run prog w=.ok (.slice q'.a q'.len q'.cap) w1/\
   ∀K:World->Prop,(∀w',zKM w0 wr r2 r4 ⟨t.page,t.fields,t.recs ++ [⟨g,vs⟩]⟩ w'->K w')->st1 ((⟨r4,0,none⟩:Addr).add 2) (.slice q'.a q'.len q'.cap) w1 K:=by
 obtain⟨q',w1,e1,r1,f1⟩:=ho.rs.push h.sz hv hr rfl hb
 have n4:¬r4 ∈ zQe q:=λhc=>by have:=ho.rs.own _ hc;have:=h.l4;omega
 have n2:¬r2 ∈ zQe q:=λhc=>by have:=ho.rs.own _ hc;have:=h.l2;omega
 refine⟨q',w1,e1,λK hK=>?_⟩
 rw[zQr,Nat.zero_add]
 refine zQt (f1.blk h4 n4) (by simp) λwx ex hbx=>hK wx ?_
 have fx:Fr (·=r4) w1 wx:=by rw[ex];exact Fr.cell w1 _ _ _
 have zx:wx.heap.size=w1.heap.size:=by rw[ex];simp
 have z1:=f1.size
 have hne:=h.ne
 have hsz:=h.sz
 have hz4:=h.z4
 have hl4:=h.l4
 have own:=ho.rs.own
 have fs1:zKH wr w1 f t.fields:=by
  obtain⟨qs,a1,a2,a3,a4⟩:=ho.rs
  exact ho.fs.fr f1 (zQq ho.fs.1 a1 (by decide))
 refine⟨⟨f,q',hbx,⟨fs1.fr fx λi hi=>by have:=fs1.2 i hi;omega,r1.one fx hl4⟩⟩,fx.blk (f1.blk h.b2 n2) (by omega),by omega,?_,h.l2,h.l4,h.ne,h.z2,h.z4⟩
 have p1:Pu w0 w1:=h.pu.andNew f1 λi hi=>by have:=own i hi;omega
 exact p1.andNew fx λi hi=>by omega
end Go.Proofs.YtaeecpjhfmcliaaGreatDoor
/- Table: the program's reading of a table's bytes. No condition. -/
set_option maxHeartbeats 2000000
namespace Go.Proofs.YtaeecpjhfmcliaaGreatDoor
open Go.Sh Go.RowKit Tryz
def retT(R:Rt)(r2 r4:Nat)(ok:Bool)(w:World):Prop:=
 zQg (some (⟨r4,0,none⟩:Addr)) λa1=>
 ∃gM:Int,w.cell? (a1.add 0)=some (.int .i64 gM)/\
 ∃bW:SV,w.cell? (a1.add 1)=some (.slice bW.a bW.len bW.cap)/\
 ∃bX:SV,w.cell? (a1.add 2)=some (.slice bX.a bX.len bX.cap)/\
 zQg (some (⟨r2,0,none⟩:Addr)) λa2=>
 stA prog 35 a2 #[.int .i64 gM,.slice bW.a bW.len bW.cap,.slice bX.a bX.len bX.cap] w λw3=>
 zQg (some (⟨r2,0,none⟩:Addr)) λa5=>
 ∃ag:Int,w3.cell? (a5.add 0)=some (.int .i64 ag)/\
 ∃ab:SV,w3.cell? (a5.add 1)=some (.slice ab.a ab.len ab.cap)/\
 ∃ae:SV,w3.cell? (a5.add 2)=some (.slice ae.a ae.len ae.cap)/\
 R (.returned (.tuple #[.agg #[.int .i64 ag,.slice ab.a ab.len ab.cap,.slice ae.a ae.len ae.cap],.bool ok])) w3
theorem retT_c {R:Rt} {w0 wr w:World} {r2 r4:Nat} {t:Tbl} (h:zKM w0 wr r2 r4 t w) (ok:Bool) (hR:∀f q w',zJn wr w' t f q->Pu w0 w'->R (.returned (.tuple #[zWR t f q,.bool ok])) w'):retT R r2 r4 ok w:=by
 obtain⟨f,q,h4,ho⟩:=h.ex
 have hz:=h.z2
 exact⟨_,cl h4 0,f,cl h4 1,q,cl h4 2,zQi h.b2 s35.symm rfl rfl λw5 bu cL oo=>⟨_,cl bu 0,f,cl bu 1,q,cl bu 2,hR f q w5 (ho.one cL h.l2) (h.pu.andNew cL λi hi=>by omega)⟩⟩
def yZP(d:List UInt8)(t:Tbl)(ok:Bool):Prop:=∀u,zQh u=0->zQj u=d->t=u/\ok=true
theorem yJj{w:World}{s:SV}{d:List UInt8}(hb:ByV w s d)(hd:d.length<=1000000000):Calls prog 124 #[.slice s.a s.len s.cap] w λe w'=>∃(t:Tbl) (f q:SV) (ok:Bool),e=.returned (.tuple #[zWR t f q,.bool ok])/\zJn w w' t f q/\yXG t/\Pu w w'/\yZP d t ok:=by
 have hsl:=hb.len
 have hsc:=hb.cap
 refine yVr _ w _ (alB λw1 aq ay=>alB λw2 ar aN=>?_)
 have aF:=aq.trans ar
 have ng:w.heap.size<w1.heap.size:=zQx ay
 have lt2:w1.heap.size<w2.heap.size:=zQx aN
 have cM:=ar.blk ay
 have xH:zKM w w2 w.heap.size w1.heap.size ⟨0,[],[]⟩ w2:=⟨⟨⟨none,0,0⟩,⟨none,0,0⟩,aN,⟨zKH.nil w2 w2,zKb.nil w2 w2⟩⟩,cM,Nat.le_refl _,aF,by omega,lt2,by omega,Nat.le_refl _,by omega⟩
 have ret:∀{t:Tbl} {w':World} (ok:Bool),zKM w w2 w.heap.size w1.heap.size t w'->yXG t->yZP d t ok->retT (λe w'=>∃(t:Tbl) (f q:SV) (ok:Bool),e=.returned (.tuple #[zWR t f q,.bool ok])/\zJn w w' t f q/\yXG t/\Pu w w'/\yZP d t ok) w.heap.size w1.heap.size ok w':=λ{t w'} ok st hn hc=>
  retT_c st ok λf q w'' ho hp=>⟨t,f,q,ok,rfl,ho.low aF.size,hn,hp,hc⟩
 have no:∀{t:Tbl} {ok:Bool},(∀u,zQh u=0->zQj u=d->False)->yZP d t ok:=λh u hv hu=>(h u hv hu).elim
 have hlong:∀u,zQh u=0->zQj u=d->14<=d.length:=λu hv hu=>by
  have ho:=zJc.of hv
  have h1:=zYF ho hu
  have hf:0<u.fields.length:=List.length_pos_iff.2 ho.ne
  have vR:0<=zXK u.fields:=by have:=zJk (WOk.of ho.all);unfold zXK;omega
  have h2:0<=(u.recs.length:Int) * zXK u.fields:=Int.mul_nonneg (by omega) vR
  omega
 refine Br.of (λq=>ret false xH yXG.zero (no λu hv hu=>by have:=hlong u hv hu;have:=zQk q;omega)) (λq=>?_)
 have h14:14<=d.length:=by have:=zQd q;omega
 clear q
 obtain⟨b0,e0⟩:=zQM (l:=d) (k:=0) (by omega)
 obtain⟨b1,e1⟩:=zQM (l:=d) (k:=1) (by omega)
 obtain⟨dS,e10⟩:=zQM (l:=d) (k:=10) (by omega)
 have kU:=hb.pu aF
 obtain⟨a0,ha0,hc0⟩:=kU.get _ _ e0
 obtain⟨a1,xJ,hc1⟩:=kU.get _ _ e1
 refine⟨a0,ha0,by omega,by omega,_,hc0,Br.of (λq=>ret false xH yXG.zero (no λu hv hu=>?_)) (λq=>⟨a1,xJ,by omega,by omega,_,hc1,?_⟩)⟩
 ·have h1:=(zW2 hu).1
  rw[e0]at h1
  have h1:=Option.some.inj h1
  rw[h1]at q;exact zQ1 q rfl
 have n1:=b1.toNat_lt
 have fY:=dS.toNat_lt
 rw[zQa (n:=((b1.toNat:Nat):Int)) (by omega) (by omega)]
 refine zQt aN (by decide) λw3 sQ br=>zQc λw4 aK _=>?_
 have fr3:Fr (·=w1.heap.size) w2 w3:=by rw[sQ];exact Fr.cell w2 _ _ _
 have z3:w3.heap.size=w2.heap.size:=by rw[sQ];simp
 have st4:zKM w w2 w.heap.size w1.heap.size ⟨((b1.toNat:Nat):Int),[],[]⟩ w4:=(⟨⟨⟨none,0,0⟩,⟨none,0,0⟩,br,⟨zKH.nil w2 w3,zKb.nil w2 w3⟩⟩,fr3.blk cM (by omega),by omega,aF.andNew fr3 λi hi=>by omega,by omega,lt2,by omega,Nat.le_refl _,by omega⟩:zKM w w2 w.heap.size w1.heap.size ⟨((b1.toNat:Nat):Int),[],[]⟩ w3).on aK
 obtain⟨eE,sV,sW⟩:=(hb.pu st4.pu).get _ _ e10
 refine⟨λu=>Pu w4 u,Pu.refl _,eE,sV,by omega,by omega,_,λu hu=>hu.cell sW,eE,sV,by omega,by omega,_,λu hu=>hu.cell sW,?_⟩
 rw[zQa (n:=((dS.toNat:Nat):Int)) (by omega) (by omega)]
 refine(yZ5 dS.toNat (by omega) w4).mono ?_
 rintro e w5 ⟨rfl,aU⟩
 have wS:=st4.on aU
 have pg:zZL ((b1.toNat:Nat):Int):=⟨by omega,by omega⟩
 have nice0:yXG ⟨((b1.toNat:Nat):Int),[],[]⟩:=⟨pg,λf hf=>by simp at hf,λr hr=>by simp at hr,by simp,by simp,λf hf=>by simp at hf⟩
 -- what a right table's bytes tell
 have pgu:∀u,zQh u=0->zQj u=d->u.page=((b1.toNat:Nat):Int)/\u.fields.length=dS.toNat:=λu hv hu=>by
  have ho:=zJc.of hv
  obtain⟨_,h1,_,h2⟩:=zW2 hu
  rw[e1]at h1;rw[e10]at h2
  have h1:=Option.some.inj h1
  have h2:=Option.some.inj h2
  have hpg:=ho.page
  unfold zQW at hpg
  simp only[Bool.and_eq_true,decide_eq_true_eq]at hpg
  have ja:=ho.n16
  have e1:=zWC (n:=u.page) (by omega)
  have e2:=zWC (n:=((u.fields.length:Nat):Int)) (by omega)
  rw[h1,h2];omega
 refine⟨_,rfl,aU,Br.of (λq=>ret false wS nice0 (no λu hv hu=>?_)) (λq=>?_)⟩
 ·have h1:=zYF (zJc.of hv) hu
  have h2:=(pgu u hv hu).2
  have vR:0<=zXK u.fields:=by have:=zJk (WOk.of (zJc.of hv).all);unfold zXK;omega
  have h3:0<=(u.recs.length:Int) * zXK u.fields:=Int.mul_nonneg (by omega) vR
  have:=zQk q
  omega
 have hbeg:13+16 * dS.toNat<=d.length:=by have:=zQd q;omega
 clear q
 refine zQw dS.toNat (λk t w'=>t=(k:Int)/\∃fs:List Fld,fs.length=k/\F64 fs/\(∀f ∈ fs,f.name.size<=10)/\zKM w w2 w.heap.size w1.heap.size ⟨((b1.toNat:Nat):Int),fs,[]⟩ w'/\∀u,zQh u=0->zQj u=d->fs=u.fields.take k) ⟨rfl,[],rfl,λf hf=>by simp at hf,λf hf=>by simp at hf,wS,λu _ _=>by simp⟩ ?_
 rintro k J t w6 hk ⟨ht,fs,hfl,wT,hfn,st,hcond⟩ hJ
 obtain rfl:t=(k:Int):=ht
 refine Br.of (λq=>zQc λw7 cH _=>?_) (λq=>?_)
 ·have aI:k<dS.toNat:=by have:=zQk q;omega
  have xK:=st.on cH
  obtain⟨f,qr,h4,ho⟩:=xK.ex
  obtain⟨oY,e58,h58⟩:=(hb.pu xK.pu).part3 (lo:=12+16 * k) (hi:=28+16 * k) (by omega) (by omega)
  rw[show 28+16 * k - (12+16 * k)=16 by omega]at h58
  refine⟨λu=>Pu w7 u,Pu.refl _,f,λu hu=>cl (hu.blk h4) 1,?_⟩
  rw[zQa (n:=16 * (k:Int)) (by omega) (by omega),zQa (n:=12+16 * (k:Int)) (by omega) (by omega),zQa (n:=28+16 * (k:Int)) (by omega) (by omega),show 12+16 * (k:Int)=((12+16 * k:Nat):Int)by omega,show 28+16 * (k:Int)=((28+16 * k:Nat):Int)by omega]
  refine⟨oY,w7,e58,Pu.refl _,(yJm h58 (by rw[List.length_take,List.length_drop];omega)).mono ?_⟩
  rintro e w8 ⟨x,rfl,x1,x2,x3,cj,hx⟩
  refine⟨_,_,_,_,rfl,cj,alB λw9 cI oq=>⟨cj.trans cI,?_⟩⟩
  have st9:=(xK.on cj).on cI
  obtain⟨f',aO,e10',hK⟩:=st9.putF ((cj.trans cI).blk h4) (ho.pu (cj.trans cI)) oq (by show fs.length<=_;omega)
  refine⟨f',aO,e10',hK _ λaR sX=>?_⟩
  rw[zQa (by omega) (by omega)]
  refine hJ _ _ aI ⟨by omega,fs ++ [x],by simp[hfl],λy hy=>?_,λy hy=>?_,sX,λu hv hu=>?_⟩
  ·rcases List.mem_append.1 hy with hy|hy
   ·exact wT y hy
   ·simp at hy;subst hy;exact⟨x1,x2⟩
  ·rcases List.mem_append.1 hy with hy|hy
   ·exact hfn y hy
   ·simp at hy;subst hy;exact x3
  ·obtain⟨g,hg⟩:=zQM (l:=u.fields) (k:=k) (by have:=(pgu u hv hu).2;omega)
   rw[zQB hg,←hcond u hv hu]
   have sk:=zJc.of hv
   rw[hx g (List.all_eq_true.1 sk.all g (List.mem_of_getElem? hg)) (zYt sk hu hg).symm]
 have aI:k=dS.toNat:=by have:=zQd q;omega
 subst aI
 clear hJ J q
 have hfs:∀u,zQh u=0->zQj u=d->fs=u.fields:=λu hv hu=>by
  rw[hcond u hv hu,List.take_of_length_le (by have:=(pgu u hv hu).2;omega)]
 have mI:yXG ⟨((b1.toNat:Nat):Int),fs,[]⟩:=⟨pg,wT,λr hr=>by simp at hr,by show fs.length<=_;omega,by simp,hfn⟩
 obtain⟨f,qr,h4,ho⟩:=st.ex
 refine⟨f,cl h4 1,(zZJ (ho.rd mI).fields mI.lim).mono ?_⟩
 rintro e w7 ⟨rfl,cH⟩
 have xK:=st.on cH
 refine⟨_,rfl,Br.of (λq=>ret false xK mI (no λu hv hu=>?_)) (λq=>zQc λw8 cj _=>?_)⟩
 ·have:=(zJc.of hv).vf
  rw[←hfs u hv hu]at this
  exact zQ1 q this
 have hvf:zQT fs=0:=zQs q
 clear q
 obtain⟨_,hall,_,ja,mV⟩:=zXl hvf
 have hwok:=WOk.of hall
 have hwide:1<=zXK fs:=by have:=zJk hwok;unfold zXK;omega
 have st8:=xK.on cj
 have h48:=(cH.trans cj).blk h4
 have ho8:=ho.pu (cH.trans cj)
 refine⟨f,cl h48 1,by omega,by show 6<=_;omega,by omega,by decide,(zVS (ho8.rd mI).fields hwok).mono ?_⟩
 rintro e w9 ⟨rfl,cI⟩
 have hnum:=(hb.pu (st8.pu.trans cI)).sub (lo:=2) (hi:=6) (by omega) (by omega)
 have hd4:((d.drop 2).take (6 - 2)).length=4:=by rw[List.length_take,List.length_drop];omega
 refine⟨_,rfl,(xZV hnum hd4).mono ?_⟩
 rintro e aO ⟨rfl,dP⟩
 have wU:=(st8.on cI).on dP
 obtain⟨cnt,hcnt⟩:∃cnt,cnt=xXI ((d.drop 2).take (6 - 2)):=⟨_,rfl⟩
 rw[←hcnt]
 have hrl:∀u,zQh u=0->zQj u=d->u.recs.length=cnt:=λu hv hu=>by
  have h1:=(zW2 hu).2.2.1
  have h2:=(zJc.of hv).m300
  rw[hcnt,show 6 - 2=4 from rfl,h1,xZW (by omega)]
 refine⟨_,rfl,Br.of (λq=>ret false wU mI (no λu hv hu=>by have:=hrl u hv hu;have:=(zJc.of hv).m300;have:=zQk q;omega)) (λq=>?_)⟩
 have hc300:cnt<=300:=by have:=zQd q;omega
 clear q
 obtain⟨W,hW⟩:∃W:Nat,zXK fs=(W:Int):=⟨(zXK fs).toNat,by omega⟩
 have hWl:W<=2000:=by omega
 have hWc:W * cnt<=600000:=Nat.mul_le_mul hWl hc300
 have eWc:(W:Int) * (cnt:Int)=((W * cnt:Nat):Int):=by omega
 rw[hW,eWc,zQa (n:=((W * cnt:Nat):Int)) (by omega) (by omega),zQa (n:=((13+16 * dS.toNat:Nat):Int)+((W * cnt:Nat):Int)) (by omega) (by omega),zQa (n:=((13+16 * dS.toNat:Nat):Int)+((W * cnt:Nat):Int)+1) (by omega) (by omega)]
 refine Br.of (λq=>ret false wU mI (no λu hv hu=>?_)) (λq=>?_)
 ·have h1:=zYF (zJc.of hv) hu
  have h2:=(pgu u hv hu).2
  rw[←hfs u hv hu,hW,hrl u hv hu]at h1
  rw[←hfs u hv hu]at h2
  have h3:(cnt:Int) * (W:Int)=((W * cnt:Nat):Int):=by rw[Int.mul_comm];exact eWc
  have:=zQ1 q
  omega
 have hdl:d.length=13+16 * dS.toNat+W * cnt+1:=by have:=zQs q;omega
 clear q
 refine zQw cnt (λk t w'=>t=(k:Int)/\∃rs:List Rec,rs.length=k/\R64 rs/\zKM w w2 w.heap.size w1.heap.size ⟨((b1.toNat:Nat):Int),fs,rs⟩ w'/\∀u,zQh u=0->zQj u=d->rs=u.recs.take k) ⟨rfl,[],rfl,λr hr=>by simp at hr,wU,λu _ _=>by simp⟩ ?_
 rintro k J t aR hk ⟨ht,rs,hrn,hr64,sX,hrc⟩ hJ
 obtain rfl:t=(k:Int):=ht
 have pU:yXG ⟨((b1.toNat:Nat):Int),fs,rs⟩:=⟨pg,wT,hr64,by show fs.length<=_;omega,by show rs.length<=_;omega,hfn⟩
 refine Br.of (λq=>zQc λaM dN _=>?_) (λq=>?_)
 ·have aI:k<cnt:=by have:=zQk q;omega
  have sY:=sX.on dN
  obtain⟨f,qr,h4,ho⟩:=sY.ex
  have hWk:W * k+W<=W * cnt:=by rw[←Nat.mul_succ];exact Nat.mul_le_mul_left W aI
  have eWk:(W:Int) * (k:Int)=((W * k:Nat):Int):=by omega
  have eWk1:(W:Int) * ((k:Int)+1)=((W * k+W:Nat):Int):=by rw[Int.mul_add,eWk];omega
  refine⟨λu=>Pu aM u,Pu.refl _,f,λu hu=>cl (hu.blk h4) 1,?_⟩
  rw[zQa (n:=(k:Int)+1) (by omega) (by omega),eWk,eWk1,zQa (n:=((W * k:Nat):Int)) (by omega) (by omega),zQa (n:=((W * k+W:Nat):Int)) (by omega) (by omega),zQa (n:=((13+16 * dS.toNat:Nat):Int)+((W * k:Nat):Int)) (by omega) (by omega),zQa (n:=((13+16 * dS.toNat:Nat):Int)+((W * k+W:Nat):Int)) (by omega) (by omega)]
  have elo:(((13+16 * dS.toNat:Nat):Int)+((W * k:Nat):Int)).toNat=13+16 * dS.toNat+W * k:=by omega
  have ehi:(((13+16 * dS.toNat:Nat):Int)+((W * k+W:Nat):Int)).toNat=13+16 * dS.toNat+W * k+W:=by omega
  rw[elo,ehi]
  have hpart:∀{wz},Pu aM wz->ByV wz ⟨if s.cap=13+16 * dS.toNat+W * k then s.a else s.a.map (λx=>x.add ((13+16 * dS.toNat+W * k) * 1)),13+16 * dS.toNat+W * k+W - (13+16 * dS.toNat+W * k),s.cap - (13+16 * dS.toNat+W * k)⟩ ((d.drop (13+16 * dS.toNat+W * k)).take W):=λ{wz} hz=>by
   have:=(hb.pu (sY.pu.trans hz)).sub (lo:=13+16 * dS.toNat+W * k) (hi:=13+16 * dS.toNat+W * k+W) (by omega) (by omega)
   rw[show(d.drop (13+16 * dS.toNat+W * k)).take (13+16 * dS.toNat+W * k+W - (13+16 * dS.toNat+W * k))=(d.drop (13+16 * dS.toNat+W * k)).take W by rw[Nat.add_sub_cancel_left]]at this
   exact this
  have hplen:(((d.drop (13+16 * dS.toNat+W * k)).take W).length:Int)=zXK fs:=by rw[List.length_take,List.length_drop,hW];omega
  have hrowu:∀u,zQh u=0->zQj u=d->∀r,u.recs[k]?=some r->zXB fs u.page r.v/\zJK zQu fs r=(d.drop (13+16 * dS.toNat+W * k)).take W:=λu hv hu r hr=>by
   have sk:=zJc.of hv
   have h1:=bytes_row sk hu hr
   have h2:=(pgu u hv hu).2
   have h3:=hfs u hv hu
   rw[h2,←h3,hW,zXh]at h1
   exact⟨by rw[h3];exact sk.recs r (List.mem_of_getElem? hr),h1.symm⟩
  -- behind the row
  have tail:∀{wz:World} {cn:Nat} {g ok:Bool} {vs:List Val} {qv:SV},Pu aM wz->zJF aM wz qv vs->vs.length=fs.length->V64 vs->(∀(r:Rec) (p:Int),zXB fs p r.v->zJK zQu fs r=(d.drop (13+16 * dS.toNat+W * k)).take W->g=r.gone/\vs=r.v/\ok=true)->wz.heap[cn]?=some (.cells #[.bool g,.slice qv.a qv.len qv.cap] 67)->
    Br (!ok) (retT (λe w'=>∃(t:Tbl) (f q:SV) (ok:Bool),e=.returned (.tuple #[zWR t f q,.bool ok])/\zJn w w' t f q/\yXG t/\Pu w w'/\yZP d t ok) w.heap.size w1.heap.size false wz) (
     zQg (some (⟨w1.heap.size,0,none⟩:Addr)) λiJ=>∃fC:SV,wz.cell? (iJ.add 2)=some (.slice fC.a fC.len fC.cap)/\
     ∃gO:Bool,wz.cell? ((⟨cn,0,none⟩:Addr).add 0)=some (.bool gO)/\∃bq:SV,wz.cell? ((⟨cn,0,none⟩:Addr).add 1)=some (.slice bq.a bq.len bq.cap)/\
     alE (.cells #[.bool gO,.slice bq.a bq.len bq.cap] 67) wz λri bG=>∃fD:SV,∃bI:World,(Builtin.append_ #[33,33] 33 #[.slice fC.a fC.len fC.cap,.slice (some ⟨ri,0,none⟩) 1 1]).run prog bG=.ok (.slice fD.a fD.len fD.cap) bI/\
     zQg (some (⟨w1.heap.size,0,none⟩:Addr)) λkH=>st1 (kH.add 2) (.slice fD.a fD.len fD.cap) bI λbO=>J ((k:Int)+1) bO):=λ{wz cn g ok vs qv} hz hv hvl sU hcv ir=>by
   have stz:=sY.on hz
   refine Br.of (λq1=>ret false stz pU (no λu hv hu=>?_)) (λq1=>?_)
   ·obtain⟨r,hr⟩:=zQM (l:=u.recs) (k:=k) (by have:=hrl u hv hu;omega)
    obtain⟨h1,h2⟩:=hrowu u hv hu r hr
    rw[(hcv r u.page h1 h2).2.2]at q1;cases q1
   ·refine⟨qr,cl (hz.blk h4) 2,g,cl ir 0,qv,cl ir 1,alB λaH bn ow=>?_⟩
    obtain⟨q',bo,e14,hK⟩:=(stz.on bn).putR ((hz.trans bn).blk h4) (ho.pu (hz.trans bn)) ((hv.pu bn).low sY.sz) ow (by show rs.length<=_;omega)
    refine⟨q',bo,e14,hK _ λbt st15=>hJ _ _ aI ⟨by omega,rs ++ [⟨g,vs⟩],by simp[hrn],λy hy=>?_,st15,λu hv hu=>?_⟩⟩
    ·rcases List.mem_append.1 hy with hy|hy
     ·exact hr64 y hy
     ·simp at hy;subst hy;exact⟨sU,by show vs.length<=_;omega⟩
    ·obtain⟨r,hr⟩:=zQM (l:=u.recs) (k:=k) (by have:=hrl u hv hu;omega)
     obtain⟨h1,h2⟩:=hrowu u hv hu r hr
     obtain⟨c1,c2,_⟩:=hcv r u.page h1 h2
     rw[zQB hr,←hrc u hv hu,c1,c2]
  refine⟨by omega,by omega,by omega,by omega,(yZB (ho.rd pU).fields hall ja (hpart (Pu.refl _)) hplen).mono ?_,alB λaH bn ow=>⟨bn,(yZB ((ho.pu bn).rd pU).fields hall ja (hpart bn) hplen).mono ?_⟩⟩
  ·rintro e aH ⟨g,ok,vs,qv,rfl,v1,v2,v3,bn,v4⟩
   exact⟨g,qv,ok,rfl,yQk rfl s46.symm rfl λbo oy hs14 iH=>tail (bn.trans oy) (v1.pu oy) v2 v3 v4 iH⟩
  ·rintro e bo ⟨g,ok,vs,qv,rfl,v1,v2,v3,oy,v4⟩
   have lt13:aM.heap.size<aH.heap.size:=zQx ow
   refine⟨g,qv,ok,rfl,zQi (oy.blk ow) s46.symm rfl rfl λbt hb15 hf15 hs15=>tail ((bn.trans oy).andNew hf15 λi hi=>by omega) ((v1.fr hf15 λi hi e=>by have:=v1.2 i hi;omega).low bn.size) v2 v3 v4 hb15⟩
 ·have aI:k=cnt:=by have:=zQd q;omega
  subst aI
  refine ret true sX pU λu hv hu=>⟨?_,rfl⟩
  have h1:=hrc u hv hu
  rw[List.take_of_length_le (by have:=hrl u hv hu;omega)]at h1
  rw[h1,hfs u hv hu,←(pgu u hv hu).1]
end Go.Proofs.YtaeecpjhfmcliaaGreatDoor
/- Table: both packages' reading of a table's bytes. No condition. -/
set_option maxHeartbeats 2000000
namespace Go.Proofs.YtaeecpjhfmcliaaGreatDoor
open Go.Sh Go.RowKit Tryz
def zYq(d:List UInt8)(t:Tbl)(c:Int):Prop:=(c=0/\zQh t=0/\zQj t=d/\∀u,zQh u=0->zQj u=d->t=u)∨(c=11/\t=⟨0,[],[]⟩/\∀u,zQh u=0->zQj u ≠ d)
def xYx(w:World)(d:List UInt8):Rt:=λe w'=>∃(t:Tbl) (f q:SV) (c:Int),e=.returned (.tuple #[zWR t f q,.int .i64 c])/\zJn w w' t f q/\yXG t/\Pu w w'/\zYq d t c
def zeroT(R:Rt)(r2:Nat)(w:World):Prop:=
 stA prog 35 (⟨r2,0,none⟩:Addr) #[.int .i64 0,.slice none 0 0,.slice none 0 0] w λw5=>
 ∃ag:Int,w5.cell? ((⟨r2,0,none⟩:Addr).add 0)=some (.int .i64 ag)/\
 ∃ab:SV,w5.cell? ((⟨r2,0,none⟩:Addr).add 1)=some (.slice ab.a ab.len ab.cap)/\
 ∃ae:SV,w5.cell? ((⟨r2,0,none⟩:Addr).add 2)=some (.slice ae.a ae.len ae.cap)/\
 R (.returned (.tuple #[.agg #[.int .i64 ag,.slice ab.a ab.len ab.cap,.slice ae.a ae.len ae.cap],.int .i64 11])) w5
theorem yJB {w0 w:World} {d:List UInt8} {r2:Nat} (hb:w.heap[r2]?=some (.cells #[.int .i64 0,.slice none 0 0,.slice none 0 0] 35)) (hp:Pu w0 w) (hr:w0.heap.size<=r2) (hno:∀u,zQh u=0->zQj u ≠ d):zeroT (xYx w0 d) r2 w:=
 zQi hb s35.symm rfl rfl λw5 bu cL oo=>⟨_,cl bu 0,⟨none,0,0⟩,cl bu 1,⟨none,0,0⟩,cl bu 2,⟨0,[],[]⟩,⟨none,0,0⟩,⟨none,0,0⟩,11,rfl,⟨zKH.nil w0 w5,zKb.nil w0 w5⟩,yXG.zero,hp.andNew cL λi hi=>by omega,.inr ⟨rfl,rfl,hno⟩⟩
def copyT(R:Rt)(r2 r4:Nat)(w:World):Prop:=
 ∃gM:Int,w.cell? ((⟨r4,0,none⟩:Addr).add 0)=some (.int .i64 gM)/\
 ∃bW:SV,w.cell? ((⟨r4,0,none⟩:Addr).add 1)=some (.slice bW.a bW.len bW.cap)/\
 ∃bX:SV,w.cell? ((⟨r4,0,none⟩:Addr).add 2)=some (.slice bX.a bX.len bX.cap)/\
 stA prog 35 (⟨r2,0,none⟩:Addr) #[.int .i64 gM,.slice bW.a bW.len bW.cap,.slice bX.a bX.len bX.cap] w λw3=>
 ∃ag:Int,w3.cell? ((⟨r2,0,none⟩:Addr).add 0)=some (.int .i64 ag)/\
 ∃ab:SV,w3.cell? ((⟨r2,0,none⟩:Addr).add 1)=some (.slice ab.a ab.len ab.cap)/\
 ∃ae:SV,w3.cell? ((⟨r2,0,none⟩:Addr).add 2)=some (.slice ae.a ae.len ae.cap)/\
 R (.returned (.tuple #[.agg #[.int .i64 ag,.slice ab.a ab.len ab.cap,.slice ae.a ae.len ae.cap],.int .i64 0])) w3
theorem xYi {w0 wr w:World} {d:List UInt8} {r2 r4:Nat} {t:Tbl} {f q:SV} (aN:w.heap[r2]?=some (.cells #[.int .i64 0,.slice none 0 0,.slice none 0 0] 35)) (h4:w.heap[r4]?=some (.cells #[.int .i64 t.page,.slice f.a f.len f.cap,.slice q.a q.len q.cap] 35)) (ho:zJn wr w t f q) (hn:yXG t) (hp:Pu w0 w) (hr:w0.heap.size<=r2) (hl:r2<wr.heap.size) (hz:w0.heap.size<=wr.heap.size)
  (hout:zYq d t 0):copyT (xYx w0 d) r2 r4 w:=
 ⟨_,cl h4 0,f,cl h4 1,q,cl h4 2,zQi aN s35.symm rfl rfl λw5 bu cL oo=>⟨_,cl bu 0,f,cl bu 1,q,cl bu 2,t,f,q,0,rfl,(ho.one cL hl).low hz,hn,hp.andNew cL λi hi=>by omega,hout⟩⟩
theorem yXU{w w0:World}{s t:SV}{a b:List UInt8}(ha:zQf w0 w s a)(hb:ByV w t b):Calls prog 125 #[.slice s.a s.len s.cap,.slice t.a t.len t.cap] w λe w'=>e=.returned (.bool (decide (a=b)))/\Pu w w':=by
 refine yWr _ _ w _ ⟨_,w,xZR ha,_,w,yZX hb,?_,Pu.refl w⟩
 rw[zX7]
 congr 2
 exact zZC ⟨λh=>by rw[←zQN a,h,zQN],λh=>by rw[h]⟩
theorem yKC{w:World}{s:SV}{d:List UInt8}(hb:ByV w s d)(hd:d.length<=1000000000):Calls prog 87 #[.slice s.a s.len s.cap] w (xYx w d):=by
 refine xXA _ w _ (alB λw1 aq ay=>(yJj (hb.pu aq) hd).mono ?_)
 rintro e w2 ⟨t,f,q,ok,rfl,ho,hn,ar,hpar⟩
 have ng:w.heap.size<w1.heap.size:=zQx ay
 refine⟨_,f,q,ok,rfl,yQk rfl s35.symm rfl λw3 ax qF br=>?_⟩
 have p3:=(aq.trans ar).trans ax
 have ho3:=ho.pu ax
 refine Br.of (λd1=>yJB ((ar.trans ax).blk ay) p3 (Nat.le_refl _) λu hv hu=>?_) (λd1=>⟨_,cl br 0,f,cl br 1,q,cl br 2,(zZy (ho3.rd hn) hn.lim).mono ?_⟩)
 ·rw[(hpar u hv hu).2]at d1;cases d1
 rintro e w4 ⟨rfl,aK⟩
 have p4:=p3.trans aK
 have b3:=aK.blk br
 have xL:=ho3.pu aK
 refine⟨_,rfl,Br.of (λd1=>yJB (((ar.trans ax).trans aK).blk ay) p4 (Nat.le_refl _) λu hv hu=>?_) (λd1=>⟨_,cl b3 0,f,cl b3 1,q,cl b3 2,?_⟩)⟩
 ·rw[(hpar u hv hu).1]at d1;exact zQ1 d1 hv
 have mT:zQh t=0:=zQs d1
 refine(yQ4 (xL.rd hn) (zJc.of mT)).mono ?_
 rintro e w5 ⟨o,rfl,ho5,aU⟩
 refine⟨o,rfl,(yXU ho5 (hb.pu (p4.trans aU))).mono ?_⟩
 rintro e w6 ⟨rfl,bC⟩
 have xM:=aU.trans bC
 refine⟨_,rfl,Br.of (λd1=>yJB ((((ar.trans ax).trans aK).trans xM).blk ay) (p4.trans xM) (Nat.le_refl _) λu hv hu=>?_) (λd1=>?_)⟩
 ·rw[(hpar u hv hu).1,decide_eq_true hu]at d1;cases d1
 have hbt:zQj t=d:=by simpa using d1
 exact xYi ((((ar.trans ax).trans aK).trans xM).blk ay) (xM.blk b3) (xL.pu xM) hn (p4.trans xM) (Nat.le_refl _) ng aq.size (.inl ⟨rfl,mT,hbt,λu hv hu=>(hpar u hv hu).1⟩)
end Go.Proofs.YtaeecpjhfmcliaaGreatDoor
/- The log: what files tell, and what a recovery writes. In plain words. No condition but those stated. -/
namespace Go.Proofs.YtaeecpjhfmcliaaGreatDoor
open Go.Sh Go.RowKit Tryz
def zXG(d:List UInt8):Option Tbl:=open Classical in if h:∃u,zQh u=0/\zQj u=d then some h.choose else none
theorem zXy{d:List UInt8}{t:Tbl}(h:zXG d=some t):zQh t=0/\zQj t=d:=by
 unfold zXG at h
 split at h
 ·next hx=>rw[←Option.some.inj h];exact hx.choose_spec
 ·cases h
theorem yQM{d:List UInt8}(h:zXG d=none):∀u,zQh u=0->zQj u ≠ d:=λu hu hd=>by
 unfold zXG at h
 split at h
 ·cases h
 ·next hx=>exact hx ⟨u,hu,hd⟩
theorem yKy{d:List UInt8}{t:Tbl}(h:zYq d t 0):zXG d=some t:=by
 rcases h with⟨-,h1,h2,h3⟩|⟨h,-⟩
 ·cases e:zXG d with
  | none=>exact absurd h2 (yQM e t h1)
  | some u=>rw[h3 u (zXy e).1 (zXy e).2]
 ·cases h
theorem xXq{d:List UInt8}{t:Tbl}(h:zYq d t 11):zXG d=none:=by
 rcases h with⟨h,-⟩|⟨-,-,h3⟩
 ·cases h
 ·cases e:zXG d with
  | none=>rfl
  | some u=>exact absurd (zXy e).2 (h3 u (zXy e).1)
theorem zKp{d:List UInt8}{t:Tbl}{c:Int}(h:zYq d t c):(c=0/\zXG d=some t)∨(c=11/\zXG d=none/\t=⟨0,[],[]⟩):=by
 have h':=h
 rcases h with⟨rfl,-⟩|⟨rfl,h2,-⟩
 ·exact .inl ⟨rfl,yKy h'⟩
 ·exact .inr ⟨rfl,xXq h',h2⟩
def yXH(t:Tbl)(b:List UInt8):Option Rec:=(zXG (zJu { t with recs:=[⟨false,zJi t.fields⟩] } ++ b ++ [26])).bind λx=>x.recs.head?
def goC(t:Tbl)(size:Nat)(recs:List Rec)(rest:List UInt8):Option (List Rec):=
 if h:rest=[]then some recs
 else match yXH t ((rest.drop 2).take size)with
  | none=>none
  | some r=>if zQX (rest.take 2)<1∨recs.length+1<zQX (rest.take 2)∨300<zQX (rest.take 2)then none
   else goC t size (if recs.length<zQX (rest.take 2)then recs ++ [r]else recs.set (zQX (rest.take 2) - 1) r) (rest.drop (size+2))
 termination_by rest.length
 decreasing_by
 rw[List.length_drop]
 have:rest.length ≠ 0:=λe=>h (List.length_eq_zero_iff.1 e)
 omega
def zQZ(t:Tbl)(body:List UInt8):Option Tbl:=
 if body.length<2∨(body.length - 2) % ((zXK t.fields).toNat+2) ≠ 0 then none
 else(goC t (zXK t.fields).toNat t.recs (body.drop 2)).bind λl=>if l.length=zQX (body.take 2)then some { t with recs:=l }else none
def xZu(t:Tbl)(k:Int):List UInt8:=match t.recs[(k - 1).toNat]? with
 | some r=>zJK zQu t.fields r
 | none=>[]
def zXr(t:Tbl)(l:List Int):List UInt8:=zJb t.recs.length 2 ++ l.flatMap λk=>if (t.recs.length:Int)<k then []else zJb k.toNat 2 ++ xZu t k
abbrev Fls:=List UInt8 × List UInt8
def zKf(cur:Option Tbl)(anew:Bool)(rest:List UInt8):Option Tbl × List UInt8 × Bool:=
 match h:zZ9 rest with
 | none=>(cur,rest,anew)
 | some (k,body,more)=>
  if k=119 then zKf (zXG body) true more
  else if k ≠ 99 then zKf none anew more
  else zKf (cur.bind λt=>zQZ t body) anew more
 termination_by rest.length
 decreasing_by all_goals exact yXn h
def zQJ(F:Fls):Option Tbl × List UInt8 × Bool:=zKf (zXG F.1) false F.2
structure Wr where
 file:Int
 at_:Int
 b:List UInt8
def Fls.get(F:Fls)(i:Int):List UInt8:=if i=0 then F.1 else F.2
def Fls.put(F:Fls)(i:Int)(b:List UInt8):Fls:=if i=0 then(b,F.2)else(F.1,b)
def zZl(F:Fls)(x:Wr)(k:Int):Fls:=if k<=0 then F else F.put x.file ((F.get x.file).take (min x.at_ (F.get x.file).length).toNat ++ x.b.take k.toNat)
def zQC(F:Fls)(x:Wr):Fls:=zZl F x (x.b.length+1)
def zXM(F:Fls):List Wr:=
 (if (zQJ F).2.1=[]then []else [⟨1,F.2.length - (zQJ F).2.1.length,[]⟩]) ++
 (if (zQJ F).2.2 then [⟨0,0,[]⟩,⟨0,0,zQI ((zQJ F).1.getD yVi)⟩,⟨1,0,[]⟩]else [])
def openF(F:Fls):Fls:=(zXM F).foldl zQC F
end Go.Proofs.YtaeecpjhfmcliaaGreatDoor
/- The log: right tables and their bytes stand for each other; headers too. In plain words. No condition but those stated. -/
namespace Go.Proofs.YtaeecpjhfmcliaaGreatDoor
open Go.Sh Go.RowKit Tryz
def wOf(d:List UInt8):World:={ heap:=#[.cells (d.map u8V).toArray 0 (0,0)],tape:=λ_ _=>0,drawn:=0,os:=default,output:=#[] }
theorem wOf_by(d:List UInt8)(hd:d.length<=140737488355328):ByV (wOf d) ⟨some ⟨0,0,none⟩,d.length,d.length⟩ d:=
 ⟨rfl,Nat.le_refl _,hd,λj b hj=>⟨_,rfl,by rw[zQr,zQF (c:=(d.map u8V).toArray) (e:=0) (f:=(0,0)) rfl];simp[hj]⟩⟩
theorem zZX{t:Tbl}(h:zJc t):(zQj t).length<=600300:=by
 have h1:=zWA h
 have h2:=yYG h t.recs.length (Nat.le_refl _)
 rw[List.take_length]at h2
 have h3:=h.n16
 unfold zQj
 simp only[List.length_append,List.length_singleton]
 omega
theorem zWe(t:Tbl):(zQI t).length<=600300:=by
 unfold zQI;split
 ·rename_i h;exact zZX (zJc.of h)
 ·simp
theorem yVY{u v:Tbl}(hu:zQh u=0)(hv:zQh v=0)(h:zQj u=zQj v):u=v:=by
 have hl:=zZX (zJc.of hu)
 obtain⟨e,w',fr,⟨t,f,q,c,_,_,_,_,hr⟩,_⟩:=yKC (wOf_by (zQj u) (by omega)) (by omega) []
 rcases hr with⟨_,_,_,h3⟩|⟨_,_,h3⟩
 ·rw[←h3 u hu rfl,←h3 v hv h.symm]
 ·exact absurd rfl (h3 u hu)
theorem yX3{f:Fld}(h:zQn f=true):1<=f.kind/\f.kind<=5:=by
 unfold zQn at h
 have h:=(Bool.and_eq_true _ _ ▸ h:zZx f.name=true/\zW9 f.kind f.width=true).2
 unfold zW9 at h
 split at h
 ·omega
 split at h
 ·omega
 split at h
 ·omega
 split at h
 ·omega
 split at h
 ·omega
 ·cases h
theorem yJ1{a b:Int}(ha:1<=a/\a<=5)(hb:1<=b/\b<=5)(h:zVl a=zVl b):a=b:=by
 rcases(by omega:a=1∨a=2∨a=3∨a=4∨a=5)with rfl|rfl|rfl|rfl|rfl <;> rcases(by omega:b=1∨b=2∨b=3∨b=4∨b=5)with rfl|rfl|rfl|rfl|rfl <;> first|rfl|(exfalso;revert h;decide)
theorem xQ4{a b:Bool}(h:xX1 a=xX1 b):a=b:=by
 cases a <;> cases b <;> first|rfl|(exfalso;revert h;decide)
theorem zYg{a b:Int}(ha:0<=a/\a<=255)(hb:0<=b/\b<=255)(h:zZD a=zZD b):a=b:=by
 rw[←zWC ha,←zWC hb,h]
theorem yWu{f g:Fld}(hf:zQn f=true)(hg:zQn g=true)(h:zQK f=zQK g):f=g:=by
 obtain⟨a1,a2,a3,a4⟩:=zWg hf h
 obtain⟨b1,b2,b3,b4⟩:=zWg hg rfl
 have e1:f.name.data.toList=g.name.data.toList:=by
  have:=a1.symm.trans b1
  rw[←zWq _ (zVf hf) (10 - f.name.size),this,zWq _ (zVf hg)]
 have e2:=yJ1 (yX3 hf) (yX3 hg) (Option.some.inj (a2.symm.trans b2))
 have e3:=zYg (by have:=zXq hf;omega) (by have:=zXq hg;omega) (Option.some.inj (a3.symm.trans b3))
 have e4:=xQ4 (Option.some.inj (a4.symm.trans b4))
 obtain⟨n,k,wd,z⟩:=f
 obtain⟨n',k',wd',z'⟩:=g
 dsimp only at e1 e2 e3 e4
 rw[zQU e1,e2,e3,e4]
theorem xZU{x t:Tbl}(hx:zQh x=0)(hp:zQW t.page=true)(hvf:zQT t.fields=0){rest:List UInt8}(h:zQj x=zJu t ++ rest):x.page=t.page/\x.fields=t.fields:=by
 have ox:=zJc.of hx
 obtain⟨h0,hall,_,ja,hw⟩:=zXl hvf
 have x16:=ox.n16
 have e:zJu t ++ rest=zVd t ++ (t.fields.flatMap zQK ++ ([13] ++ rest)):=by unfold zJu zVd;simp only[List.append_assoc]
 rw[e]at h
 obtain⟨d,hd⟩:∃d,d=zQj x:=⟨_,rfl⟩
 obtain⟨_,p1,_,p10⟩:=zW2 (u:=x) hd.symm
 have h1:=zXm t.recs.length 4
 have q1:d[1]?=some (zZD t.page):=by rw[hd,h];rfl
 have q10:d[10]?=some (zZD t.fields.length):=by
  rw[hd,h,List.getElem?_append_left (by rw[zWB];omega)]
  unfold zVd
  rw[List.getElem?_append_right (by simp[zXm])]
  simp[zXm]
 have px:=ox.page
 unfold zQW at px hp
 simp only[Bool.and_eq_true,decide_eq_true_eq]at px hp
 have ep:=zYg (by omega) (by omega) (Option.some.inj (p1.symm.trans q1))
 have en:=zYg (by omega) (by omega) (Option.some.inj (p10.symm.trans q10))
 have en:x.fields.length=t.fields.length:=by omega
 refine⟨ep,List.ext_getElem? λk=>?_⟩
 by_cases hk:k<t.fields.length
 ·obtain⟨f,hf⟩:=zQM hk
  obtain⟨g,hg⟩:=zQM (l:=x.fields) (k:=k) (by omega)
  have b1:=zYt ox hd.symm hg
  have b2:(d.drop (12+16 * k)).take 16=zQK f:=by
   have hallk:(t.fields.take k).all zQn=true:=List.all_eq_true.2 λg hg=>List.all_eq_true.1 hall g (List.mem_of_mem_take hg)
   have hl1:=yKa hallk
   rw[List.length_take]at hl1
   have hl16:=zZu (zXa (List.all_eq_true.1 hall f (List.mem_of_getElem? hf))).2.1
   have ee:t.fields.flatMap zQK=(t.fields.take k).flatMap zQK ++ (zQK f ++ (t.fields.drop (k+1)).flatMap zQK):=by
    rw[←List.flatMap_cons,←zXU hf,←List.flatMap_append,List.take_append_drop]
   have hl:(zVd t ++ (t.fields.take k).flatMap zQK).length=12+16 * k:=by rw[List.length_append,zWB,hl1];omega
   rw[hd,h,ee,List.append_assoc,←List.append_assoc (zVd t),List.drop_append,List.drop_eq_nil_of_le (by omega),hl,Nat.sub_self,List.drop_zero,List.nil_append,List.append_assoc,List.take_append_of_le_length (by omega),List.take_of_length_le (by omega)]
  rw[hg,hf,yWu (List.all_eq_true.1 ox.all g (List.mem_of_getElem? hg)) (List.all_eq_true.1 hall f (List.mem_of_getElem? hf)) (b1.symm.trans b2)]
 ·rw[List.getElem?_eq_none (by omega),List.getElem?_eq_none (by omega)]
theorem zKk{t:Tbl}(hp:zQW t.page=true)(hf:zQT t.fields=0)(hn:t.recs.length<=300)(hr:∀r ∈ t.recs,zQ0 t.fields t.page r=0):zQh t=0:=by
 have key:∀l:List Rec,(∀r ∈ l,zQ0 t.fields t.page r=0)->zXu t.fields t.page l=0:=by
  intro l
  induction l with
  | nil=>intro _;rfl
  | cons r l ih=>
   intro h
   unfold zXu
   rw[if_neg (by rw[h r (List.mem_cons_self)];simp)]
   exact ih λx hx=>h x (List.mem_cons_of_mem _ hx)
 unfold zQh
 rw[if_pos hp,if_neg (by rw[hf];simp),if_neg (by omega)]
 exact key _ hr
structure zQL(t:Tbl):Prop where
 page:zQW t.page=true
 vf:zQT t.fields=0
 n300:t.recs.length<=300
 recs:∀r ∈ t.recs,zQ0 t.fields t.page r=0
theorem zQL.of{t:Tbl}(h:zQh t=0):zQL t:=by
 obtain⟨h1,h2,h3,h4⟩:=zWQ h
 exact⟨h1,h2,h3,λr hr=>zJj h4 r hr⟩
theorem zQL.ok{t:Tbl}(h:zQL t):zQh t=0:=zKk h.page h.vf h.n300 h.recs
end Go.Proofs.YtaeecpjhfmcliaaGreatDoor
