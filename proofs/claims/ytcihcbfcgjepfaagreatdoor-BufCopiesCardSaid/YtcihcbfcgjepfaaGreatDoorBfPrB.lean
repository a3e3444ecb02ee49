import Derived.Test.YtcihcbfcgjepfaaGreatDoorProg
import Derived.Test.YtcihcbfcgjepfaaGreatDoorShTwentyEight
/- Shallow texts of functions, printed by program, each checked by the kernel against the loaded code. No condition. -/
set_option maxRecDepth 100000
set_option linter.unusedVariables false
namespace Go.Proofs.YtcihcbfcgjepfaaGreatDoor
open Go.Sh Tryz
def F55_1(R:Rt)(p0:Option Addr)(n1:Int)(p2:Option Addr)(dL:SV)(ds:Ds)(w:World):Prop:=
 zQi p2 λa1=>
 ∃n105,w.cell? (a1.add 1)=some (.int .i64 n105)/\
 Br (decide (n105<0)) (
 zQi p2 λa2=>
 ∃fk,w.cell? (a2.add 1)=some (.int .i64 fk)/\
 ∃a3,dL.a=some a3/\0<=(IntKind.i64.wrap ((IntKind.i64.wrap (0 - fk)) - 1))/\(IntKind.i64.wrap ((IntKind.i64.wrap (0 - fk)) - 1))<(dL.len:Int)/\
 ∃n116,w.cell? (a3.add ((IntKind.i64.wrap ((IntKind.i64.wrap (0 - fk)) - 1)).toNat * 1))=some (.int .i64 n116)/\
 zQi p2 λa4=>
 st1 (a4.add 1) (.int .i64 n116) w λw5=>
 Calls prog 116 #[.pointer p0,.int .i64 n1,.pointer p2] w5 λe w6=>
 e=.returned (.tuple #[])/\
 zQe prog ds w6 λw7=>
 R (.returned (.tuple #[dL.v,.int .i64 0])) w7) (
 Calls prog 116 #[.pointer p0,.int .i64 n1,.pointer p2] w λe w8=>
 e=.returned (.tuple #[])/\
 zQe prog ds w8 λw9=>
 R (.returned (.tuple #[dL.v,.int .i64 0])) w9)
def F55_2 (R:Rt) (J1:(SV × Int)->World->Prop) (p0:Option Addr) (n1:Int) (p2:Option Addr) (dL kP:SV) (vH yf:Int) (ds:Ds) (w:World):Prop:=
 Br (decide (yf<vH)) (
 ∃cW,kP.a=some cW/\0<=yf/\yf<(kP.len:Int)/\
 ∃yg,w.cell? ((cW.add (yf.toNat * 2)).add 0)=some (.bool yg)/\
 ∃lI:SV,w.cell? ((cW.add (yf.toNat * 2)).add 1)=some (lI.v)/\
 alE (.cells #[.bool false,.slice none 0 0] 77) w λvk av=>
 stA prog 77 (⟨vk,0,none⟩:Addr) #[.bool yg,lI.v] av λao=>
 dwE ao λaE=>
 ∃S1:World->Prop,S1 aE/\
 zQi p0 λfi=>
 ∃sE:SV,(∀w',S1 w'->w'.cell? ((fi.add 2).add 2)=some (sE.v))/\
 ∃yh,(∀w',S1 w'->w'.cell? ((⟨vk,0,none⟩:Addr).add 0)=some (.bool yh))/\
 ∃lJ:SV,(∀w',S1 w'->w'.cell? ((⟨vk,0,none⟩:Addr).add 1)=some (lJ.v))/\
 alE (.cells #[.bool yh,lJ.v] 77) aE λr87 aD=>
 S1 aD/\
 ∃l88:SV,∃aU,(Builtin.append_ #[23,23] 23 #[sE.v,.slice (some ⟨r87,0,none⟩) 1 1]).run prog aD=.ok (l88.v) aU/\
 zQi p0 λnc=>
 st1 ((nc.add 2).add 2) (l88.v) aU λbD=>
 zQi p0 λj4=>
 ∃l97:SV,bD.cell? ((j4.add 2).add 2)=some (l97.v)/\
 alE (.cells #[.int .i64 (l97.len:Int)] 3) bD λr99 cX=>
 ∃vI:SV,∃cO,(Builtin.append_ #[43,43] 43 #[dL.v,.slice (some ⟨r99,0,none⟩) 1 1]).run prog cX=.ok (vI.v) cO/\
 J1 (vI,(IntKind.i64.wrap (yf+1))) cO) (
 F55_1 R p0 n1 p2 dL ds w)
def F55_3(R:Rt)(p0:Option Addr)(n1:Int)(p2:Option Addr)(dL kP:SV)(vH yf:Int)(ds:Ds)(w:World):Prop:=
 zQ8 (λ(J1:(SV × Int)->World->Prop) (s:SV × Int) (w:World)=>F55_2 R J1 p0 n1 p2 s.1 kP vH s.2 ds w) (dL,yf) w
def xKf(R:Rt)(p0:Option Addr)(n1:Int)(p2:Option Addr)(ds:Ds)(w:World):Prop:=
 zQi p2 λrm=>
 ∃kP:SV,w.cell? (rm.add 3)=some (kP.v)/\
 F55_3 R p0 n1 p2 ⟨none,0,0⟩ kP (kP.len:Int) 0 ds w
def F55_6 (R:Rt) (J1:(Unit)->World->Prop) (p0:Option Addr) (n1:Int) (p2 yi:Option Addr) (ds:Ds) (w:World):Prop:=
 (∃cJ,(Instr.next (.pointer yi) false 0).run prog w=.ok (.tuple #[.bool false]) cJ/\
 xKf R p0 n1 p2 ds cJ)∨(∃k56 v56:Value,∃cP,(Instr.next (.pointer yi) false 0).run prog w=.ok (.tuple #[.bool true,k56,v56]) cP/\
 ∃k58 v58:Value,∃dQ,(Instr.entry (.pointer yi)).run prog cP=.ok (.tuple #[k58,v58]) dQ/\
 yQc .i64 k58 λn59=>
 yX5 v58 λq60=>
 dHd q60 λx60_0 q60_0=>
 dBl x60_0 λb60_0=>
 dHd q60_0 λx60_1 q60_1=>
 dSl x60_1 λsK=>
 dHd q60_1 λx60_2 q60_2=>
 dBl x60_2 λb60_2=>
 dHd q60_2 λx60_3 q60_3=>
 dSl x60_3 λsL=>
 yZE q60_3 (
 alE (.cells #[.bool false,.slice none 0 0,.bool false,.slice none 0 0] 133) dQ λrq bV=>
 stA prog 133 (⟨rq,0,none⟩:Addr) #[.bool b60_0,sK.v,.bool b60_2,sL.v] bV λdR=>
 dwE dR λcR=>
 ∃om,cR.cell? ((⟨rq,0,none⟩:Addr).add 0)=some (.bool om)/\
 ∃eo:SV,cR.cell? ((⟨rq,0,none⟩:Addr).add 1)=some (eo.v)/\
 ∃yj,cR.cell? ((⟨rq,0,none⟩:Addr).add 2)=some (.bool yj)/\
 ∃lK:SV,cR.cell? ((⟨rq,0,none⟩:Addr).add 3)=some (lK.v)/\
 zQi p0 λmV=>
 ∃l66:SV,cR.cell? ((mV.add 2).add 2)=some (l66.v)/\
 ∃pO,l66.a=some pO/\0<=(IntKind.i64.wrap (n59 - 1))/\(IntKind.i64.wrap (n59 - 1))<(l66.len:Int)/\
 Calls prog 115 #[.agg #[.bool om,eo.v,.bool yj,lK.v],.pointer (some (pO.add ((IntKind.i64.wrap (n59 - 1)).toNat * 2)))] cR λe gB=>
 e=.returned (.tuple #[])/\
 J1 () gB))
def F55_7(R:Rt)(p0:Option Addr)(n1:Int)(p2 yi:Option Addr)(ds:Ds)(w:World):Prop:=
 zQ8 (λ(J1:(Unit)->World->Prop) (_:Unit) (w:World)=>F55_6 R J1 p0 n1 p2 yi ds w) () w
def xJK(R:Rt)(p0:Option Addr)(n1:Int)(p2:Option Addr)(ds:Ds)(w:World):Prop:=
 zQi p2 λnp=>
 ∃m54,w.cell? (np.add 2)=some (.map m54)/\
 ∃yi:Option Addr,∃cK,(Instr.range 88 (.map m54)).run prog w=.ok (.pointer yi) cK/\
 F55_7 R p0 n1 p2 yi ds cK
def xQ0 (R:Rt) (J1:(Unit)->World->Prop) (p0:Option Addr) (n1:Int) (p2 qL:Option Addr) (ds:Ds) (w:World):Prop:=
 (∃bn,(Instr.next (.pointer qL) false 0).run prog w=.ok (.tuple #[.bool false]) bn/\
 xJK R p0 n1 p2 ds bn)∨(∃k32 v32:Value,∃fT,(Instr.next (.pointer qL) false 0).run prog w=.ok (.tuple #[.bool true,k32,v32]) fT/\
 ∃k34 v34:Value,∃qm,(Instr.entry (.pointer qL)).run prog fT=.ok (.tuple #[k34,v34]) qm/\
 yQc .i64 k34 λu0=>
 zQi p0 λa37=>
 ∃m40,qm.cell? (a37.add 21)=some (.map m40)/\
 ∃ft:Int,∃ow:Bool,∃iK,(Instr.lookup 80 (.map m40) (.int .i64 u0) true).run prog qm=.ok (.tuple #[.int .i64 ft,.bool ow]) iK/\
 Br ow (
 Br (ft != n1) (
 zQe prog ds iK λiF=>
 R (.returned (.tuple #[.slice none 0 0,.int .i64 12])) iF) (
 J1 () iK)) (
 J1 () iK))
def yXz(R:Rt)(p0:Option Addr)(n1:Int)(p2 qL:Option Addr)(ds:Ds)(w:World):Prop:=
 zQ8 (λ(J1:(Unit)->World->Prop) (_:Unit) (w:World)=>xQ0 R J1 p0 n1 p2 qL ds w) () w
def xZ1(R:Rt)(p0:Option Addr)(n1:Int)(p2:Option Addr)(b3:Bool)(ds:Ds)(w:World):Prop:=
 Br (!b3) (
 Calls prog 114 #[.pointer p0,.pointer p2] w λe iR=>
 ∃dT:SV,e=.returned (dT.v)/\
 Br (decide ((dT.len:Int) > 0)) (
 zQe prog ds iR λyk=>
 R (.returned (.tuple #[.slice none 0 0,.int .i64 13])) yk) (
 zQi p2 λrW=>
 ∃qM,iR.cell? (rW.add 2)=some (.map qM)/\
 ∃qL:Option Addr,∃jV,(Instr.range 88 (.map qM)).run prog iR=.ok (.pointer qL) jV/\
 yXz R p0 n1 p2 qL ds jV)) (
 zQi p2 λa44=>
 ∃qM,w.cell? (a44.add 2)=some (.map qM)/\
 ∃qL:Option Addr,∃oG,(Instr.range 88 (.map qM)).run prog w=.ok (.pointer qL) oG/\
 yXz R p0 n1 p2 qL ds oG)
theorem F55_p:Pl prog f55 [pS 0,iS 1,pS 2,bS 3] xZ1:=λR=>
 pc 4 (zQz [pS 0,iS 1,pS 2,pS 31] (yXz R) (bk 0 (zQz [pS 0,iS 1,pS 2] (xJK R) (pc 1 (zQz [pS 0,iS 1,pS 2,pS 55] (F55_7 R) (bk 2 (zQz [pS 0,iS 1,pS 2] (xKf R) (pc 2 (zQz [pS 0,iS 1,pS 2,lS 15,lS 74,iS 75,iS 76] (F55_3 R) (bk 4 (zQz [pS 0,iS 1,pS 2,lS 15] (F55_1 R) lf) (lp [lS 15,iS 76] [pS 0,iS 1,pS 2,lS 15,lS 74,iS 75,iS 76] (F55_2 R) zXs λJ1=>lf))))) (lp [] [pS 0,iS 1,pS 2,pS 55] (F55_6 R) zXs λJ1=>lf))))) (lp [] [pS 0,iS 1,pS 2,pS 31] (xQ0 R) zXs λJ1=>lf)))
theorem yKd (p0:Option Addr) (n1:Int) (p2:Option Addr) (b3:Bool) (w:World) (R:Rt) (h:xZ1 R p0 n1 p2 b3 [] w):Calls prog 55 #[.pointer p0,.int .i64 n1,.pointer p2,.bool b3] w R:=
 plC F55_p func55 h
def xX9(R:Rt)(l5:SV)(ds:Ds)(w:World):Prop:=
 zQe prog ds w λw1=>
 R (.returned (l5.v)) w1
def xQM (R:Rt) (J1:(SV × Int)->World->Prop) (p0 p1:Option Addr) (l5 dU:SV) (j7 pH:Int) (ds:Ds) (w:World):Prop:=
 Br (decide (pH<j7)) (
 ∃a2,dU.a=some a2/\0<=pH/\pH<(dU.len:Int)/\
 ∃gS,w.cell? (a2.add (pH.toNat * 1))=some (.int .i64 gS)/\
 dwE w λw3=>
 zQi p1 λa4=>
 ∃m22,w3.cell? (a4.add 2)=some (.map m22)/\
 ∃oH:Bool,∃ca:SV,∃ym:Bool,∃eI:SV,(Instr.lookup 88 (.map m22) (.int .i64 gS) false).run prog w3=.ok (.agg #[.bool oH,ca.v,.bool ym,eI.v]) w3/\
 zQi p0 λa5=>
 ∃fA:SV,w3.cell? ((a5.add 2).add 2)=some (fA.v)/\
 ∃a6,fA.a=some a6/\0<=(IntKind.i64.wrap (gS - 1))/\(IntKind.i64.wrap (gS - 1))<(fA.len:Int)/\
 ∃oI,w3.cell? ((a6.add ((IntKind.i64.wrap (gS - 1)).toNat * 2)).add 0)=some (.bool oI)/\
 ∃eJ:SV,w3.cell? ((a6.add ((IntKind.i64.wrap (gS - 1)).toNat * 2)).add 1)=some (eJ.v)/\
 Calls prog 162 #[.agg #[.bool oH,ca.v,.bool ym,eI.v],.agg #[.bool oI,eJ.v]] w3 λe w7=>
 ∃xz:Bool,e=.returned (.bool xz)/\
 Br xz (
 alE (.cells #[.int .i64 gS] 3) w7 λr37 w8=>
 ∃qN:SV,∃w9,(Builtin.append_ #[43,43] 43 #[l5.v,.slice (some ⟨r37,0,none⟩) 1 1]).run prog w8=.ok (qN.v) w9/\
 J1 (qN,(IntKind.i64.wrap (pH+1))) w9) (
 J1 (l5,(IntKind.i64.wrap (pH+1))) w7)) (
 xX9 R l5 ds w)
def xX2(R:Rt)(p0 p1:Option Addr)(l5 dU:SV)(j7 pH:Int)(ds:Ds)(w:World):Prop:=
 zQ8 (λ(J1:(SV × Int)->World->Prop) (s:SV × Int) (w:World)=>xQM R J1 p0 p1 s.1 dU j7 s.2 ds w) (l5,pH) w
def xZS(R:Rt)(p0 p1:Option Addr)(ds:Ds)(w:World):Prop:=
 zQi p1 λcW=>
 ∃m11,w.cell? (cW.add 2)=some (.map m11)/\
 Calls prog 129 #[.map m11] w λe av=>
 ∃v12:Value,e=.returned (v12)/\
 Calls prog 128 #[v12] av λe ao=>
 ∃dU:SV,e=.returned (dU.v)/\
 xX2 R p0 p1 ⟨none,0,0⟩ dU (dU.len:Int) 0 ds ao
theorem F114_p:Pl prog f114 [pS 0,pS 1] xZS:=λR=>
 pc 3 (zQz [pS 0,pS 1,lS 5,lS 13,iS 14,iS 15] (xX2 R) (bk 0 (zQz [lS 5] (xX9 R) lf) (lp [lS 5,iS 15] [pS 0,pS 1,lS 5,lS 13,iS 14,iS 15] (xQM R) zXs λJ1=>lf)))
theorem yJo (p0 p1:Option Addr) (w:World) (R:Rt) (h:xZS R p0 p1 [] w):Calls prog 114 #[.pointer p0,.pointer p1] w R:=
 plC F114_p func114 h
def xXn(R:Rt)(ds:Ds)(w:World):Prop:=
 zQe prog ds w λw1=>
 R (.returned (.bool false)) w1
def xZA (R:Rt) (J1:(Int)->World->Prop) (p2 p3:Option Addr) (vl:SV) (lh fD:Int) (ds:Ds) (w:World):Prop:=
 Br (decide (fD<lh)) (
 ∃a2,vl.a=some a2/\0<=fD/\fD<(vl.len:Int)/\
 ∃dJ,w.cell? ((a2.add (fD.toNat * 3)).add 0)=some (.int .i64 dJ)/\
 ∃cN,w.cell? ((a2.add (fD.toNat * 3)).add 1)=some (.int .i64 cN)/\
 ∃nU,w.cell? ((a2.add (fD.toNat * 3)).add 2)=some (.string nU)/\
 alE (.cells #[.int .i64 0,.int .i64 0,.string (⟨#[]⟩:ByteArray)] 28) w λr6 w3=>
 stA prog 28 (⟨r6,0,none⟩:Addr) #[.int .i64 dJ,.int .i64 cN,.string nU] w3 λw4=>
 dwE w4 λw5=>
 zQi p2 λa6=>
 ∃jW:SV,w5.cell? (a6.add 1)=some (jW.v)/\
 ∃a7,jW.a=some a7/\0<=fD/\fD<(jW.len:Int)/\
 ∃yn,w5.cell? ((a7.add (fD.toNat * 3)).add 0)=some (.int .i64 yn)/\
 ∃yo,w5.cell? ((a7.add (fD.toNat * 3)).add 1)=some (.int .i64 yo)/\
 ∃yp,w5.cell? ((a7.add (fD.toNat * 3)).add 2)=some (.string yp)/\
 ∃io,w5.cell? ((⟨r6,0,none⟩:Addr).add 0)=some (.int .i64 io)/\
 ∃yq,w5.cell? ((⟨r6,0,none⟩:Addr).add 1)=some (.int .i64 yq)/\
 ∃yr,w5.cell? ((⟨r6,0,none⟩:Addr).add 2)=some (.string yr)/\
 zQi p3 λa8=>
 ∃vi:SV,w5.cell? (a8.add 1)=some (vi.v)/\
 ∃a9,vi.a=some a9/\0<=fD/\fD<(vi.len:Int)/\
 ∃oJ,w5.cell? ((a9.add (fD.toNat * 3)).add 0)=some (.int .i64 oJ)/\
 ∃jj,w5.cell? ((a9.add (fD.toNat * 3)).add 1)=some (.int .i64 jj)/\
 ∃yt,w5.cell? ((a9.add (fD.toNat * 3)).add 2)=some (.string yt)/\
 Calls prog 200 #[.agg #[.int .i64 yn,.int .i64 yo,.string yp],.agg #[.int .i64 io,.int .i64 yq,.string yr],.agg #[.int .i64 oJ,.int .i64 jj,.string yt]] w5 λe au=>
 ∃sM:Bool,e=.returned (.bool sM)/\
 Br sM (
 zQe prog ds au λav=>
 R (.returned (.bool true)) av) (
 J1 (IntKind.i64.wrap (fD+1)) au)) (
 xXn R ds w)
def xZQ(R:Rt)(p2 p3:Option Addr)(vl:SV)(lh fD:Int)(ds:Ds)(w:World):Prop:=
 zQ8 (λ(J1:(Int)->World->Prop) (s:Int) (w:World)=>xZA R J1 p2 p3 vl lh s ds w) fD w
def xXE(R:Rt)(bH:Bool)(ai:SV)(ip:Bool)(bz:SV)(df:Bool)(aJ:SV)(ds:Ds)(w:World):Prop:=
 alE (.cells #[.bool bH,ai.v,.bool ip,bz.v] 133) w λr2 ao=>
 alE (.cells #[.bool df,aJ.v] 77) ao λr3 aE=>
 ∃b9,aE.cell? (⟨r2,0,none⟩:Addr)=some (.bool b9)/\
 ∃wG,aE.cell? ((⟨r2,0,none⟩:Addr).add 2)=some (.bool wG)/\
 ∃ld,aE.cell? (⟨r3,0,none⟩:Addr)=some (.bool ld)/\
 Calls prog 199 #[.bool b9,.bool wG,.bool ld] aE λe aI=>
 ∃hZ:Bool,e=.returned (.bool hZ)/\
 Br hZ (
 zQe prog ds aI λaD=>
 R (.returned (.bool true)) aD) (
 ∃vl:SV,aI.cell? (((⟨r2,0,none⟩:Addr).add 2).add 1)=some (vl.v)/\
 xZQ R (some (⟨r2,0,none⟩:Addr)) (some (⟨r3,0,none⟩:Addr)) vl (vl.len:Int) 0 ds aI)
theorem F162_p:Pl prog f162 [aS 0 [.bool,.slice,.bool,.slice],aS 1 [.bool,.slice]] xXE:=λR=>
 pc 4 (zQz [pS 2,pS 3,lS 18,iS 19,iS 20] (xZQ R) (bk 0 (zQz [] (xXn R) lf) (lp [iS 20] [pS 2,pS 3,lS 18,iS 19,iS 20] (xZA R) zXs λJ1=>lf)))
theorem yZr (bH:Bool) (ai:SV) (ip:Bool) (bz:SV) (df:Bool) (aJ:SV) (w:World) (R:Rt) (h:xXE R bH ai ip bz df aJ [] w):Calls prog 162 #[.agg #[.bool bH,ai.v,.bool ip,bz.v],.agg #[.bool df,aJ.v]] w R:=
 plC F162_p func162 h
def xZK(R:Rt)(b0 b1 b2:Bool)(ds:Ds)(w:World):Prop:=
 Br (!(b0 == b1)) (
 Br (!(b2 == b0)) (
 zQe prog ds w λw1=>
 R (.returned (.bool (!(b2 == b1)))) w1) (
 zQe prog ds w λw2=>
 R (.returned (.bool false)) w2)) (
 zQe prog ds w λw3=>
 R (.returned (.bool false)) w3)
theorem F199_p:Pl prog f199 [bS 0,bS 1,bS 2] xZK:=λR=>
 lf
theorem yZZ (b0 b1 b2:Bool) (w:World) (R:Rt) (h:xZK R b0 b1 b2 [] w):Calls prog 199 #[.bool b0,.bool b1,.bool b2] w R:=
 plC F199_p func199 h
def xXk(R:Rt)(az aA:Int)(dd:ByteArray)(cF ib:Int)(mT:ByteArray)(bF bG:Int)(cC:ByteArray)(ds:Ds)(w:World):Prop:=
 alE (.cells #[.int .i64 az,.int .i64 aA,.string dd] 28) w λr3 w1=>
 alE (.cells #[.int .i64 cF,.int .i64 ib,.string mT] 28) w1 λr4 w2=>
 alE (.cells #[.int .i64 bF,.int .i64 bG,.string cC] 28) w2 λr5 w3=>
 ∃fH,w3.cell? ((⟨r3,0,none⟩:Addr).add 0)=some (.int .i64 fH)/\
 ∃ni,w3.cell? ((⟨r3,0,none⟩:Addr).add 1)=some (.int .i64 ni)/\
 ∃nj,w3.cell? ((⟨r3,0,none⟩:Addr).add 2)=some (.string nj)/\
 ∃n8_0,w3.cell? ((⟨r4,0,none⟩:Addr).add 0)=some (.int .i64 n8_0)/\
 ∃n8_1,w3.cell? ((⟨r4,0,none⟩:Addr).add 1)=some (.int .i64 n8_1)/\
 ∃s8_2,w3.cell? ((⟨r4,0,none⟩:Addr).add 2)=some (.string s8_2)/\
 ∃b9:Bool,∃w4,(eqS .neq 28 (.tmp 7) (.tmp 8) (.agg #[.int .i64 fH,.int .i64 ni,.string nj]) (.agg #[.int .i64 n8_0,.int .i64 n8_1,.string s8_2])).run prog w3=.ok (.bool b9) w4/\
 Br b9 (
 ∃oM,w4.cell? ((⟨r5,0,none⟩:Addr).add 0)=some (.int .i64 oM)/\
 ∃fL,w4.cell? ((⟨r5,0,none⟩:Addr).add 1)=some (.int .i64 fL)/\
 ∃yu,w4.cell? ((⟨r5,0,none⟩:Addr).add 2)=some (.string yu)/\
 ∃oO,w4.cell? ((⟨r3,0,none⟩:Addr).add 0)=some (.int .i64 oO)/\
 ∃yv,w4.cell? ((⟨r3,0,none⟩:Addr).add 1)=some (.int .i64 yv)/\
 ∃yw,w4.cell? ((⟨r3,0,none⟩:Addr).add 2)=some (.string yw)/\
 ∃wZ:Bool,∃w5,(eqS .neq 28 (.tmp 11) (.tmp 12) (.agg #[.int .i64 oM,.int .i64 fL,.string yu]) (.agg #[.int .i64 oO,.int .i64 yv,.string yw])).run prog w4=.ok (.bool wZ) w5/\
 Br wZ (
 ∃yx,w5.cell? ((⟨r5,0,none⟩:Addr).add 0)=some (.int .i64 yx)/\
 ∃jE,w5.cell? ((⟨r5,0,none⟩:Addr).add 1)=some (.int .i64 jE)/\
 ∃yy,w5.cell? ((⟨r5,0,none⟩:Addr).add 2)=some (.string yy)/\
 ∃cD,w5.cell? ((⟨r4,0,none⟩:Addr).add 0)=some (.int .i64 cD)/\
 ∃fp,w5.cell? ((⟨r4,0,none⟩:Addr).add 1)=some (.int .i64 fp)/\
 ∃jl,w5.cell? ((⟨r4,0,none⟩:Addr).add 2)=some (.string jl)/\
 ∃b18:Bool,∃w6,(eqS .neq 28 (.tmp 16) (.tmp 17) (.agg #[.int .i64 yx,.int .i64 jE,.string yy]) (.agg #[.int .i64 cD,.int .i64 fp,.string jl])).run prog w5=.ok (.bool b18) w6/\
 zQe prog ds w6 λw7=>
 R (.returned (.bool b18)) w7) (
 zQe prog ds w5 λw8=>
 R (.returned (.bool false)) w8)) (
 zQe prog ds w4 λw9=>
 R (.returned (.bool false)) w9)
theorem F200_p:Pl prog f200 [aS 0 [.int .i64,.int .i64,.str],aS 1 [.int .i64,.int .i64,.str],aS 2 [.int .i64,.int .i64,.str]] xXk:=λR=>
 lf
theorem yZy (az aA:Int) (dd:ByteArray) (cF ib:Int) (mT:ByteArray) (bF bG:Int) (cC:ByteArray) (w:World) (R:Rt) (h:xXk R az aA dd cF ib mT bF bG cC [] w):Calls prog 200 #[.agg #[.int .i64 az,.int .i64 aA,.string dd],.agg #[.int .i64 cF,.int .i64 ib,.string mT],.agg #[.int .i64 bF,.int .i64 bG,.string cC]] w R:=
 plC F200_p func200 h
def xZW (R:Rt) (J1:(Int)->World->Prop) (p1 p2:Option Addr) (cI:SV) (fI du:Int) (ds:Ds) (w:World):Prop:=
 Br (decide (du<fI)) (
 ∃a1,cI.a=some a1/\0<=du/\du<(cI.len:Int)/\
 ∃yz,w.cell? ((a1.add (du.toNat * 3)).add 0)=some (.int .i64 yz)/\
 ∃nJ,w.cell? ((a1.add (du.toNat * 3)).add 1)=some (.int .i64 nJ)/\
 ∃yA,w.cell? ((a1.add (du.toNat * 3)).add 2)=some (.string yA)/\
 alE (.cells #[.int .i64 0,.int .i64 0,.string (⟨#[]⟩:ByteArray)] 28) w λr5 w2=>
 stA prog 28 (⟨r5,0,none⟩:Addr) #[.int .i64 yz,.int .i64 nJ,.string yA] w2 λw3=>
 dwE w3 λw4=>
 zQi p2 λa5=>
 ∃cL:SV,w4.cell? (a5.add 1)=some (cL.v)/\
 ∃a6,cL.a=some a6/\0<=du/\du<(cL.len:Int)/\
 ∃dG,w4.cell? ((a6.add (du.toNat * 3)).add 0)=some (.int .i64 dG)/\
 ∃fM,w4.cell? ((a6.add (du.toNat * 3)).add 1)=some (.int .i64 fM)/\
 ∃fN,w4.cell? ((a6.add (du.toNat * 3)).add 2)=some (.string fN)/\
 ∃yB,w4.cell? ((⟨r5,0,none⟩:Addr).add 0)=some (.int .i64 yB)/\
 ∃yC,w4.cell? ((⟨r5,0,none⟩:Addr).add 1)=some (.int .i64 yC)/\
 ∃yD,w4.cell? ((⟨r5,0,none⟩:Addr).add 2)=some (.string yD)/\
 ∃b35:Bool,(∀w,(eqS .neq 28 (.tmp 33) (.tmp 34) (.agg #[.int .i64 dG,.int .i64 fM,.string fN]) (.agg #[.int .i64 yB,.int .i64 yC,.string yD])).run prog w=.ok (.bool b35) w)/\
 Br b35 (
 dwE w4 λw7=>
 zQi p1 λa8=>
 ∃kM:SV,w7.cell? (a8.add 1)=some (kM.v)/\
 ∃yE,w7.cell? ((⟨r5,0,none⟩:Addr).add 0)=some (.int .i64 yE)/\
 ∃yF,w7.cell? ((⟨r5,0,none⟩:Addr).add 1)=some (.int .i64 yF)/\
 ∃yG,w7.cell? ((⟨r5,0,none⟩:Addr).add 2)=some (.string yG)/\
 ∃a9,kM.a=some a9/\0<=du/\du<(kM.len:Int)/\
 stA prog 28 (a9.add (du.toNat * 3)) #[.int .i64 yE,.int .i64 yF,.string yG] w7 λau=>
 J1 (IntKind.i64.wrap (du+1)) au) (
 J1 (IntKind.i64.wrap (du+1)) w4)) (
 zQe prog ds w λav=>
 R (.returned (.tuple #[])) av)
def yQv(R:Rt)(p1 p2:Option Addr)(cI:SV)(fI du:Int)(ds:Ds)(w:World):Prop:=
 zQ8 (λ(J1:(Int)->World->Prop) (s:Int) (w:World)=>xZW R J1 p1 p2 cI fI s ds w) du w
def xXz(R:Rt)(bH:Bool)(ai:SV)(ip:Bool)(bz:SV)(p1:Option Addr)(ds:Ds)(w:World):Prop:=
 alE (.cells #[.bool bH,ai.v,.bool ip,bz.v] 133) w λr2 ao=>
 ∃b8,ao.cell? (⟨r2,0,none⟩:Addr)=some (.bool b8)/\
 ∃wW,ao.cell? ((⟨r2,0,none⟩:Addr).add 2)=some (.bool wW)/\
 Br (!(b8 == wW)) (
 ∃kY,ao.cell? ((⟨r2,0,none⟩:Addr).add 2)=some (.bool kY)/\
 zQi p1 λdB=>
 st1 dB (.bool kY) ao λaI=>
 ∃cI:SV,aI.cell? (((⟨r2,0,none⟩:Addr).add 2).add 1)=some (cI.v)/\
 yQv R p1 (some (⟨r2,0,none⟩:Addr)) cI (cI.len:Int) 0 ds aI) (
 ∃cI:SV,ao.cell? (((⟨r2,0,none⟩:Addr).add 2).add 1)=some (cI.v)/\
 yQv R p1 (some (⟨r2,0,none⟩:Addr)) cI (cI.len:Int) 0 ds ao)
theorem F115_p:Pl prog f115 [aS 0 [.bool,.slice,.bool,.slice],pS 1] xXz:=λR=>
 pc 4 (zQz [pS 1,pS 2,lS 21,iS 22,iS 23] (yQv R) (bk 0 zXs (lp [iS 23] [pS 1,pS 2,lS 21,iS 22,iS 23] (xZW R) zXs λJ1=>lf)))
theorem yZN (bH:Bool) (ai:SV) (ip:Bool) (bz:SV) (p1:Option Addr) (w:World) (R:Rt) (h:xXz R bH ai ip bz p1 [] w):Calls prog 115 #[.agg #[.bool bH,ai.v,.bool ip,bz.v],.pointer p1] w R:=
 plC F115_p func115 h
def xZp (R:Rt) (J1:(Unit)->World->Prop) (p0:Option Addr) (n1:Int) (yH:Option Addr) (ds:Ds) (w:World):Prop:=
 (∃w1,(Instr.next (.pointer yH) false 0).run prog w=.ok (.tuple #[.bool false]) w1/\
 zQe prog ds w1 λw3=>
 R (.returned (.tuple #[])) w3)∨(∃k20 v20:Value,∃w2,(Instr.next (.pointer yH) false 0).run prog w=.ok (.tuple #[.bool true,k20,v20]) w2/\
 ∃k22 v22:Value,∃w4,(Instr.entry (.pointer yH)).run prog w2=.ok (.tuple #[k22,v22]) w4/\
 yQc .i64 k22 λdu=>
 yQc .i64 v22 λiL=>
 Br (iL == n1) (
 zQi p0 λa5=>
 ∃xQ,w4.cell? (a5.add 21)=some (.map xQ)/\
 ∃w6,(Builtin.delete_ #[80,3] 0 #[.map xQ,.int .i64 du]).run prog w4=.ok (.tuple #[]) w6/\
 J1 () w6) (
 J1 () w4))
def xZX(R:Rt)(p0:Option Addr)(n1:Int)(yH:Option Addr)(ds:Ds)(w:World):Prop:=
 zQ8 (λ(J1:(Unit)->World->Prop) (_:Unit) (w:World)=>xZp R J1 p0 n1 yH ds w) () w
def xQQ(R:Rt)(p0:Option Addr)(n1:Int)(p2:Option Addr)(ds:Ds)(w:World):Prop:=
 alE (.map #[] 0) w λfE w7=>
 zQi p2 λa8=>
 st1 (a8.add 2) (.map (some fE)) w7 λw9=>
 zQi p2 λcW=>
 st1 (cW.add 3) (.slice none 0 0) w9 λav=>
 zQi p0 λgL=>
 ∃m18,av.cell? (gL.add 21)=some (.map m18)/\
 ∃yH:Option Addr,∃aE,(Instr.range 80 (.map m18)).run prog av=.ok (.pointer yH) aE/\
 xZX R p0 n1 yH ds aE
theorem F116_p:Pl prog f116 [pS 0,iS 1,pS 2] xQQ:=λR=>
 pc 2 (zQz [pS 0,iS 1,pS 19] (xZX R) (bk 0 zXs (lp [] [pS 0,iS 1,pS 19] (xZp R) zXs λJ1=>lf)))
theorem yJF (p0:Option Addr) (n1:Int) (p2:Option Addr) (w:World) (R:Rt) (h:xQQ R p0 n1 p2 [] w):Calls prog 116 #[.pointer p0,.int .i64 n1,.pointer p2] w R:=
 plC F116_p func116 h
def F17_1(R:Rt)(p0:Option Addr)(n1:Int)(b2:Bool)(ds:Ds)(w:World):Prop:=
 Calls prog 47 #[.pointer p0,.int .i64 n1] w λe w1=>
 ∃jH:Option Addr,∃jI:Value,∃dI:Int,e=.returned (.tuple #[.pointer jH,jI,.int .i64 dI])/\
 fnE jI λfx firstx capx=>
 Br (dI != 0) (
 zQe prog ({ target:=.fn (.func fx) capx,args:=(firstx.toList ++ ([]:List Value)).toArray } :: ds) w1 λw2=>
 R (.returned (.tuple #[.slice none 0 0,.int .i64 dI])) w2) (
 Calls prog 55 #[.pointer p0,.int .i64 n1,.pointer jH,.bool b2] w1 λe w3=>
 ∃lM:SV,∃jk:Int,e=.returned (.tuple #[lM.v,.int .i64 jk])/\
 zQe prog ({ target:=.fn (.func fx) capx,args:=(firstx.toList ++ ([]:List Value)).toArray } :: ds) w3 λw4=>
 R (.returned (.tuple #[lM.v,.int .i64 jk])) w4)
theorem F17_p:Pl prog f17 [pS 0,iS 1,bS 2] F17_1:=λR=>
 lf
theorem yKm (p0:Option Addr) (n1:Int) (b2:Bool) (w:World) (R:Rt) (h:F17_1 R p0 n1 b2 [] w):Calls prog 17 #[.pointer p0,.int .i64 n1,.bool b2] w R:=
 plC F17_p func17 h
def F58_1(R:Rt)(p0:Option Addr)(n1:Int)(p2:Option Addr)(ds:Ds)(w:World):Prop:=
 dwE w λw1=>
 zQi p2 λa2=>
 ∃m11,w1.cell? (a2.add 2)=some (.map m11)/\
 ∃fo:Int,(Builtin.len_ #[88] 3 #[.map m11]).run prog w1=.ok (.int .i64 fo) w1/\
 zQi p2 λa3=>
 ∃iH:SV,w1.cell? (a3.add 3)=some (iH.v)/\
 zQi p2 λa4=>
 ∃fI,w1.cell? (a4.add 1)=some (.int .i64 fI)/\
 Br (decide (fI<0)) (
 zQi p2 λa5=>
 st1 (a5.add 1) (.int .i64 0) w1 λw6=>
 Calls prog 116 #[.pointer p0,.int .i64 n1,.pointer p2] w6 λe w7=>
 e=.returned (.tuple #[])/\
 zQe prog ds w7 λw8=>
 R (.returned (.int .i64 (IntKind.i64.wrap (fo+(iH.len:Int))))) w8) (
 Calls prog 116 #[.pointer p0,.int .i64 n1,.pointer p2] w1 λe w9=>
 e=.returned (.tuple #[])/\
 zQe prog ds w9 λau=>
 R (.returned (.int .i64 (IntKind.i64.wrap (fo+(iH.len:Int))))) au)
theorem F58_p:Pl prog f58 [pS 0,iS 1,pS 2] F58_1:=λR=>
 lf
theorem yWm (p0:Option Addr) (n1:Int) (p2:Option Addr) (w:World) (R:Rt) (h:F58_1 R p0 n1 p2 [] w):Calls prog 58 #[.pointer p0,.int .i64 n1,.pointer p2] w R:=
 plC F58_p func58 h
def F22_1(R:Rt)(p0:Option Addr)(n1:Int)(ds:Ds)(w:World):Prop:=
 Calls prog 47 #[.pointer p0,.int .i64 n1] w λe w1=>
 ∃oz:Option Addr,∃oB:Value,∃j9:Int,e=.returned (.tuple #[.pointer oz,oB,.int .i64 j9])/\
 fnE oB λfx firstx capx=>
 Br (j9 != 0) (
 zQe prog ({ target:=.fn (.func fx) capx,args:=(firstx.toList ++ ([]:List Value)).toArray } :: ds) w1 λw2=>
 R (.returned (.tuple #[.int .i64 0,.int .i64 j9])) w2) (
 Calls prog 58 #[.pointer p0,.int .i64 n1,.pointer oz] w1 λe w3=>
 ∃du:Int,e=.returned (.int .i64 du)/\
 zQe prog ({ target:=.fn (.func fx) capx,args:=(firstx.toList ++ ([]:List Value)).toArray } :: ds) w3 λw4=>
 R (.returned (.tuple #[.int .i64 du,.int .i64 0])) w4)
theorem F22_p:Pl prog f22 [pS 0,iS 1] F22_1:=λR=>
 lf
theorem yVk (p0:Option Addr) (n1:Int) (w:World) (R:Rt) (h:F22_1 R p0 n1 [] w):Calls prog 22 #[.pointer p0,.int .i64 n1] w R:=
 plC F22_p func22 h
def F31_1(R:Rt)(p0:Option Addr)(n1:Int)(ds:Ds)(w:World):Prop:=
 Calls prog 47 #[.pointer p0,.int .i64 n1] w λe w1=>
 ∃iq:Option Addr,∃yI:Value,∃gY:Int,e=.returned (.tuple #[.pointer iq,yI,.int .i64 gY])/\
 fnE yI λfx firstx capx=>
 Br (gY != 0) (
 zQe prog ({ target:=.fn (.func fx) capx,args:=(firstx.toList ++ ([]:List Value)).toArray } :: ds) w1 λw2=>
 R (.returned (.int .i64 gY)) w2) (
 Calls prog 58 #[.pointer p0,.int .i64 n1,.pointer iq] w1 λe w3=>
 ∃fI:Int,e=.returned (.int .i64 fI)/\
 zQi iq λa4=>
 st1 a4 (.int .i64 0) w3 λw5=>
 zQi iq λa6=>
 st1 (a6.add 1) (.int .i64 0) w5 λw7=>
 zQe prog ({ target:=.fn (.func fx) capx,args:=(firstx.toList ++ ([]:List Value)).toArray } :: ds) w7 λw8=>
 R (.returned (.int .i64 0)) w8)
theorem F31_p:Pl prog f31 [pS 0,iS 1] F31_1:=λR=>
 lf
theorem yVC (p0:Option Addr) (n1:Int) (w:World) (R:Rt) (h:F31_1 R p0 n1 [] w):Calls prog 31 #[.pointer p0,.int .i64 n1] w R:=
 plC F31_p func31 h
end Go.Proofs.YtcihcbfcgjepfaaGreatDoor
/- Shallow texts of functions, printed by program, each checked by the kernel against the loaded code. No condition. -/
namespace Go.Proofs.YtcihcbfcgjepfaaGreatDoor
open Go.Sh Tryz
def F83_1(R:Rt)(l8:SV)(ds:Ds)(w:World):Prop:=
 zQe prog ds w λw1=>
 R (.returned (.tuple #[l8.v,.int .i64 0])) w1
def yZv (R:Rt) (J1:(SV × Int)->World->Prop) (p2 p3:Option Addr) (l8:SV) (fU gl:Int) (ds:Ds) (w:World):Prop:=
 J1 (l8,(IntKind.i64.wrap (gl+1))) w
def F83_3 (R:Rt) (J1:(SV × Int)->World->Prop) (p2 p3:Option Addr) (l8:SV) (fU gl:Int) (ds:Ds) (w:World):Prop:=
 Br (decide (gl<fU)) (
 dwE w λw2=>
 zQi p2 λa3=>
 ∃kQ:SV,w2.cell? (a3.add 2)=some (kQ.v)/\
 Br (decide (gl >= (kQ.len:Int))) (
 alE (.cells #[.int .i64 (IntKind.i64.wrap (gl+1))] 3) w2 λr89 w4=>
 ∃fF:SV,∃w5,(Builtin.append_ #[43,43] 43 #[l8.v,.slice (some ⟨r89,0,none⟩) 1 1]).run prog w4=.ok (fF.v) w5/\
 yZv R J1 p2 p3 fF fU gl ds w5) (
 zQi p3 λa6=>
 ∃l51:SV,w2.cell? (a6.add 2)=some (l51.v)/\
 Br (decide (gl >= (l51.len:Int))) (
 alE (.cells #[.int .i64 (IntKind.i64.wrap (gl+1))] 3) w2 λr89 w7=>
 ∃fF:SV,∃w8,(Builtin.append_ #[43,43] 43 #[l8.v,.slice (some ⟨r89,0,none⟩) 1 1]).run prog w7=.ok (fF.v) w8/\
 yZv R J1 p2 p3 fF fU gl ds w8) (
 zQi p2 λa9=>
 ∃l57:SV,w2.cell? (a9.add 2)=some (l57.v)/\
 ∃cW,l57.a=some cW/\0<=gl/\gl<(l57.len:Int)/\
 ∃b61,w2.cell? (cW.add (gl.toNat * 2))=some (.bool b61)/\
 zQi p3 λgO=>
 ∃kN:SV,w2.cell? (gO.add 2)=some (kN.v)/\
 ∃gL,kN.a=some gL/\0<=gl/\gl<(kN.len:Int)/\
 ∃b67,w2.cell? (gL.add (gl.toNat * 2))=some (.bool b67)/\
 ∃b68:Bool,(∀w,(eqS .neq 4 (.tmp 61) (.tmp 67) (.bool b61) (.bool b67)).run prog w=.ok (.bool b68) w)/\
 Br b68 (
 alE (.cells #[.int .i64 (IntKind.i64.wrap (gl+1))] 3) w2 λr89 aE=>
 ∃fF:SV,∃aI,(Builtin.append_ #[43,43] 43 #[l8.v,.slice (some ⟨r89,0,none⟩) 1 1]).run prog aE=.ok (fF.v) aI/\
 yZv R J1 p2 p3 fF fU gl ds aI) (
 zQi p2 λrU=>
 ∃sN:SV,w2.cell? (rU.add 2)=some (sN.v)/\
 ∃na,sN.a=some na/\0<=gl/\gl<(sN.len:Int)/\
 ∃ro:SV,w2.cell? ((na.add (gl.toNat * 2)).add 1)=some (ro.v)/\
 zQi p3 λnc=>
 ∃sO:SV,w2.cell? (nc.add 2)=some (sO.v)/\
 ∃k6,sO.a=some k6/\0<=gl/\gl<(sO.len:Int)/\
 ∃mY:SV,w2.cell? ((k6.add (gl.toNat * 2)).add 1)=some (mY.v)/\
 Calls prog 137 #[ro.v,mY.v] w2 λe bE=>
 ∃b83:Bool,e=.returned (.bool b83)/\
 Br (!b83) (
 alE (.cells #[.int .i64 (IntKind.i64.wrap (gl+1))] 3) bE λr89 cX=>
 ∃fF:SV,∃cO,(Builtin.append_ #[43,43] 43 #[l8.v,.slice (some ⟨r89,0,none⟩) 1 1]).run prog cX=.ok (fF.v) cO/\
 yZv R J1 p2 p3 fF fU gl ds cO) (
 yZv R J1 p2 p3 l8 fU gl ds bE))))) (
 F83_1 R l8 ds w)
def F83_4(R:Rt)(p2 p3:Option Addr)(l8:SV)(fU gl:Int)(ds:Ds)(w:World):Prop:=
 zQ8 (λ(J1:(SV × Int)->World->Prop) (s:SV × Int) (w:World)=>F83_3 R J1 p2 p3 s.1 fU s.2 ds w) (l8,gl) w
def F83_6(R:Rt)(az:Int)(ai ax:SV)(cF:Int)(aJ cU:SV)(ds:Ds)(w:World):Prop:=
 alE (.cells #[.int .i64 az,ai.v,ax.v] 25) w λr2 cS=>
 alE (.cells #[.int .i64 cF,aJ.v,cU.v] 25) cS λr3 cJ=>
 ∃eQ,cJ.cell? ((⟨r2,0,none⟩:Addr).add 0)=some (.int .i64 eQ)/\
 ∃bh:SV,cJ.cell? ((⟨r2,0,none⟩:Addr).add 1)=some (bh.v)/\
 ∃bi:SV,cJ.cell? ((⟨r2,0,none⟩:Addr).add 2)=some (bi.v)/\
 Calls prog 38 #[.agg #[.int .i64 eQ,bh.v,bi.v]] cJ λe cP=>
 ∃dv:Int,e=.returned (.int .i64 dv)/\
 Br (dv != 0) (
 zQe prog ds cP λdQ=>
 R (.returned (.tuple #[.slice none 0 0,.int .i64 dv])) dQ) (
 ∃fV,cP.cell? ((⟨r3,0,none⟩:Addr).add 0)=some (.int .i64 fV)/\
 ∃eW:SV,cP.cell? ((⟨r3,0,none⟩:Addr).add 1)=some (eW.v)/\
 ∃eY:SV,cP.cell? ((⟨r3,0,none⟩:Addr).add 2)=some (eY.v)/\
 Calls prog 38 #[.agg #[.int .i64 fV,eW.v,eY.v]] cP λe bV=>
 ∃cE:Int,e=.returned (.int .i64 cE)/\
 Br (cE != 0) (
 zQe prog ds bV λdR=>
 R (.returned (.tuple #[.slice none 0 0,.int .i64 cE])) dR) (
 ∃qh,bV.cell? (⟨r2,0,none⟩:Addr)=some (.int .i64 qh)/\
 ∃du,bV.cell? (⟨r3,0,none⟩:Addr)=some (.int .i64 du)/\
 Br (qh != du) (
 zQe prog ds bV λcR=>
 R (.returned (.tuple #[.slice none 0 0,.int .i64 10])) cR) (
 ∃jW:SV,bV.cell? ((⟨r2,0,none⟩:Addr).add 1)=some (jW.v)/\
 ∃fA:SV,bV.cell? ((⟨r3,0,none⟩:Addr).add 1)=some (fA.v)/\
 Calls prog 136 #[jW.v,fA.v] bV λe dj=>
 ∃wM:Bool,e=.returned (.bool wM)/\
 Br (!wM) (
 zQe prog ds dj λdw=>
 R (.returned (.tuple #[.slice none 0 0,.int .i64 10])) dw) (
 ∃l34:SV,dj.cell? ((⟨r2,0,none⟩:Addr).add 2)=some (l34.v)/\
 ∃di:SV,dj.cell? ((⟨r3,0,none⟩:Addr).add 2)=some (di.v)/\
 ∃fU:Int,∃gB,(Builtin.max_ #[3,3] 3 #[.int .i64 (l34.len:Int),.int .i64 (di.len:Int)]).run prog dj=.ok (.int .i64 fU) gB/\
 F83_4 R (some (⟨r2,0,none⟩:Addr)) (some (⟨r3,0,none⟩:Addr)) ⟨none,0,0⟩ fU 0 ds gB))))
theorem F83_p:Pl prog f83 [aS 0 [.int .i64,.slice,.slice],aS 1 [.int .i64,.slice,.slice]] F83_6:=λR=>
 pc 11 (zQz [pS 2,pS 3,lS 8,iS 39,iS 40] (F83_4 R) (bk 0 (zQz [lS 8] (F83_1 R) lf) (lp [lS 8,iS 40] [pS 2,pS 3,lS 8,iS 39,iS 40] (F83_3 R) zXs λJ1=>pc 3 (zQz [pS 2,pS 3,lS 8,iS 39,iS 40] (yZv R J1) lf))))
theorem yVF (az:Int) (ai ax:SV) (cF:Int) (aJ cU:SV) (w:World) (R:Rt) (h:F83_6 R az ai ax cF aJ cU [] w):Calls prog 83 #[.agg #[.int .i64 az,ai.v,ax.v],.agg #[.int .i64 cF,aJ.v,cU.v]] w R:=
 plC F83_p func83 h
def xXQ(R:Rt)(ds:Ds)(w:World):Prop:=
 zQe prog ds w λw1=>
 R (.returned (.bool true)) w1
def xQH (R:Rt) (J1:(Int)->World->Prop) (l0 l1:SV) (fo ba:Int) (ds:Ds) (w:World):Prop:=
 Br (decide (ba<fo)) (
 dwE w λw2=>
 ∃a3,l0.a=some a3/\0<=ba/\ba<(l0.len:Int)/\
 ∃ju,w2.cell? ((a3.add (ba.toNat * 4)).add 0)=some (.string ju)/\
 ∃dH,w2.cell? ((a3.add (ba.toNat * 4)).add 1)=some (.int .i64 dH)/\
 ∃jv,w2.cell? ((a3.add (ba.toNat * 4)).add 2)=some (.int .i64 jv)/\
 ∃jw,w2.cell? ((a3.add (ba.toNat * 4)).add 3)=some (.bool jw)/\
 ∃a4,l1.a=some a4/\0<=ba/\ba<(l1.len:Int)/\
 ∃jA,w2.cell? ((a4.add (ba.toNat * 4)).add 0)=some (.string jA)/\
 ∃bM,w2.cell? ((a4.add (ba.toNat * 4)).add 1)=some (.int .i64 bM)/\
 ∃jB,w2.cell? ((a4.add (ba.toNat * 4)).add 2)=some (.int .i64 jB)/\
 ∃jC,w2.cell? ((a4.add (ba.toNat * 4)).add 3)=some (.bool jC)/\
 ∃b24:Bool,(∀w,(eqS .neq 38 (.tmp 19) (.tmp 23) (.agg #[.string ju,.int .i64 dH,.int .i64 jv,.bool jw]) (.agg #[.string jA,.int .i64 bM,.int .i64 jB,.bool jC])).run prog w=.ok (.bool b24) w)/\
 Br b24 (
 zQe prog ds w2 λw5=>
 R (.returned (.bool false)) w5) (
 J1 (IntKind.i64.wrap (ba+1)) w2)) (
 xXQ R ds w)
def xQG(R:Rt)(l0 l1:SV)(fo ba:Int)(ds:Ds)(w:World):Prop:=
 zQ8 (λ(J1:(Int)->World->Prop) (s:Int) (w:World)=>xQH R J1 l0 l1 fo s ds w) ba w
def xZg(R:Rt)(l0 l1:SV)(ds:Ds)(w:World):Prop:=
 Br ((l0.len:Int) != (l1.len:Int)) (
 zQe prog ds w λw6=>
 R (.returned (.bool false)) w6) (
 xQG R l0 l1 (l0.len:Int) 0 ds w)
theorem F136_p:Pl prog f136 [lS 0,lS 1] xZg:=λR=>
 pc 4 (zQz [lS 0,lS 1,iS 12,iS 13] (xQG R) (bk 0 (zQz [] (xXQ R) lf) (lp [iS 13] [lS 0,lS 1,iS 12,iS 13] (xQH R) zXs λJ1=>lf)))
theorem yZU (l0 l1:SV) (w:World) (R:Rt) (h:xZg R l0 l1 [] w):Calls prog 136 #[l0.v,l1.v] w R:=
 plC F136_p func136 h
def xX3(R:Rt)(ds:Ds)(w:World):Prop:=
 zQe prog ds w λw1=>
 R (.returned (.bool true)) w1
def xQX (R:Rt) (J1:(Int)->World->Prop) (l0 l1:SV) (fo ba:Int) (ds:Ds) (w:World):Prop:=
 Br (decide (ba<fo)) (
 dwE w λw2=>
 ∃a3,l0.a=some a3/\0<=ba/\ba<(l0.len:Int)/\
 ∃fq,w2.cell? ((a3.add (ba.toNat * 3)).add 0)=some (.int .i64 fq)/\
 ∃dH,w2.cell? ((a3.add (ba.toNat * 3)).add 1)=some (.int .i64 dH)/\
 ∃nN,w2.cell? ((a3.add (ba.toNat * 3)).add 2)=some (.string nN)/\
 ∃a4,l1.a=some a4/\0<=ba/\ba<(l1.len:Int)/\
 ∃ic,w2.cell? ((a4.add (ba.toNat * 3)).add 0)=some (.int .i64 ic)/\
 ∃bM,w2.cell? ((a4.add (ba.toNat * 3)).add 1)=some (.int .i64 bM)/\
 ∃nQ,w2.cell? ((a4.add (ba.toNat * 3)).add 2)=some (.string nQ)/\
 ∃b24:Bool,(∀w,(eqS .neq 28 (.tmp 19) (.tmp 23) (.agg #[.int .i64 fq,.int .i64 dH,.string nN]) (.agg #[.int .i64 ic,.int .i64 bM,.string nQ])).run prog w=.ok (.bool b24) w)/\
 Br b24 (
 zQe prog ds w2 λw5=>
 R (.returned (.bool false)) w5) (
 J1 (IntKind.i64.wrap (ba+1)) w2)) (
 xX3 R ds w)
def xXN(R:Rt)(l0 l1:SV)(fo ba:Int)(ds:Ds)(w:World):Prop:=
 zQ8 (λ(J1:(Int)->World->Prop) (s:Int) (w:World)=>xQX R J1 l0 l1 fo s ds w) ba w
def xXJ(R:Rt)(l0 l1:SV)(ds:Ds)(w:World):Prop:=
 Br ((l0.len:Int) != (l1.len:Int)) (
 zQe prog ds w λw6=>
 R (.returned (.bool false)) w6) (
 xXN R l0 l1 (l0.len:Int) 0 ds w)
theorem F137_p:Pl prog f137 [lS 0,lS 1] xXJ:=λR=>
 pc 4 (zQz [lS 0,lS 1,iS 12,iS 13] (xXN R) (bk 0 (zQz [] (xX3 R) lf) (lp [iS 13] [lS 0,lS 1,iS 12,iS 13] (xQX R) zXs λJ1=>lf)))
theorem yJE (l0 l1:SV) (w:World) (R:Rt) (h:xXJ R l0 l1 [] w):Calls prog 137 #[l0.v,l1.v] w R:=
 plC F137_p func137 h
def F59_1(R:Rt)(ds:Ds)(w:World):Prop:=
 zQe prog ds w λw1=>
 R (.returned (.bool true)) w1
def F59_2 (R:Rt) (J1:(Int)->World->Prop) (l0 l1:SV) (n5:Int) (ds:Ds) (w:World):Prop:=
 Br (decide (n5<(l0.len:Int))) (
 dwE w λw2=>
 ∃a3,l0.a=some a3/\0<=n5/\n5<(l0.len:Int)/\
 ∃yJ,w2.cell? ((a3.add (n5.toNat * 4)).add 0)=some (.string yJ)/\
 ∃dE,w2.cell? ((a3.add (n5.toNat * 4)).add 1)=some (.int .i64 dE)/\
 ∃lG,w2.cell? ((a3.add (n5.toNat * 4)).add 2)=some (.int .i64 lG)/\
 ∃yK,w2.cell? ((a3.add (n5.toNat * 4)).add 3)=some (.bool yK)/\
 ∃a4,l1.a=some a4/\0<=n5/\n5<(l1.len:Int)/\
 ∃nG,w2.cell? ((a4.add (n5.toNat * 4)).add 0)=some (.string nG)/\
 ∃cN,w2.cell? ((a4.add (n5.toNat * 4)).add 1)=some (.int .i64 cN)/\
 ∃nH,w2.cell? ((a4.add (n5.toNat * 4)).add 2)=some (.int .i64 nH)/\
 ∃nI,w2.cell? ((a4.add (n5.toNat * 4)).add 3)=some (.bool nI)/\
 ∃xH:Bool,(∀w,(eqS .neq 38 (.tmp 20) (.tmp 24) (.agg #[.string yJ,.int .i64 dE,.int .i64 lG,.bool yK]) (.agg #[.string nG,.int .i64 cN,.int .i64 nH,.bool nI])).run prog w=.ok (.bool xH) w)/\
 Br xH (
 zQe prog ds w2 λw5=>
 R (.returned (.bool false)) w5) (
 J1 (IntKind.i64.wrap (n5+1)) w2)) (
 F59_1 R ds w)
def F59_3(R:Rt)(l0 l1:SV)(n5:Int)(ds:Ds)(w:World):Prop:=
 zQ8 (λ(J1:(Int)->World->Prop) (s:Int) (w:World)=>F59_2 R J1 l0 l1 s ds w) n5 w
def F59_5(R:Rt)(l0 l1:SV)(ds:Ds)(w:World):Prop:=
 Br ((l0.len:Int) != (l1.len:Int)) (
 zQe prog ds w λw6=>
 R (.returned (.bool false)) w6) (
 F59_3 R l0 l1 0 ds w)
theorem F59_p:Pl prog f59 [lS 0,lS 1] F59_5:=λR=>
 pc 4 (zQz [lS 0,lS 1,iS 5] (F59_3 R) (bk 0 (zQz [] (F59_1 R) lf) (lp [iS 5] [lS 0,lS 1,iS 5] (F59_2 R) zXs λJ1=>lf)))
theorem yWs (l0 l1:SV) (w:World) (R:Rt) (h:F59_5 R l0 l1 [] w):Calls prog 59 #[l0.v,l1.v] w R:=
 plC F59_p func59 h
end Go.Proofs.YtcihcbfcgjepfaaGreatDoor
/- Shallow texts of functions, printed by program, each checked by the kernel against the loaded code. No condition. -/
namespace Go.Proofs.YtcihcbfcgjepfaaGreatDoor
open Go.Sh Tryz
def F61_1(R:Rt)(az:Int)(ai ax:SV)(ds:Ds)(w:World):Prop:=
 alE (.cells #[.int .i64 az,ai.v,ax.v] 25) w λr1 w1=>
 ∃n5_0,w1.cell? ((⟨r1,0,none⟩:Addr).add 0)=some (.int .i64 n5_0)/\
 ∃rr:SV,w1.cell? ((⟨r1,0,none⟩:Addr).add 1)=some (rr.v)/\
 ∃rt:SV,w1.cell? ((⟨r1,0,none⟩:Addr).add 2)=some (rt.v)/\
 Calls prog 12 #[.agg #[.int .i64 n5_0,rr.v,rt.v]] w1 λe w2=>
 ∃n6:Int,e=.returned (.int .i64 n6)/\
 Br (n6 != 0) (
 zQe prog ds w2 λw3=>
 R (.returned (.tuple #[.pointer none,.int .i64 n6])) w3) (
 ∃eQ,w2.cell? ((⟨r1,0,none⟩:Addr).add 0)=some (.int .i64 eQ)/\
 ∃bh:SV,w2.cell? ((⟨r1,0,none⟩:Addr).add 1)=some (bh.v)/\
 ∃bi:SV,w2.cell? ((⟨r1,0,none⟩:Addr).add 2)=some (bi.v)/\
 Calls prog 80 #[.agg #[.int .i64 eQ,bh.v,bi.v]] w2 λe w4=>
 ∃oM:Int,∃dZ:SV,∃lN:SV,e=.returned (.agg #[.int .i64 oM,dZ.v,lN.v])/\
 alE (.map #[] 0) w4 λrl w5=>
 alE (.cells #[.int .i64 oM,dZ.v,lN.v,.int .i64 0,.int .i64 0,.slice none 0 0,.slice none 0 0,.int .i64 0,.int .i64 0,.slice none 0 0,.slice none 0 0,.int .i64 0,.int .i64 0,.slice none 0 0,.slice none 0 0,.int .i64 0,.int .i64 0,.slice none 0 0,.slice none 0 0,.map (some rl)] 125) w5 λrq w6=>
 zQe prog ds w6 λw7=>
 R (.returned (.tuple #[.pointer (some (⟨rq,0,none⟩:Addr)),.int .i64 0])) w7)
theorem F61_p:Pl prog f61 [aS 0 [.int .i64,.slice,.slice]] F61_1:=λR=>
 lf
theorem yK9 (az:Int) (ai ax:SV) (w:World) (R:Rt) (h:F61_1 R az ai ax [] w):Calls prog 61 #[.agg #[.int .i64 az,ai.v,ax.v]] w R:=
 plC F61_p func61 h
def F62_1(R:Rt)(p0:Option Addr)(n1 n2:Int)(ds:Ds)(w:World):Prop:=
 Calls prog 118 #[.int .i64 n1] w λe w1=>
 ∃b8:Bool,e=.returned (.bool b8)/\
 Br (!b8) (
 zQe prog ds w1 λw2=>
 R (.returned (.int .i64 1)) w2) (
 Br (decide (n2<0)) (
 zQe prog ds w1 λw3=>
 R (.returned (.int .i64 1)) w3) (
 Br (decide (n2 > 4)) (
 zQe prog ds w1 λw4=>
 R (.returned (.int .i64 1)) w4) (
 Calls prog 119 #[.pointer p0,.int .i64 n1] w1 λe w5=>
 ∃b20:Bool,e=.returned (.bool b20)/\
 Br (!b20) (
 zQe prog ds w5 λw6=>
 R (.returned (.int .i64 9)) w6) (
 zQi p0 λa7=>
 0<=n1/\n1<(4:Int)/\
 st1 ((a7.add 3).add (n1.toNat * 4)) (.int .i64 n2) w5 λw8=>
 zQe prog ds w8 λw9=>
 R (.returned (.int .i64 0)) w9))))
theorem F62_p:Pl prog f62 [pS 0,iS 1,iS 2] F62_1:=λR=>
 lf
theorem yJT (p0:Option Addr) (n1 n2:Int) (w:World) (R:Rt) (h:F62_1 R p0 n1 n2 [] w):Calls prog 62 #[.pointer p0,.int .i64 n1,.int .i64 n2] w R:=
 plC F62_p func62 h
def yJq(R:Rt)(p0:Option Addr)(n1 n2:Int)(ds:Ds)(w:World):Prop:=
 zQi p0 λa1=>
 0<=n1/\n1<(4:Int)/\
 st1 (((a1.add 3).add (n1.toNat * 4)).add 1) (.int .i64 n2) w λw2=>
 zQe prog ds w2 λw3=>
 R (.returned (.int .i64 0)) w3
def F63_2(R:Rt)(p0:Option Addr)(n1 n2:Int)(ds:Ds)(w:World):Prop:=
 Calls prog 118 #[.int .i64 n1] w λe w4=>
 ∃iG:Bool,e=.returned (.bool iG)/\
 Br (!iG) (
 zQe prog ds w4 λw5=>
 R (.returned (.int .i64 1)) w5) (
 Calls prog 120 #[.pointer p0,.int .i64 n1,.int .i64 n2] w4 λe w6=>
 ∃hZ:Bool,e=.returned (.bool hZ)/\
 Br (!hZ) (
 zQe prog ds w6 λw7=>
 R (.returned (.int .i64 4)) w7) (
 Calls prog 121 #[.pointer p0,.int .i64 n1] w6 λe w8=>
 ∃xc:Bool,e=.returned (.bool xc)/\
 Br xc (
 zQi p0 λa9=>
 0<=n1/\n1<(4:Int)/\
 ∃fv,w8.cell? (((a9.add 3).add (n1.toNat * 4)).add 1)=some (.int .i64 fv)/\
 Br (n2 != fv) (
 Calls prog 119 #[.pointer p0,.int .i64 n1] w8 λe au=>
 ∃xz:Bool,e=.returned (.bool xz)/\
 Br (!xz) (
 Calls prog 71 #[.pointer p0,.int .i64 n1,.bool false] au λe av=>
 ∃sP:SV,∃lO:Int,e=.returned (.tuple #[sP.v,.int .i64 lO])/\
 Br (lO != 0) (
 zQe prog ds av λao=>
 R (.returned (.int .i64 lO)) ao) (
 yJq R p0 n1 n2 ds av)) (
 yJq R p0 n1 n2 ds au)) (
 yJq R p0 n1 n2 ds w8)) (
 yJq R p0 n1 n2 ds w8)))
theorem F63_p:Pl prog f63 [pS 0,iS 1,iS 2] F63_2:=λR=>
 pc 7 (zQz [pS 0,iS 1,iS 2] (yJq R) lf)
theorem yKq (p0:Option Addr) (n1 n2:Int) (w:World) (R:Rt) (h:F63_2 R p0 n1 n2 [] w):Calls prog 63 #[.pointer p0,.int .i64 n1,.int .i64 n2] w R:=
 plC F63_p func63 h
def F64_1(R:Rt)(p0:Option Addr)(n1:Int)(s2:ByteArray)(mW jO:Int)(mX:ByteArray)(ds:Ds)(w:World):Prop:=
 alE (.cells #[.int .i64 mW,.int .i64 jO,.string mX] 28) w λr7 w1=>
 Calls prog 118 #[.int .i64 n1] w1 λe w2=>
 ∃hZ:Bool,e=.returned (.bool hZ)/\
 Br (!hZ) (
 zQe prog ds w2 λw3=>
 R (.returned (.int .i64 1)) w3) (
 zQi p0 λa4=>
 0<=n1/\n1<(4:Int)/\
 ∃du,w2.cell? (((a4.add 3).add (n1.toNat * 4)).add 1)=some (.int .i64 du)/\
 Br (du == 0) (
 zQe prog ds w2 λw5=>
 R (.returned (.int .i64 9)) w5) (
 zQi p0 λa6=>
 ∃cL:SV,w2.cell? (a6.add 1)=some (cL.v)/\
 Calls prog 122 #[cL.v,.string s2] w2 λe w7=>
 ∃dc:Int,∃ol:Bool,e=.returned (.tuple #[.int .i64 dc,.bool ol])/\
 Br (!ol) (
 zQe prog ds w7 λw8=>
 R (.returned (.int .i64 4)) w8) (
 dwE w7 λw9=>
 ∃S1:World->Prop,S1 w9/\
 zQi p0 λcW=>
 ∃l42:SV,(∀w',S1 w'->w'.cell? (cW.add 1)=some (l42.v))/\
 ∃gO,l42.a=some gO/\0<=dc/\dc<(l42.len:Int)/\
 ∃sQ,(∀w',S1 w'->w'.cell? ((gO.add (dc.toNat * 4)).add 0)=some (.string sQ))/\
 ∃il,(∀w',S1 w'->w'.cell? ((gO.add (dc.toNat * 4)).add 1)=some (.int .i64 il))/\
 ∃sR,(∀w',S1 w'->w'.cell? ((gO.add (dc.toNat * 4)).add 2)=some (.int .i64 sR))/\
 ∃sT,(∀w',S1 w'->w'.cell? ((gO.add (dc.toNat * 4)).add 3)=some (.bool sT))/\
 zQi p0 λgL=>
 ∃n50,(∀w',S1 w'->w'.cell? gL=some (.int .i64 n50))/\
 ∃li,(∀w',S1 w'->w'.cell? ((⟨r7,0,none⟩:Addr).add 0)=some (.int .i64 li))/\
 ∃lj,(∀w',S1 w'->w'.cell? ((⟨r7,0,none⟩:Addr).add 1)=some (.int .i64 lj))/\
 ∃ll,(∀w',S1 w'->w'.cell? ((⟨r7,0,none⟩:Addr).add 2)=some (.string ll))/\
 (
 Calls prog 13 #[.agg #[.string sQ,.int .i64 il,.int .i64 sR,.bool sT],.int .i64 n50,.agg #[.int .i64 li,.int .i64 lj,.string ll]] w9 λe aE=>
 ∃ir:Int,∃iu:Int,∃iv:ByteArray,∃ka:Int,e=.returned (.tuple #[.agg #[.int .i64 ir,.int .i64 iu,.string iv],.int .i64 ka])/\
 alE (.cells #[.int .i64 0,.int .i64 0,.string (⟨#[]⟩:ByteArray)] 28) aE λmZ aI=>
 stA prog 28 (⟨mZ,0,none⟩:Addr) #[.int .i64 ir,.int .i64 iu,.string iv] aI λaD=>
 Br (ka != 0) (
 zQe prog ds aD λaU=>
 R (.returned (.int .i64 ka)) aU) (
 Calls prog 123 #[.pointer p0,.int .i64 n1] aD λe br=>
 ∃jJ:Option Addr,∃cG:Int,e=.returned (.tuple #[.pointer jJ,.int .i64 cG])/\
 Br (cG != 0) (
 zQe prog ds br λbD=>
 R (.returned (.int .i64 cG)) bD) (
 dwE br λbE=>
 zQi jJ λa20=>
 ∃oP:SV,bE.cell? (a20.add 1)=some (oP.v)/\
 ∃aW,bE.cell? ((⟨mZ,0,none⟩:Addr).add 0)=some (.int .i64 aW)/\
 ∃aX,bE.cell? ((⟨mZ,0,none⟩:Addr).add 1)=some (.int .i64 aX)/\
 ∃aY,bE.cell? ((⟨mZ,0,none⟩:Addr).add 2)=some (.string aY)/\
 ∃a21,oP.a=some a21/\0<=dc/\dc<(oP.len:Int)/\
 stA prog 28 (a21.add (dc.toNat * 3)) #[.int .i64 aW,.int .i64 aX,.string aY] bE λcS=>
 zQe prog ds cS λcJ=>
 R (.returned (.int .i64 0)) cJ)))/\(
 alE (.cells #[.int .i64 0,.int .i64 0,.string (⟨#[]⟩:ByteArray)] 28) w9 λmZ cP=>
 S1 cP/\
 Calls prog 13 #[.agg #[.string sQ,.int .i64 il,.int .i64 sR,.bool sT],.int .i64 n50,.agg #[.int .i64 li,.int .i64 lj,.string ll]] cP λe dQ=>
 ∃ir:Int,∃iu:Int,∃iv:ByteArray,∃ka:Int,e=.returned (.tuple #[.agg #[.int .i64 ir,.int .i64 iu,.string iv],.int .i64 ka])/\
 stA prog 28 (⟨mZ,0,none⟩:Addr) #[.int .i64 ir,.int .i64 iu,.string iv] dQ λbV=>
 Br (ka != 0) (
 zQe prog ds bV λdR=>
 R (.returned (.int .i64 ka)) dR) (
 Calls prog 123 #[.pointer p0,.int .i64 n1] bV λe cR=>
 ∃jJ:Option Addr,∃cG:Int,e=.returned (.tuple #[.pointer jJ,.int .i64 cG])/\
 Br (cG != 0) (
 zQe prog ds cR λdj=>
 R (.returned (.int .i64 cG)) dj) (
 dwE cR λdw=>
 zQi jJ λpE=>
 ∃oP:SV,dw.cell? (pE.add 1)=some (oP.v)/\
 ∃aW,dw.cell? ((⟨mZ,0,none⟩:Addr).add 0)=some (.int .i64 aW)/\
 ∃aX,dw.cell? ((⟨mZ,0,none⟩:Addr).add 1)=some (.int .i64 aX)/\
 ∃aY,dw.cell? ((⟨mZ,0,none⟩:Addr).add 2)=some (.string aY)/\
 ∃np,oP.a=some np/\0<=dc/\dc<(oP.len:Int)/\
 stA prog 28 (np.add (dc.toNat * 3)) #[.int .i64 aW,.int .i64 aX,.string aY] dw λcK=>
 zQe prog ds cK λbn=>
 R (.returned (.int .i64 0)) bn))))))
theorem F64_p:Pl prog f64 [pS 0,iS 1,sS 2,aS 3 [.int .i64,.int .i64,.str]] F64_1:=λR=>
 lf
theorem yVO (p0:Option Addr) (n1:Int) (s2:ByteArray) (mW jO:Int) (mX:ByteArray) (w:World) (R:Rt) (h:F64_1 R p0 n1 s2 mW jO mX [] w):Calls prog 64 #[.pointer p0,.int .i64 n1,.string s2,.agg #[.int .i64 mW,.int .i64 jO,.string mX]] w R:=
 plC F64_p func64 h
def F65_1(R:Rt)(p0:Option Addr)(n1:Int)(b2:Bool)(ds:Ds)(w:World):Prop:=
 Calls prog 118 #[.int .i64 n1] w λe w1=>
 ∃iG:Bool,e=.returned (.bool iG)/\
 Br (!iG) (
 zQe prog ds w1 λw2=>
 R (.returned (.int .i64 1)) w2) (
 zQi p0 λa3=>
 0<=n1/\n1<(4:Int)/\
 ∃gS,w1.cell? (((a3.add 3).add (n1.toNat * 4)).add 1)=some (.int .i64 gS)/\
 Br (gS == 0) (
 zQe prog ds w1 λw4=>
 R (.returned (.int .i64 9)) w4) (
 Calls prog 123 #[.pointer p0,.int .i64 n1] w1 λe w5=>
 ∃yL:Option Addr,∃bM:Int,e=.returned (.tuple #[.pointer yL,.int .i64 bM])/\
 Br (bM != 0) (
 zQe prog ds w5 λw6=>
 R (.returned (.int .i64 bM)) w6) (
 zQi yL λa7=>
 st1 a7 (.bool b2) w5 λw8=>
 zQe prog ds w8 λw9=>
 R (.returned (.int .i64 0)) w9)))
theorem F65_p:Pl prog f65 [pS 0,iS 1,bS 2] F65_1:=λR=>
 lf
theorem yVr (p0:Option Addr) (n1:Int) (b2:Bool) (w:World) (R:Rt) (h:F65_1 R p0 n1 b2 [] w):Calls prog 65 #[.pointer p0,.int .i64 n1,.bool b2] w R:=
 plC F65_p func65 h
def yV5(R:Rt)(p0:Option Addr)(n1:Int)(p8:Option Addr)(ds:Ds)(w:World):Prop:=
 zQi p0 λa1=>
 0<=n1/\n1<(4:Int)/\
 ∃lC,w.cell? ((a1.add 3).add (n1.toNat * 4))=some (.int .i64 lC)/\
 Br (lC == 0) (
 dwE w λw2=>
 ∃S1:World->Prop,S1 w2/\
 zQi p0 λa3=>
 ∃sc:SV,(∀w',S1 w'->w'.cell? (a3.add 2)=some (sc.v))/\
 zQi p8 λa4=>
 ∃yM,(∀w',S1 w'->w'.cell? (a4.add 0)=some (.bool yM))/\
 ∃lP:SV,(∀w',S1 w'->w'.cell? (a4.add 1)=some (lP.v))/\
 alE (.cells #[.bool yM,lP.v] 77) w2 λr54 w5=>
 S1 w5/\
 ∃l55:SV,∃w6,(Builtin.append_ #[23,23] 23 #[sc.v,.slice (some ⟨r54,0,none⟩) 1 1]).run prog w5=.ok (l55.v) w6/\
 zQi p0 λa7=>
 st1 (a7.add 2) (l55.v) w6 λw8=>
 dwE w8 λw9=>
 zQi p0 λcW=>
 ∃l65:SV,w9.cell? (cW.add 2)=some (l65.v)/\
 zQi p0 λgO=>
 0<=n1/\n1<(4:Int)/\
 st1 (((gO.add 3).add (n1.toNat * 4)).add 1) (.int .i64 (l65.len:Int)) w9 λao=>
 zQi p0 λdB=>
 0<=n1/\n1<(4:Int)/\
 ∃sU,ao.cell? (((dB.add 3).add (n1.toNat * 4)).add 1)=some (.int .i64 sU)/\
 zQe prog ds ao λaI=>
 R (.returned (.tuple #[.int .i64 sU,.int .i64 0])) aI) (
 dwE w λaD=>
 ∃S3:World->Prop,S3 aD/\
 zQi p0 λna=>
 0<=n1/\n1<(4:Int)/\
 ∃l79:SV,(∀w',S3 w'->w'.cell? (((na.add 3).add (n1.toNat * 4)).add 3)=some (l79.v))/\
 zQi p8 λnc=>
 ∃yN,(∀w',S3 w'->w'.cell? (nc.add 0)=some (.bool yN))/\
 ∃lQ:SV,(∀w',S3 w'->w'.cell? (nc.add 1)=some (lQ.v))/\
 zQi p0 λk6=>
 alE (.cells #[.bool yN,lQ.v] 77) aD λr81 bE=>
 S3 bE/\
 ∃mY:SV,∃cX,(Builtin.append_ #[23,23] 23 #[l79.v,.slice (some ⟨r81,0,none⟩) 1 1]).run prog bE=.ok (mY.v) cX/\
 0<=n1/\n1<(4:Int)/\
 st1 (((k6.add 3).add (n1.toNat * 4)).add 3) (mY.v) cX λcO=>
 dwE cO λcS=>
 zQi p0 λa23=>
 0<=n1/\n1<(4:Int)/\
 ∃l95:SV,cS.cell? (((a23.add 3).add (n1.toNat * 4)).add 3)=some (l95.v)/\
 zQi p0 λoe=>
 0<=n1/\n1<(4:Int)/\
 st1 (((oe.add 3).add (n1.toNat * 4)).add 1) (.int .i64 (IntKind.i64.wrap (0 - (l95.len:Int)))) cS λdQ=>
 zQi p0 λvG=>
 0<=n1/\n1<(4:Int)/\
 ∃sU,dQ.cell? (((vG.add 3).add (n1.toNat * 4)).add 1)=some (.int .i64 sU)/\
 zQe prog ds dQ λdR=>
 R (.returned (.tuple #[.int .i64 sU,.int .i64 0])) dR)
def F66_2(R:Rt)(p0:Option Addr)(n1:Int)(ds:Ds)(w:World):Prop:=
 Calls prog 118 #[.int .i64 n1] w λe cR=>
 ∃iG:Bool,e=.returned (.bool iG)/\
 Br (!iG) (
 zQe prog ds cR λdj=>
 R (.returned (.tuple #[.int .i64 0,.int .i64 1])) dj) (
 Calls prog 121 #[.pointer p0,.int .i64 n1] cR λe dw=>
 ∃ld:Bool,e=.returned (.bool ld)/\
 Br ld (
 Calls prog 119 #[.pointer p0,.int .i64 n1] dw λe gB=>
 ∃b18:Bool,e=.returned (.bool b18)/\
 Br (!b18) (
 Calls prog 71 #[.pointer p0,.int .i64 n1,.bool false] gB λe gZ=>
 ∃sV:SV,∃cN:Int,e=.returned (.tuple #[sV.v,.int .i64 cN])/\
 Br (cN != 0) (
 zQe prog ds gZ λcK=>
 R (.returned (.tuple #[.int .i64 0,.int .i64 cN])) cK) (
 Calls prog 124 #[.pointer p0] gZ λe bn=>
 ∃kW:Int,e=.returned (.int .i64 kW)/\
 Br (decide (kW >= 300)) (
 zQe prog ds bn λfT=>
 R (.returned (.tuple #[.int .i64 0,.int .i64 3])) fT) (
 zQi p0 λpP=>
 ∃di:SV,bn.cell? (pP.add 1)=some (di.v)/\
 Calls prog 125 #[di.v] bn λe j6=>
 ∃fZ:Bool,∃bj:SV,e=.returned (.agg #[.bool fZ,bj.v])/\
 alE (.cells #[.bool false,.slice none 0 0] 77) j6 λr8 iK=>
 stA prog 77 (⟨r8,0,none⟩:Addr) #[.bool fZ,bj.v] iK λiF=>
 yV5 R p0 n1 (some (⟨r8,0,none⟩:Addr)) ds iF))) (
 Calls prog 124 #[.pointer p0] gB λe iR=>
 ∃kW:Int,e=.returned (.int .i64 kW)/\
 Br (decide (kW >= 300)) (
 zQe prog ds iR λyk=>
 R (.returned (.tuple #[.int .i64 0,.int .i64 3])) yk) (
 zQi p0 λrW=>
 ∃di:SV,iR.cell? (rW.add 1)=some (di.v)/\
 Calls prog 125 #[di.v] iR λe jV=>
 ∃fZ:Bool,∃bj:SV,e=.returned (.agg #[.bool fZ,bj.v])/\
 alE (.cells #[.bool false,.slice none 0 0] 77) jV λr8 gM=>
 stA prog 77 (⟨r8,0,none⟩:Addr) #[.bool fZ,bj.v] gM λoG=>
 yV5 R p0 n1 (some (⟨r8,0,none⟩:Addr)) ds oG))) (
 Calls prog 124 #[.pointer p0] dw λe pX=>
 ∃kW:Int,e=.returned (.int .i64 kW)/\
 Br (decide (kW >= 300)) (
 zQe prog ds pX λpJ=>
 R (.returned (.tuple #[.int .i64 0,.int .i64 3])) pJ) (
 zQi p0 λa48=>
 ∃di:SV,pX.cell? (a48.add 1)=some (di.v)/\
 Calls prog 125 #[di.v] pX λe fw=>
 ∃fZ:Bool,∃bj:SV,e=.returned (.agg #[.bool fZ,bj.v])/\
 alE (.cells #[.bool false,.slice none 0 0] 77) fw λr8 yO=>
 stA prog 77 (⟨r8,0,none⟩:Addr) #[.bool fZ,bj.v] yO λvm=>
 yV5 R p0 n1 (some (⟨r8,0,none⟩:Addr)) ds vm)))
theorem F66_p:Pl prog f66 [pS 0,iS 1] F66_2:=λR=>
 pc 8 (zQz [pS 0,iS 1,pS 8] (yV5 R) lf)
theorem yKn (p0:Option Addr) (n1:Int) (w:World) (R:Rt) (h:F66_2 R p0 n1 [] w):Calls prog 66 #[.pointer p0,.int .i64 n1] w R:=
 plC F66_p func66 h
def F67_1(R:Rt)(p0:Option Addr)(n1 n2:Int)(s3:ByteArray)(ds:Ds)(w:World):Prop:=
 alE (.cells #[.int .i64 0,.int .i64 0,.string (⟨#[]⟩:ByteArray)] 28) w λr8 w1=>
 Calls prog 126 #[.pointer p0,.int .i64 n1,.int .i64 n2,.string s3,.bool false] w1 λe w2=>
 ∃iw:Int,∃iy:Int,∃iz:ByteArray,∃jx:Int,e=.returned (.tuple #[.agg #[.int .i64 iw,.int .i64 iy,.string iz],.int .i64 jx])/\
 stA prog 28 (⟨r8,0,none⟩:Addr) #[.int .i64 iw,.int .i64 iy,.string iz] w2 λw3=>
 zQe prog ds w3 λw4=>
 ∃aa,w4.cell? ((⟨r8,0,none⟩:Addr).add 0)=some (.int .i64 aa)/\
 ∃ac,w4.cell? ((⟨r8,0,none⟩:Addr).add 1)=some (.int .i64 ac)/\
 ∃ae,w4.cell? ((⟨r8,0,none⟩:Addr).add 2)=some (.string ae)/\
 R (.returned (.tuple #[.agg #[.int .i64 aa,.int .i64 ac,.string ae],.int .i64 jx])) w4
theorem F67_p:Pl prog f67 [pS 0,iS 1,iS 2,sS 3] F67_1:=λR=>
 lf
theorem yVN (p0:Option Addr) (n1 n2:Int) (s3:ByteArray) (w:World) (R:Rt) (h:F67_1 R p0 n1 n2 s3 [] w):Calls prog 67 #[.pointer p0,.int .i64 n1,.int .i64 n2,.string s3] w R:=
 plC F67_p func67 h
def F69_1(R:Rt)(p0:Option Addr)(n1 n2:Int)(s3:ByteArray)(ds:Ds)(w:World):Prop:=
 alE (.cells #[.int .i64 0,.int .i64 0,.string (⟨#[]⟩:ByteArray)] 28) w λr8 w1=>
 Calls prog 126 #[.pointer p0,.int .i64 n1,.int .i64 n2,.string s3,.bool true] w1 λe w2=>
 ∃iw:Int,∃iy:Int,∃iz:ByteArray,∃jx:Int,e=.returned (.tuple #[.agg #[.int .i64 iw,.int .i64 iy,.string iz],.int .i64 jx])/\
 stA prog 28 (⟨r8,0,none⟩:Addr) #[.int .i64 iw,.int .i64 iy,.string iz] w2 λw3=>
 zQe prog ds w3 λw4=>
 ∃aa,w4.cell? ((⟨r8,0,none⟩:Addr).add 0)=some (.int .i64 aa)/\
 ∃ac,w4.cell? ((⟨r8,0,none⟩:Addr).add 1)=some (.int .i64 ac)/\
 ∃ae,w4.cell? ((⟨r8,0,none⟩:Addr).add 2)=some (.string ae)/\
 R (.returned (.tuple #[.agg #[.int .i64 aa,.int .i64 ac,.string ae],.int .i64 jx])) w4
theorem F69_p:Pl prog f69 [pS 0,iS 1,iS 2,sS 3] F69_1:=λR=>
 lf
theorem yKL (p0:Option Addr) (n1 n2:Int) (s3:ByteArray) (w:World) (R:Rt) (h:F69_1 R p0 n1 n2 s3 [] w):Calls prog 69 #[.pointer p0,.int .i64 n1,.int .i64 n2,.string s3] w R:=
 plC F69_p func69 h
def F70_1(R:Rt)(p0:Option Addr)(n1:Int)(s2:ByteArray)(ds:Ds)(w:World):Prop:=
 alE (.cells #[.int .i64 0,.int .i64 0,.string (⟨#[]⟩:ByteArray)] 28) w λr6 w1=>
 zQi p0 λa2=>
 ∃dL:SV,w1.cell? (a2.add 1)=some (dL.v)/\
 Calls prog 122 #[dL.v,.string s2] w1 λe w3=>
 ∃cD:Int,∃yP:Bool,e=.returned (.tuple #[.int .i64 cD,.bool yP])/\
 Br (decide (n1<1)) (
 stA prog 28 (⟨r6,0,none⟩:Addr) #[.int .i64 0,.int .i64 0,.string (⟨#[]⟩:ByteArray)] w3 λw4=>
 zQe prog ds w4 λw5=>
 ∃aa,w5.cell? ((⟨r6,0,none⟩:Addr).add 0)=some (.int .i64 aa)/\
 ∃ac,w5.cell? ((⟨r6,0,none⟩:Addr).add 1)=some (.int .i64 ac)/\
 ∃ae,w5.cell? ((⟨r6,0,none⟩:Addr).add 2)=some (.string ae)/\
 R (.returned (.tuple #[.agg #[.int .i64 aa,.int .i64 ac,.string ae],.int .i64 4])) w5) (
 zQi p0 λa6=>
 ∃pI:SV,w3.cell? (a6.add 2)=some (pI.v)/\
 Br (decide (n1 > (pI.len:Int))) (
 stA prog 28 (⟨r6,0,none⟩:Addr) #[.int .i64 0,.int .i64 0,.string (⟨#[]⟩:ByteArray)] w3 λw7=>
 zQe prog ds w7 λw8=>
 ∃aa,w8.cell? ((⟨r6,0,none⟩:Addr).add 0)=some (.int .i64 aa)/\
 ∃ac,w8.cell? ((⟨r6,0,none⟩:Addr).add 1)=some (.int .i64 ac)/\
 ∃ae,w8.cell? ((⟨r6,0,none⟩:Addr).add 2)=some (.string ae)/\
 R (.returned (.tuple #[.agg #[.int .i64 aa,.int .i64 ac,.string ae],.int .i64 4])) w8) (
 Br (!yP) (
 stA prog 28 (⟨r6,0,none⟩:Addr) #[.int .i64 0,.int .i64 0,.string (⟨#[]⟩:ByteArray)] w3 λw9=>
 zQe prog ds w9 λau=>
 ∃aa,au.cell? ((⟨r6,0,none⟩:Addr).add 0)=some (.int .i64 aa)/\
 ∃ac,au.cell? ((⟨r6,0,none⟩:Addr).add 1)=some (.int .i64 ac)/\
 ∃ae,au.cell? ((⟨r6,0,none⟩:Addr).add 2)=some (.string ae)/\
 R (.returned (.tuple #[.agg #[.int .i64 aa,.int .i64 ac,.string ae],.int .i64 4])) au) (
 zQi p0 λgO=>
 ∃iQ:SV,w3.cell? (gO.add 2)=some (iQ.v)/\
 ∃gL,iQ.a=some gL/\0<=(IntKind.i64.wrap (n1 - 1))/\(IntKind.i64.wrap (n1 - 1))<(iQ.len:Int)/\
 ∃l46:SV,w3.cell? ((gL.add ((IntKind.i64.wrap (n1 - 1)).toNat * 2)).add 1)=some (l46.v)/\
 ∃dB,l46.a=some dB/\0<=cD/\cD<(l46.len:Int)/\
 ∃fQ,w3.cell? ((dB.add (cD.toNat * 3)).add 0)=some (.int .i64 fQ)/\
 ∃fR,w3.cell? ((dB.add (cD.toNat * 3)).add 1)=some (.int .i64 fR)/\
 ∃fS,w3.cell? ((dB.add (cD.toNat * 3)).add 2)=some (.string fS)/\
 stA prog 28 (⟨r6,0,none⟩:Addr) #[.int .i64 fQ,.int .i64 fR,.string fS] w3 λaI=>
 zQe prog ds aI λaD=>
 ∃aa,aD.cell? ((⟨r6,0,none⟩:Addr).add 0)=some (.int .i64 aa)/\
 ∃ac,aD.cell? ((⟨r6,0,none⟩:Addr).add 1)=some (.int .i64 ac)/\
 ∃ae,aD.cell? ((⟨r6,0,none⟩:Addr).add 2)=some (.string ae)/\
 R (.returned (.tuple #[.agg #[.int .i64 aa,.int .i64 ac,.string ae],.int .i64 0])) aD)))
theorem F70_p:Pl prog f70 [pS 0,iS 1,sS 2] F70_1:=λR=>
 lf
theorem yKG (p0:Option Addr) (n1:Int) (s2:ByteArray) (w:World) (R:Rt) (h:F70_1 R p0 n1 s2 [] w):Calls prog 70 #[.pointer p0,.int .i64 n1,.string s2] w R:=
 plC F70_p func70 h
def F71_1(R:Rt)(p0:Option Addr)(n1:Int)(fu:Option Addr)(de:SV)(ds:Ds)(w:World):Prop:=
 zQi fu λa1=>
 ∃n182,w.cell? (a1.add 1)=some (.int .i64 n182)/\
 Br (decide (n182<0)) (
 zQi fu λa2=>
 ∃n189,w.cell? (a2.add 1)=some (.int .i64 n189)/\
 ∃a3,de.a=some a3/\0<=(IntKind.i64.wrap ((IntKind.i64.wrap (0 - n189)) - 1))/\(IntKind.i64.wrap ((IntKind.i64.wrap (0 - n189)) - 1))<(de.len:Int)/\
 ∃n193,w.cell? (a3.add ((IntKind.i64.wrap ((IntKind.i64.wrap (0 - n189)) - 1)).toNat * 1))=some (.int .i64 n193)/\
 zQi fu λa4=>
 st1 (a4.add 1) (.int .i64 n193) w λw5=>
 Calls prog 127 #[.pointer p0,.int .i64 n1] w5 λe w6=>
 e=.returned (.tuple #[])/\
 zQe prog ds w6 λw7=>
 R (.returned (.tuple #[de.v,.int .i64 0])) w7) (
 Calls prog 127 #[.pointer p0,.int .i64 n1] w λe w8=>
 e=.returned (.tuple #[])/\
 zQe prog ds w8 λw9=>
 R (.returned (.tuple #[de.v,.int .i64 0])) w9)
def F71_2 (R:Rt) (J1:(SV × Int)->World->Prop) (p0:Option Addr) (n1:Int) (fu:Option Addr) (de:SV) (gS:Int) (ds:Ds) (w:World):Prop:=
 zQi fu λcW=>
 ∃vJ:SV,w.cell? (cW.add 3)=some (vJ.v)/\
 Br (decide (gS<(vJ.len:Int))) (
 dwE w λav=>
 ∃S1:World->Prop,S1 av/\
 zQi p0 λgL=>
 ∃ru:SV,(∀w',S1 w'->w'.cell? (gL.add 2)=some (ru.v))/\
 zQi fu λdB=>
 ∃sW:SV,(∀w',S1 w'->w'.cell? (dB.add 3)=some (sW.v))/\
 ∃fi,sW.a=some fi/\0<=gS/\gS<(sW.len:Int)/\
 ∃sX,(∀w',S1 w'->w'.cell? ((fi.add (gS.toNat * 2)).add 0)=some (.bool sX))/\
 ∃iT:SV,(∀w',S1 w'->w'.cell? ((fi.add (gS.toNat * 2)).add 1)=some (iT.v))/\
 alE (.cells #[.bool sX,iT.v] 77) av λr165 aD=>
 S1 aD/\
 ∃ry:SV,∃aU,(Builtin.append_ #[23,23] 23 #[ru.v,.slice (some ⟨r165,0,none⟩) 1 1]).run prog aD=.ok (ry.v) aU/\
 zQi p0 λnc=>
 st1 (nc.add 2) (ry.v) aU λbD=>
 zQi p0 λj4=>
 ∃vK:SV,bD.cell? (j4.add 2)=some (vK.v)/\
 alE (.cells #[.int .i64 (vK.len:Int)] 3) bD λr177 cX=>
 ∃vL:SV,∃cO,(Builtin.append_ #[43,43] 43 #[de.v,.slice (some ⟨r177,0,none⟩) 1 1]).run prog cX=.ok (vL.v) cO/\
 J1 (vL,(IntKind.i64.wrap (gS+1))) cO) (
 F71_1 R p0 n1 fu de ds w)
def F71_3(R:Rt)(p0:Option Addr)(n1:Int)(fu:Option Addr)(de:SV)(gS:Int)(ds:Ds)(w:World):Prop:=
 zQ8 (λ(J1:(SV × Int)->World->Prop) (s:SV × Int) (w:World)=>F71_2 R J1 p0 n1 fu s.1 s.2 ds w) (de,gS) w
def xKd(R:Rt)(p0:Option Addr)(n1:Int)(fu:Option Addr)(ds:Ds)(w:World):Prop:=
 F71_3 R p0 n1 fu ⟨none,0,0⟩ 0 ds w
def xJI (R:Rt) (J1:(Int)->World->Prop) (p0:Option Addr) (n1:Int) (fu:Option Addr) (ba:Int) (ds:Ds) (w:World):Prop:=
 J1 (IntKind.i64.wrap (ba+1)) w
def F71_7 (R:Rt) (J1:(Int)->World->Prop) (p0:Option Addr) (n1:Int) (fu:Option Addr) (ba:Int) (vn pK:Option Addr) (ds:Ds) (w:World):Prop:=
 zQi vn λrm=>
 ∃b132,w.cell? (rm.add 1)=some (.bool b132)/\
 zQi vn λa23=>
 ∃b135,w.cell? (a23.add 3)=some (.bool b135)/\
 Br (!(b132 == b135)) (
 zQi vn λoe=>
 ∃b140,w.cell? (oe.add 3)=some (.bool b140)/\
 zQi pK λj5=>
 st1 j5 (.bool b140) w λbV=>
 xJI R J1 p0 n1 fu ba ds bV) (
 xJI R J1 p0 n1 fu ba ds w)
def F71_8 (R:Rt) (J1:(Int)->World->Prop) (J2:(Int)->World->Prop) (p0:Option Addr) (n1:Int) (fu:Option Addr) (ba:Int) (vn pK:Option Addr) (cE:Int) (ds:Ds) (w:World):Prop:=
 zQi pK λu7=>
 ∃l99:SV,w.cell? (u7.add 1)=some (l99.v)/\
 Br (decide (cE<(l99.len:Int))) (
 dwE w λcR=>
 zQi vn λmV=>
 ∃gF:SV,cR.cell? ((mV.add 1).add 1)=some (gF.v)/\
 ∃pO,gF.a=some pO/\0<=cE/\cE<(gF.len:Int)/\
 ∃sY,cR.cell? ((pO.add (cE.toNat * 3)).add 0)=some (.int .i64 sY)/\
 ∃sZ,cR.cell? ((pO.add (cE.toNat * 3)).add 1)=some (.int .i64 sZ)/\
 ∃ta,cR.cell? ((pO.add (cE.toNat * 3)).add 2)=some (.string ta)/\
 zQi vn λpE=>
 ∃kb:SV,cR.cell? ((pE.add 3).add 1)=some (kb.v)/\
 ∃np,kb.a=some np/\0<=cE/\cE<(kb.len:Int)/\
 ∃tc,cR.cell? ((np.add (cE.toNat * 3)).add 0)=some (.int .i64 tc)/\
 ∃td,cR.cell? ((np.add (cE.toNat * 3)).add 1)=some (.int .i64 td)/\
 ∃te,cR.cell? ((np.add (cE.toNat * 3)).add 2)=some (.string te)/\
 Calls prog 19 #[.agg #[.int .i64 sY,.int .i64 sZ,.string ta],.agg #[.int .i64 tc,.int .i64 td,.string te]] cR λe cK=>
 ∃b116:Bool,e=.returned (.bool b116)/\
 Br (!b116) (
 dwE cK λbn=>
 zQi pK λvD=>
 ∃tf:SV,bn.cell? (vD.add 1)=some (tf.v)/\
 zQi vn λpP=>
 ∃tg:SV,bn.cell? ((pP.add 3).add 1)=some (tg.v)/\
 ∃a37,tg.a=some a37/\0<=cE/\cE<(tg.len:Int)/\
 ∃th,bn.cell? ((a37.add (cE.toNat * 3)).add 0)=some (.int .i64 th)/\
 ∃tj,bn.cell? ((a37.add (cE.toNat * 3)).add 1)=some (.int .i64 tj)/\
 ∃tk,bn.cell? ((a37.add (cE.toNat * 3)).add 2)=some (.string tk)/\
 ∃a38,tf.a=some a38/\0<=cE/\cE<(tf.len:Int)/\
 stA prog 28 (a38.add (cE.toNat * 3)) #[.int .i64 th,.int .i64 tj,.string tk] bn λiF=>
 J2 (IntKind.i64.wrap (cE+1)) iF) (
 J2 (IntKind.i64.wrap (cE+1)) cK)) (
 F71_7 R J1 p0 n1 fu ba vn pK ds w)
def xJJ (R:Rt) (J1:(Int)->World->Prop) (p0:Option Addr) (n1:Int) (fu:Option Addr) (ba:Int) (vn pK:Option Addr) (cE:Int) (ds:Ds) (w:World):Prop:=
 zQ8 (λ(J2:(Int)->World->Prop) (s:Int) (w:World)=>F71_8 R J1 J2 p0 n1 fu ba vn pK s ds w) cE w
def xXZ (R:Rt) (J1:(Int)->World->Prop) (p0:Option Addr) (n1:Int) (fu:Option Addr) (ba:Int) (ds:Ds) (w:World):Prop:=
 zQi fu λa40=>
 ∃mY:SV,w.cell? (a40.add 2)=some (mY.v)/\
 ∃mQ,mY.a=some mQ/\0<=ba/\ba<(mY.len:Int)/\
 ∃yQ,w.cell? ((mQ.add (ba.toNat * 5)).add 0)=some (.int .i64 yQ)/\
 ∃yR,w.cell? ((mQ.add (ba.toNat * 5)).add 1)=some (.bool yR)/\
 ∃lR:SV,w.cell? ((mQ.add (ba.toNat * 5)).add 2)=some (lR.v)/\
 ∃yS,w.cell? ((mQ.add (ba.toNat * 5)).add 3)=some (.bool yS)/\
 ∃lT:SV,w.cell? ((mQ.add (ba.toNat * 5)).add 4)=some (lT.v)/\
 alE (.cells #[.int .i64 0,.bool false,.slice none 0 0,.bool false,.slice none 0 0] 136) w λrq pY=>
 stA prog 136 (⟨rq,0,none⟩:Addr) #[.int .i64 yQ,.bool yR,lR.v,.bool yS,lT.v] pY λjV=>
 dwE jV λgM=>
 zQi p0 λpF=>
 ∃fF:SV,gM.cell? (pF.add 2)=some (fF.v)/\
 ∃n92,gM.cell? (⟨rq,0,none⟩:Addr)=some (.int .i64 n92)/\
 ∃a46,fF.a=some a46/\0<=(IntKind.i64.wrap (n92 - 1))/\(IntKind.i64.wrap (n92 - 1))<(fF.len:Int)/\
 xJJ R J1 p0 n1 fu ba (some (⟨rq,0,none⟩:Addr)) (some (a46.add ((IntKind.i64.wrap (n92 - 1)).toNat * 2))) 0 ds gM
def xXf (R:Rt) (J1:(Int)->World->Prop) (p0:Option Addr) (n1:Int) (fu:Option Addr) (ba:Int) (ds:Ds) (w:World):Prop:=
 zQi fu λa47=>
 ∃kP:SV,w.cell? (a47.add 2)=some (kP.v)/\
 Br (decide (ba<(kP.len:Int))) (
 xXZ R J1 p0 n1 fu ba ds w) (
 xKd R p0 n1 fu ds w)
def xZN(R:Rt)(p0:Option Addr)(n1:Int)(fu:Option Addr)(ba:Int)(ds:Ds)(w:World):Prop:=
 zQ8 (λ(J1:(Int)->World->Prop) (s:Int) (w:World)=>xXf R J1 p0 n1 fu s ds w) ba w
def yKH(R:Rt)(p0:Option Addr)(n1:Int)(fu:Option Addr)(ds:Ds)(w:World):Prop:=
 xZN R p0 n1 fu 0 ds w
def xZJ (R:Rt) (J1:(Int)->World->Prop) (p0:Option Addr) (n1:Int) (fu:Option Addr) (dv:Int) (ds:Ds) (w:World):Prop:=
 zQi fu λa48=>
 ∃tl:SV,w.cell? (a48.add 2)=some (tl.v)/\
 Br (decide (dv<(tl.len:Int))) (
 dwE w λfw=>
 zQi p0 λa50=>
 ∃m52,fw.cell? (a50.add 19)=some (.map m52)/\
 zQi fu λa51=>
 ∃vo:SV,fw.cell? (a51.add 2)=some (vo.v)/\
 ∃a52,vo.a=some a52/\0<=dv/\dv<(vo.len:Int)/\
 ∃n60,fw.cell? (a52.add (dv.toNat * 5))=some (.int .i64 n60)/\
 ∃n61:Int,(Instr.lookup 80 (.map m52) (.int .i64 n60) false).run prog fw=.ok (.int .i64 n61) fw/\
 Br (n61 != 0) (
 Br (n61 != (IntKind.i64.wrap (n1+1))) (
 zQe prog ds fw λnv=>
 R (.returned (.tuple #[.slice none 0 0,.int .i64 12])) nv) (
 J1 (IntKind.i64.wrap (dv+1)) fw)) (
 J1 (IntKind.i64.wrap (dv+1)) fw)) (
 yKH R p0 n1 fu ds w)
def yXH(R:Rt)(p0:Option Addr)(n1:Int)(fu:Option Addr)(dv:Int)(ds:Ds)(w:World):Prop:=
 zQ8 (λ(J1:(Int)->World->Prop) (s:Int) (w:World)=>xZJ R J1 p0 n1 fu s ds w) dv w
def xZT(R:Rt)(p0:Option Addr)(n1:Int)(b2:Bool)(ds:Ds)(w:World):Prop:=
 Calls prog 79 #[.pointer p0,.int .i64 n1] w λe lg=>
 ∃qO:SV,∃ln:Int,e=.returned (.tuple #[qO.v,.int .i64 ln])/\
 Br (ln != 0) (
 zQe prog ds lg λw55=>
 R (.returned (.tuple #[.slice none 0 0,.int .i64 ln])) w55) (
 Br (decide ((qO.len:Int) > 0)) (
 Br (!b2) (
 zQe prog ds lg λwK=>
 R (.returned (.tuple #[.slice none 0 0,.int .i64 13])) wK) (
 zQi p0 λa57=>
 0<=n1/\n1<(4:Int)/\
 yXH R p0 n1 (some ((a57.add 3).add (n1.toNat * 4))) 0 ds lg)) (
 zQi p0 λa58=>
 0<=n1/\n1<(4:Int)/\
 yXH R p0 n1 (some ((a58.add 3).add (n1.toNat * 4))) 0 ds lg))
theorem F71_p:Pl prog f71 [pS 0,iS 1,bS 2] xZT:=λR=>
 pc 8 (zQz [pS 0,iS 1,pS 10,iS 11] (yXH R) (bk 0 (zQz [pS 0,iS 1,pS 10] (yKH R) (pc 1 (zQz [pS 0,iS 1,pS 10,iS 13] (xZN R) (bk 2 (zQz [pS 0,iS 1,pS 10] (xKd R) (pc 2 (zQz [pS 0,iS 1,pS 10,lS 17,iS 18] (F71_3 R) (bk 6 (zQz [pS 0,iS 1,pS 10,lS 17] (F71_1 R) lf) (lp [lS 17,iS 18] [pS 0,iS 1,pS 10,lS 17,iS 18] (F71_2 R) zXs λJ1=>lf))))) (lp [iS 13] [pS 0,iS 1,pS 10,iS 13] (xXf R) zXs λJ1=>pc 2 (zQz [pS 0,iS 1,pS 10,iS 13] (xXZ R J1) (bk 3 (zQz [pS 0,iS 1,pS 10,iS 13] (xJI R J1) lf) (pc 3 (zQz [pS 0,iS 1,pS 10,iS 13,pS 14,pS 15,iS 16] (xJJ R J1) (bk 4 (zQz [pS 0,iS 1,pS 10,iS 13,pS 14,pS 15] (F71_7 R J1) lf) (lp [iS 16] [pS 0,iS 1,pS 10,iS 13,pS 14,pS 15,iS 16] (F71_8 R J1) zXs λJ2=>lf))))))))))) (lp [iS 11] [pS 0,iS 1,pS 10,iS 11] (xZJ R) zXs λJ1=>lf)))
theorem yKJ (p0:Option Addr) (n1:Int) (b2:Bool) (w:World) (R:Rt) (h:xZT R p0 n1 b2 [] w):Calls prog 71 #[.pointer p0,.int .i64 n1,.bool b2] w R:=
 plC F71_p func71 h
def F73_1(R:Rt)(p0:Option Addr)(n1:Int)(ds:Ds)(w:World):Prop:=
 Calls prog 118 #[.int .i64 n1] w λe w1=>
 ∃b8:Bool,e=.returned (.bool b8)/\
 Br (!b8) (
 zQe prog ds w1 λw2=>
 R (.returned (.tuple #[.int .i64 0,.int .i64 1])) w2) (
 dwE w1 λw3=>
 zQi p0 λa4=>
 0<=n1/\n1<(4:Int)/\
 ∃iH:SV,w3.cell? (((a4.add 3).add (n1.toNat * 4)).add 2)=some (iH.v)/\
 zQi p0 λa5=>
 0<=n1/\n1<(4:Int)/\
 ∃vp:SV,w3.cell? (((a5.add 3).add (n1.toNat * 4)).add 3)=some (vp.v)/\
 zQi p0 λa6=>
 0<=n1/\n1<(4:Int)/\
 ∃ji,w3.cell? (((a6.add 3).add (n1.toNat * 4)).add 1)=some (.int .i64 ji)/\
 Br (decide (ji<0)) (
 zQi p0 λa7=>
 0<=n1/\n1<(4:Int)/\
 st1 (((a7.add 3).add (n1.toNat * 4)).add 1) (.int .i64 0) w3 λw8=>
 Calls prog 127 #[.pointer p0,.int .i64 n1] w8 λe w9=>
 e=.returned (.tuple #[])/\
 zQe prog ds w9 λau=>
 R (.returned (.tuple #[.int .i64 (IntKind.i64.wrap ((iH.len:Int)+(vp.len:Int))),.int .i64 0])) au) (
 Calls prog 127 #[.pointer p0,.int .i64 n1] w3 λe av=>
 e=.returned (.tuple #[])/\
 zQe prog ds av λao=>
 R (.returned (.tuple #[.int .i64 (IntKind.i64.wrap ((iH.len:Int)+(vp.len:Int))),.int .i64 0])) ao))
theorem F73_p:Pl prog f73 [pS 0,iS 1] F73_1:=λR=>
 lf
theorem yVS (p0:Option Addr) (n1:Int) (w:World) (R:Rt) (h:F73_1 R p0 n1 [] w):Calls prog 73 #[.pointer p0,.int .i64 n1] w R:=
 plC F73_p func73 h
def F74_1(R:Rt)(p0:Option Addr)(n1:Int)(ds:Ds)(w:World):Prop:=
 Calls prog 73 #[.pointer p0,.int .i64 n1] w λe w1=>
 ∃eQ:Int,∃kZ:Int,e=.returned (.tuple #[.int .i64 eQ,.int .i64 kZ])/\
 Br (kZ != 0) (
 zQe prog ds w1 λw2=>
 R (.returned (.int .i64 kZ)) w2) (
 zQi p0 λa3=>
 0<=n1/\n1<(4:Int)/\
 stA prog 122 ((a3.add 3).add (n1.toNat * 4)) #[.int .i64 0,.int .i64 0,.slice none 0 0,.slice none 0 0] w1 λw4=>
 zQe prog ds w4 λw5=>
 R (.returned (.int .i64 0)) w5)
theorem F74_p:Pl prog f74 [pS 0,iS 1] F74_1:=λR=>
 lf
theorem yKz (p0:Option Addr) (n1:Int) (w:World) (R:Rt) (h:F74_1 R p0 n1 [] w):Calls prog 74 #[.pointer p0,.int .i64 n1] w R:=
 plC F74_p func74 h
def F75_1(R:Rt)(p0:Option Addr)(n1:Int)(ds:Ds)(w:World):Prop:=
 Br (decide (n1<1)) (
 zQe prog ds w λw1=>
 R (.returned (.tuple #[.int .i64 0,.bool false,.int .i64 4])) w1) (
 zQi p0 λa2=>
 ∃iH:SV,w.cell? (a2.add 2)=some (iH.v)/\
 Br (decide (n1 > (iH.len:Int))) (
 zQe prog ds w λw3=>
 R (.returned (.tuple #[.int .i64 0,.bool false,.int .i64 4])) w3) (
 zQi p0 λa4=>
 ∃m23,w.cell? (a4.add 19)=some (.map m23)/\
 ∃fj:Int,∃w5,(Instr.lookup 80 (.map m23) (.int .i64 n1) false).run prog w=.ok (.int .i64 fj) w5/\
 Br (fj != 0) (
 zQe prog ds w5 λw6=>
 R (.returned (.tuple #[.int .i64 (IntKind.i64.wrap (fj - 1)),.bool true,.int .i64 0])) w6) (
 zQe prog ds w5 λw7=>
 R (.returned (.tuple #[.int .i64 0,.bool false,.int .i64 0])) w7)))
theorem F75_p:Pl prog f75 [pS 0,iS 1] F75_1:=λR=>
 lf
theorem yK5 (p0:Option Addr) (n1:Int) (w:World) (R:Rt) (h:F75_1 R p0 n1 [] w):Calls prog 75 #[.pointer p0,.int .i64 n1] w R:=
 plC F75_p func75 h
def F77_1(R:Rt)(l6:SV)(ds:Ds)(w:World):Prop:=
 zQe prog ds w λw1=>
 R (.returned (.tuple #[l6.v,.int .i64 0])) w1
def F77_2 (R:Rt) (J1:(SV × Int)->World->Prop) (p0:Option Addr) (n1:Int) (l6:SV) (n8:Int) (ds:Ds) (w:World):Prop:=
 zQi p0 λa2=>
 0<=n1/\n1<(4:Int)/\
 ∃qN:SV,w.cell? (((a2.add 3).add (n1.toNat * 4)).add 3)=some (qN.v)/\
 Br (decide (n8<(qN.len:Int))) (
 alE (.cells #[.int .i64 (IntKind.i64.wrap ((IntKind.i64.wrap (0 - n8)) - 1))] 3) w λr47 w3=>
 ∃pV:SV,∃w4,(Builtin.append_ #[43,43] 43 #[l6.v,.slice (some ⟨r47,0,none⟩) 1 1]).run prog w3=.ok (pV.v) w4/\
 J1 (pV,(IntKind.i64.wrap (n8+1))) w4) (
 F77_1 R l6 ds w)
def F77_3(R:Rt)(p0:Option Addr)(n1:Int)(l6:SV)(n8:Int)(ds:Ds)(w:World):Prop:=
 zQ8 (λ(J1:(SV × Int)->World->Prop) (s:SV × Int) (w:World)=>F77_2 R J1 p0 n1 s.1 s.2 ds w) (l6,n8) w
def F77_5(R:Rt)(p0:Option Addr)(n1:Int)(l6:SV)(ds:Ds)(w:World):Prop:=
 F77_3 R p0 n1 l6 0 ds w
def F77_6 (R:Rt) (J1:(SV × Int)->World->Prop) (p0:Option Addr) (n1:Int) (l6:SV) (n7:Int) (ds:Ds) (w:World):Prop:=
 zQi p0 λa5=>
 ∃de:SV,w.cell? (a5.add 2)=some (de.v)/\
 Br (decide (n7<=(de.len:Int))) (
 Calls prog 130 #[.pointer p0,.int .i64 n1,.int .i64 n7] w λe w6=>
 ∃fj:Int,e=.returned (.int .i64 fj)/\
 Br (decide (fj >= 0)) (
 alE (.cells #[.int .i64 n7] 3) w6 λr29 w7=>
 ∃cL:SV,∃w8,(Builtin.append_ #[43,43] 43 #[l6.v,.slice (some ⟨r29,0,none⟩) 1 1]).run prog w7=.ok (cL.v) w8/\
 J1 (cL,(IntKind.i64.wrap (n7+1))) w8) (
 J1 (l6,(IntKind.i64.wrap (n7+1))) w6)) (
 F77_5 R p0 n1 l6 ds w)
def F77_7(R:Rt)(p0:Option Addr)(n1:Int)(l6:SV)(n7:Int)(ds:Ds)(w:World):Prop:=
 zQ8 (λ(J1:(SV × Int)->World->Prop) (s:SV × Int) (w:World)=>F77_6 R J1 p0 n1 s.1 s.2 ds w) (l6,n7) w
def F77_9(R:Rt)(p0:Option Addr)(n1:Int)(ds:Ds)(w:World):Prop:=
 Calls prog 118 #[.int .i64 n1] w λe w9=>
 ∃iG:Bool,e=.returned (.bool iG)/\
 Br (!iG) (
 zQe prog ds w9 λau=>
 R (.returned (.tuple #[.slice none 0 0,.int .i64 1])) au) (
 F77_7 R p0 n1 ⟨none,0,0⟩ 1 ds w9)
theorem F77_p:Pl prog f77 [pS 0,iS 1] F77_9:=λR=>
 pc 5 (zQz [pS 0,iS 1,lS 6,iS 7] (F77_7 R) (bk 0 (zQz [pS 0,iS 1,lS 6] (F77_5 R) (pc 1 (zQz [pS 0,iS 1,lS 6,iS 8] (F77_3 R) (bk 2 (zQz [lS 6] (F77_1 R) lf) (lp [lS 6,iS 8] [pS 0,iS 1,lS 6,iS 8] (F77_2 R) zXs λJ1=>lf))))) (lp [lS 6,iS 7] [pS 0,iS 1,lS 6,iS 7] (F77_6 R) zXs λJ1=>lf)))
theorem yWq (p0:Option Addr) (n1:Int) (w:World) (R:Rt) (h:F77_9 R p0 n1 [] w):Calls prog 77 #[.pointer p0,.int .i64 n1] w R:=
 plC F77_p func77 h
def F79_1(R:Rt)(l6:SV)(ds:Ds)(w:World):Prop:=
 zQe prog ds w λw1=>
 R (.returned (.tuple #[l6.v,.int .i64 0])) w1
def F79_2 (R:Rt) (J1:(SV × Int)->World->Prop) (p0:Option Addr) (n1:Int) (l6:SV) (n7:Int) (ds:Ds) (w:World):Prop:=
 zQi p0 λa2=>
 ∃de:SV,w.cell? (a2.add 2)=some (de.v)/\
 Br (decide (n7<=(de.len:Int))) (
 Calls prog 130 #[.pointer p0,.int .i64 n1,.int .i64 n7] w λe w3=>
 ∃fj:Int,e=.returned (.int .i64 fj)/\
 Br (decide (fj >= 0)) (
 zQi p0 λa4=>
 0<=n1/\n1<(4:Int)/\
 ∃tm:SV,w3.cell? (((a4.add 3).add (n1.toNat * 4)).add 2)=some (tm.v)/\
 ∃a5,tm.a=some a5/\0<=fj/\fj<(tm.len:Int)/\
 ∃yT,w3.cell? ((a5.add (fj.toNat * 5)).add 0)=some (.int .i64 yT)/\
 ∃yU,w3.cell? ((a5.add (fj.toNat * 5)).add 1)=some (.bool yU)/\
 ∃lU:SV,w3.cell? ((a5.add (fj.toNat * 5)).add 2)=some (lU.v)/\
 ∃yV,w3.cell? ((a5.add (fj.toNat * 5)).add 3)=some (.bool yV)/\
 ∃lV:SV,w3.cell? ((a5.add (fj.toNat * 5)).add 4)=some (lV.v)/\
 Calls prog 131 #[.pointer p0,.agg #[.int .i64 yT,.bool yU,lU.v,.bool yV,lV.v]] w3 λe w6=>
 ∃b40:Bool,e=.returned (.bool b40)/\
 Br b40 (
 alE (.cells #[.int .i64 n7] 3) w6 λr44 w7=>
 ∃kQ:SV,∃w8,(Builtin.append_ #[43,43] 43 #[l6.v,.slice (some ⟨r44,0,none⟩) 1 1]).run prog w7=.ok (kQ.v) w8/\
 J1 (kQ,(IntKind.i64.wrap (n7+1))) w8) (
 J1 (l6,(IntKind.i64.wrap (n7+1))) w6)) (
 J1 (l6,(IntKind.i64.wrap (n7+1))) w3)) (
 F79_1 R l6 ds w)
def F79_3(R:Rt)(p0:Option Addr)(n1:Int)(l6:SV)(n7:Int)(ds:Ds)(w:World):Prop:=
 zQ8 (λ(J1:(SV × Int)->World->Prop) (s:SV × Int) (w:World)=>F79_2 R J1 p0 n1 s.1 s.2 ds w) (l6,n7) w
def F79_5(R:Rt)(p0:Option Addr)(n1:Int)(ds:Ds)(w:World):Prop:=
 Calls prog 118 #[.int .i64 n1] w λe w9=>
 ∃iG:Bool,e=.returned (.bool iG)/\
 Br (!iG) (
 zQe prog ds w9 λau=>
 R (.returned (.tuple #[.slice none 0 0,.int .i64 1])) au) (
 F79_3 R p0 n1 ⟨none,0,0⟩ 1 ds w9)
theorem F79_p:Pl prog f79 [pS 0,iS 1] F79_5:=λR=>
 pc 5 (zQz [pS 0,iS 1,lS 6,iS 7] (F79_3 R) (bk 0 (zQz [lS 6] (F79_1 R) lf) (lp [lS 6,iS 7] [pS 0,iS 1,lS 6,iS 7] (F79_2 R) zXs λJ1=>lf)))
theorem yVA (p0:Option Addr) (n1:Int) (w:World) (R:Rt) (h:F79_5 R p0 n1 [] w):Calls prog 79 #[.pointer p0,.int .i64 n1] w R:=
 plC F79_p func79 h
end Go.Proofs.YtcihcbfcgjepfaaGreatDoor
/- Shallow texts of functions, printed by program, each checked by the kernel against the loaded code. No condition. -/
namespace Go.Proofs.YtcihcbfcgjepfaaGreatDoor
open Go.Sh Tryz
def F27_1(R:Rt)(p0:Option Addr)(ds:Ds)(w:World):Prop:=
 alE (.cells #[.int .i64 0,.slice none 0 0,.slice none 0 0] 25) w λr2 w1=>
 zQi p0 λa2=>
 ∃sq,w1.cell? (a2.add 0)=some (.int .i64 sq)/\
 ∃iU:SV,w1.cell? (a2.add 1)=some (iU.v)/\
 ∃rz:SV,w1.cell? (a2.add 2)=some (rz.v)/\
 Calls prog 80 #[.agg #[.int .i64 sq,iU.v,rz.v]] w1 λe w3=>
 ∃fH:Int,∃dX:SV,∃dY:SV,e=.returned (.agg #[.int .i64 fH,dX.v,dY.v])/\
 stA prog 25 (⟨r2,0,none⟩:Addr) #[.int .i64 fH,dX.v,dY.v] w3 λw4=>
 zQe prog ds w4 λw5=>
 ∃aa,w5.cell? ((⟨r2,0,none⟩:Addr).add 0)=some (.int .i64 aa)/\
 ∃af:SV,w5.cell? ((⟨r2,0,none⟩:Addr).add 1)=some (af.v)/\
 ∃bg:SV,w5.cell? ((⟨r2,0,none⟩:Addr).add 2)=some (bg.v)/\
 R (.returned (.agg #[.int .i64 aa,af.v,bg.v])) w5
theorem F27_p:Pl prog f27 [pS 0] F27_1:=λR=>
 lf
theorem yVL (p0:Option Addr) (w:World) (R:Rt) (h:F27_1 R p0 [] w):Calls prog 27 #[.pointer p0] w R:=
 plC F27_p func27 h
def F34_1(R:Rt)(p3:Option Addr)(ds:Ds)(w:World):Prop:=
 zQe prog ds w λw1=>
 R (.returned (.pointer p3)) w1
def F34_2 (R:Rt) (J1:(Int)->World->Prop) (p0 p3:Option Addr) (n5:Int) (ds:Ds) (w:World):Prop:=
 J1 (IntKind.i64.wrap (n5+1)) w
def xJp (R:Rt) (J1:(Int)->World->Prop) (p0 p3:Option Addr) (n5:Int) (p7:Option Addr) (ds:Ds) (w:World):Prop:=
 dwE w λw2=>
 zQi p7 λa3=>
 ∃tn,w2.cell? (a3.add 0)=some (.int .i64 tn)/\
 ∃tp,w2.cell? (a3.add 1)=some (.int .i64 tp)/\
 ∃iV:SV,w2.cell? (a3.add 2)=some (iV.v)/\
 ∃iW:SV,w2.cell? (a3.add 3)=some (iW.v)/\
 zQi p3 λa4=>
 0<=n5/\n5<(4:Int)/\
 stA prog 122 ((a4.add 3).add (n5.toNat * 4)) #[.int .i64 tn,.int .i64 tp,iV.v,iW.v] w2 λw5=>
 F34_2 R J1 p0 p3 n5 ds w5
def F34_4 (R:Rt) (J1:(Int)->World->Prop) (J2:(Int)->World->Prop) (p0 p3:Option Addr) (n5:Int) (p6 p7:Option Addr) (n9:Int) (ds:Ds) (w:World):Prop:=
 zQi p6 λa6=>
 ∃od:SV,w.cell? (a6.add 3)=some (od.v)/\
 Br (decide (n9<(od.len:Int))) (
 dwE w λw7=>
 ∃S2:World->Prop,S2 w7/\
 zQi p7 λa8=>
 ∃rA:SV,(∀w',S2 w'->w'.cell? (a8.add 3)=some (rA.v))/\
 zQi p6 λa9=>
 ∃tq:SV,(∀w',S2 w'->w'.cell? (a9.add 3)=some (tq.v))/\
 ∃cW,tq.a=some cW/\0<=n9/\n9<(tq.len:Int)/\
 ∃tt,(∀w',S2 w'->w'.cell? ((cW.add (n9.toNat * 2)).add 0)=some (.bool tt))/\
 ∃iX:SV,(∀w',S2 w'->w'.cell? ((cW.add (n9.toNat * 2)).add 1)=some (iX.v))/\
 Calls prog 89 #[.agg #[.bool tt,iX.v]] w7 λe av=>
 ∃tu:Bool,∃iY:SV,e=.returned (.agg #[.bool tu,iY.v])/\
 S2 av/\
 alE (.cells #[.bool tu,iY.v] 77) av λr109 ao=>
 S2 ao/\
 ∃rB:SV,∃aE,(Builtin.append_ #[23,23] 23 #[rA.v,.slice (some ⟨r109,0,none⟩) 1 1]).run prog ao=.ok (rB.v) aE/\
 zQi p7 λfi=>
 st1 (fi.add 3) (rB.v) aE λaD=>
 J2 (IntKind.i64.wrap (n9+1)) aD) (
 xJp R J1 p0 p3 n5 p7 ds w)
def F34_5 (R:Rt) (J1:(Int)->World->Prop) (p0 p3:Option Addr) (n5:Int) (p6 p7:Option Addr) (n9:Int) (ds:Ds) (w:World):Prop:=
 zQ8 (λ(J2:(Int)->World->Prop) (s:Int) (w:World)=>F34_4 R J1 J2 p0 p3 n5 p6 p7 s ds w) n9 w
def yY6 (R:Rt) (J1:(Int)->World->Prop) (p0 p3:Option Addr) (n5:Int) (p6 p7:Option Addr) (ds:Ds) (w:World):Prop:=
 F34_5 R J1 p0 p3 n5 p6 p7 0 ds w
def F34_8 (R:Rt) (J1:(Int)->World->Prop) (J2:(Int)->World->Prop) (p0 p3:Option Addr) (n5:Int) (p6 p7:Option Addr) (n8:Int) (ds:Ds) (w:World):Prop:=
 zQi p6 λna=>
 ∃kN:SV,w.cell? (na.add 2)=some (kN.v)/\
 Br (decide (n8<(kN.len:Int))) (
 dwE w λbr=>
 ∃S3:World->Prop,S3 br/\
 zQi p7 λk6=>
 ∃l69:SV,(∀w',S3 w'->w'.cell? (k6.add 2)=some (l69.v))/\
 zQi p6 λj4=>
 ∃l71:SV,(∀w',S3 w'->w'.cell? (j4.add 2)=some (l71.v))/\
 ∃a20,l71.a=some a20/\0<=n8/\n8<(l71.len:Int)/\
 ∃vH,(∀w',S3 w'->w'.cell? (a20.add (n8.toNat * 5))=some (.int .i64 vH))/\
 zQi p6 λa21=>
 ∃l77:SV,(∀w',S3 w'->w'.cell? (a21.add 2)=some (l77.v))/\
 ∃rm,l77.a=some rm/\0<=n8/\n8<(l77.len:Int)/\
 ∃yW,(∀w',S3 w'->w'.cell? (((rm.add (n8.toNat * 5)).add 1).add 0)=some (.bool yW))/\
 ∃lW:SV,(∀w',S3 w'->w'.cell? (((rm.add (n8.toNat * 5)).add 1).add 1)=some (lW.v))/\
 zQi p6 λa23=>
 ∃l84:SV,(∀w',S3 w'->w'.cell? (a23.add 2)=some (l84.v))/\
 ∃oe,l84.a=some oe/\0<=n8/\n8<(l84.len:Int)/\
 ∃yX,(∀w',S3 w'->w'.cell? (((oe.add (n8.toNat * 5)).add 3).add 0)=some (.bool yX))/\
 ∃eZ:SV,(∀w',S3 w'->w'.cell? (((oe.add (n8.toNat * 5)).add 3).add 1)=some (eZ.v))/\
 Calls prog 89 #[.agg #[.bool yW,lW.v]] br λe dQ=>
 ∃yY:Bool,∃lX:SV,e=.returned (.agg #[.bool yY,lX.v])/\
 S3 dQ/\
 Calls prog 89 #[.agg #[.bool yX,eZ.v]] dQ λe bV=>
 ∃yZ:Bool,∃lY:SV,e=.returned (.agg #[.bool yZ,lY.v])/\
 S3 bV/\
 alE (.cells #[.int .i64 vH,.bool yY,lX.v,.bool yZ,lY.v] 136) bV λr91 dR=>
 S3 dR/\
 ∃l92:SV,∃cR,(Builtin.append_ #[120,120] 120 #[l69.v,.slice (some ⟨r91,0,none⟩) 1 1]).run prog dR=.ok (l92.v) cR/\
 zQi p7 λmV=>
 st1 (mV.add 2) (l92.v) cR λdw=>
 J2 (IntKind.i64.wrap (n8+1)) dw) (
 yY6 R J1 p0 p3 n5 p6 p7 ds w)
def xKi (R:Rt) (J1:(Int)->World->Prop) (p0 p3:Option Addr) (n5:Int) (p6 p7:Option Addr) (n8:Int) (ds:Ds) (w:World):Prop:=
 zQ8 (λ(J2:(Int)->World->Prop) (s:Int) (w:World)=>F34_8 R J1 J2 p0 p3 n5 p6 p7 s ds w) n8 w
def xQT (R:Rt) (J1:(Int)->World->Prop) (p0 p3:Option Addr) (n5:Int) (ds:Ds) (w:World):Prop:=
 zQi p0 λpE=>
 0<=n5/\n5<(4:Int)/\
 ∃gR,w.cell? (((pE.add 3).add (n5.toNat * 4)).add 0)=some (.int .i64 gR)/\
 ∃fc,w.cell? (((pE.add 3).add (n5.toNat * 4)).add 1)=some (.int .i64 fc)/\
 ∃lZ:SV,w.cell? (((pE.add 3).add (n5.toNat * 4)).add 2)=some (lZ.v)/\
 ∃me:SV,w.cell? (((pE.add 3).add (n5.toNat * 4)).add 3)=some (me.v)/\
 alE (.cells #[.int .i64 0,.int .i64 0,.slice none 0 0,.slice none 0 0] 122) w λr6 gZ=>
 stA prog 122 (⟨r6,0,none⟩:Addr) #[.int .i64 gR,.int .i64 fc,lZ.v,me.v] gZ λcK=>
 ∃n57,cK.cell? (⟨r6,0,none⟩:Addr)=some (.int .i64 n57)/\
 ∃n59,cK.cell? ((⟨r6,0,none⟩:Addr).add 1)=some (.int .i64 n59)/\
 alE (.cells #[.int .i64 0,.int .i64 0,.slice none 0 0,.slice none 0 0] 122) cK λr7 bn=>
 stA prog 122 (⟨r7,0,none⟩:Addr) #[.int .i64 n57,.int .i64 n59,.slice none 0 0,.slice none 0 0] bn λfT=>
 xKi R J1 p0 p3 n5 (some (⟨r6,0,none⟩:Addr)) (some (⟨r7,0,none⟩:Addr)) 0 ds fT
def xQV (R:Rt) (J1:(Int)->World->Prop) (p0 p3:Option Addr) (n5:Int) (ds:Ds) (w:World):Prop:=
 Br (decide (n5<4)) (
 xQT R J1 p0 p3 n5 ds w) (
 F34_1 R p3 ds w)
def xQ9(R:Rt)(p0 p3:Option Addr)(n5:Int)(ds:Ds)(w:World):Prop:=
 zQ8 (λ(J1:(Int)->World->Prop) (s:Int) (w:World)=>xQV R J1 p0 p3 s ds w) n5 w
def yWV(R:Rt)(p0 p3:Option Addr)(ds:Ds)(w:World):Prop:=
 xQ9 R p0 p3 0 ds w
def xQN (R:Rt) (J1:(Int)->World->Prop) (p0 p3:Option Addr) (n4:Int) (ds:Ds) (w:World):Prop:=
 zQi p0 λpP=>
 ∃dT:SV,w.cell? (pP.add 2)=some (dT.v)/\
 Br (decide (n4<=(dT.len:Int))) (
 zQi p0 λa37=>
 ∃xQ,w.cell? (a37.add 19)=some (.map xQ)/\
 ∃ji:Int,∃iK,(Instr.lookup 80 (.map xQ) (.int .i64 n4) false).run prog w=.ok (.int .i64 ji) iK/\
 Br (ji != 0) (
 dwE iK λiF=>
 zQi p3 λa40=>
 ∃m38,iF.cell? (a40.add 19)=some (.map m38)/\
 zQi p0 λmQ=>
 ∃m43,iF.cell? (mQ.add 19)=some (.map m43)/\
 ∃lC:Int,(Instr.lookup 80 (.map m43) (.int .i64 n4) false).run prog iF=.ok (.int .i64 lC) iF/\
 doE prog (Instr.mapUpdate 80 (.map m38) (.int .i64 n4) (.int .i64 lC)) iF λpY=>
 J1 (IntKind.i64.wrap (n4+1)) pY) (
 J1 (IntKind.i64.wrap (n4+1)) iK)) (
 yWV R p0 p3 ds w)
def yVW(R:Rt)(p0 p3:Option Addr)(n4:Int)(ds:Ds)(w:World):Prop:=
 zQ8 (λ(J1:(Int)->World->Prop) (s:Int) (w:World)=>xQN R J1 p0 p3 s ds w) n4 w
def xZG(R:Rt)(p0:Option Addr)(ds:Ds)(w:World):Prop:=
 zQi p0 λa43=>
 ∃y5,w.cell? (a43.add 0)=some (.int .i64 y5)/\
 ∃ee:SV,w.cell? (a43.add 1)=some (ee.v)/\
 ∃mf:SV,w.cell? (a43.add 2)=some (mf.v)/\
 Calls prog 80 #[.agg #[.int .i64 y5,ee.v,mf.v]] w λe gM=>
 ∃jK:Int,∃aN:SV,∃cb:SV,e=.returned (.agg #[.int .i64 jK,aN.v,cb.v])/\
 alE (.map #[] 0) gM λsa oG=>
 alE (.cells #[.int .i64 jK,aN.v,cb.v,.int .i64 0,.int .i64 0,.slice none 0 0,.slice none 0 0,.int .i64 0,.int .i64 0,.slice none 0 0,.slice none 0 0,.int .i64 0,.int .i64 0,.slice none 0 0,.slice none 0 0,.int .i64 0,.int .i64 0,.slice none 0 0,.slice none 0 0,.map (some sa)] 125) oG λvk pX=>
 yVW R p0 (some (⟨vk,0,none⟩:Addr)) 1 ds pX
theorem F34_p:Pl prog f34 [pS 0] xZG:=λR=>
 pc 3 (zQz [pS 0,pS 3,iS 4] (yVW R) (bk 0 (zQz [pS 0,pS 3] (yWV R) (pc 1 (zQz [pS 0,pS 3,iS 5] (xQ9 R) (bk 2 (zQz [pS 3] (F34_1 R) lf) (lp [iS 5] [pS 0,pS 3,iS 5] (xQV R) zXs λJ1=>pc 2 (zQz [pS 0,pS 3,iS 5] (xQT R J1) (bk 3 (zQz [pS 0,pS 3,iS 5] (F34_2 R J1) lf) (pc 3 (zQz [pS 0,pS 3,iS 5,pS 6,pS 7,iS 8] (xKi R J1) (bk 4 (zQz [pS 0,pS 3,iS 5,pS 6,pS 7] (yY6 R J1) (pc 1 (zQz [pS 0,pS 3,iS 5,pS 6,pS 7,iS 9] (F34_5 R J1) (bk 6 (zQz [pS 0,pS 3,iS 5,pS 7] (xJp R J1) lf) (lp [iS 9] [pS 0,pS 3,iS 5,pS 6,pS 7,iS 9] (F34_4 R J1) zXs λJ2=>lf))))) (lp [iS 8] [pS 0,pS 3,iS 5,pS 6,pS 7,iS 8] (F34_8 R J1) zXs λJ2=>lf))))))))))) (lp [iS 4] [pS 0,pS 3,iS 4] (xQN R) zXs λJ1=>lf)))
theorem yWr (p0:Option Addr) (w:World) (R:Rt) (h:xZG R p0 [] w):Calls prog 34 #[.pointer p0] w R:=
 plC F34_p func34 h
def F35_1(R:Rt)(ds:Ds)(w:World):Prop:=
 zQe prog ds w λw1=>
 R (.returned (.bool true)) w1
def F35_2 (R:Rt) (J1:(Int)->World->Prop) (p0 p1:Option Addr) (n6:Int) (ds:Ds) (w:World):Prop:=
 Br (decide (n6<4)) (
 Calls prog 90 #[.pointer p0,.pointer p1,.int .i64 n6] w λe w2=>
 ∃wD:Bool,e=.returned (.bool wD)/\
 Br (!wD) (
 zQe prog ds w2 λw3=>
 R (.returned (.bool false)) w3) (
 J1 (IntKind.i64.wrap (n6+1)) w2)) (
 F35_1 R ds w)
def F35_3(R:Rt)(p0 p1:Option Addr)(n6:Int)(ds:Ds)(w:World):Prop:=
 zQ8 (λ(J1:(Int)->World->Prop) (s:Int) (w:World)=>F35_2 R J1 p0 p1 s ds w) n6 w
def F35_5(R:Rt)(p0 p1:Option Addr)(ds:Ds)(w:World):Prop:=
 F35_3 R p0 p1 0 ds w
def F35_6 (R:Rt) (J1:(Int)->World->Prop) (p0 p1:Option Addr) (n5:Int) (ds:Ds) (w:World):Prop:=
 zQi p0 λa4=>
 ∃gD:SV,w.cell? (a4.add 2)=some (gD.v)/\
 Br (decide (n5<=(gD.len:Int))) (
 dwE w λw5=>
 zQi p0 λa6=>
 ∃qM,w5.cell? (a6.add 19)=some (.map qM)/\
 ∃gk:Int,(Instr.lookup 80 (.map qM) (.int .i64 n5) false).run prog w5=.ok (.int .i64 gk) w5/\
 zQi p1 λa7=>
 ∃m36,w5.cell? (a7.add 19)=some (.map m36)/\
 ∃mR:Int,(Instr.lookup 80 (.map m36) (.int .i64 n5) false).run prog w5=.ok (.int .i64 mR) w5/\
 Br (gk != mR) (
 zQe prog ds w5 λw8=>
 R (.returned (.bool false)) w8) (
 J1 (IntKind.i64.wrap (n5+1)) w5)) (
 F35_5 R p0 p1 ds w)
def F35_7(R:Rt)(p0 p1:Option Addr)(n5:Int)(ds:Ds)(w:World):Prop:=
 zQ8 (λ(J1:(Int)->World->Prop) (s:Int) (w:World)=>F35_6 R J1 p0 p1 s ds w) n5 w
def F35_9(R:Rt)(p0 p1:Option Addr)(ds:Ds)(w:World):Prop:=
 dwE w λw9=>
 zQi p0 λcW=>
 ∃eQ,w9.cell? (cW.add 0)=some (.int .i64 eQ)/\
 ∃bh:SV,w9.cell? (cW.add 1)=some (bh.v)/\
 ∃bi:SV,w9.cell? (cW.add 2)=some (bi.v)/\
 zQi p1 λgO=>
 ∃jK,w9.cell? (gO.add 0)=some (.int .i64 jK)/\
 ∃aN:SV,w9.cell? (gO.add 1)=some (aN.v)/\
 ∃cb:SV,w9.cell? (gO.add 2)=some (cb.v)/\
 Calls prog 23 #[.agg #[.int .i64 eQ,bh.v,bi.v],.agg #[.int .i64 jK,aN.v,cb.v]] w9 λe ao=>
 ∃hZ:Bool,e=.returned (.bool hZ)/\
 Br (!hZ) (
 zQe prog ds ao λaE=>
 R (.returned (.bool false)) aE) (
 F35_7 R p0 p1 1 ds ao)
theorem F35_p:Pl prog f35 [pS 0,pS 1] F35_9:=λR=>
 pc 4 (zQz [pS 0,pS 1,iS 5] (F35_7 R) (bk 0 (zQz [pS 0,pS 1] (F35_5 R) (pc 1 (zQz [pS 0,pS 1,iS 6] (F35_3 R) (bk 2 (zQz [] (F35_1 R) lf) (lp [iS 6] [pS 0,pS 1,iS 6] (F35_2 R) zXs λJ1=>lf))))) (lp [iS 5] [pS 0,pS 1,iS 5] (F35_6 R) zXs λJ1=>lf)))
theorem yKh (p0 p1:Option Addr) (w:World) (R:Rt) (h:F35_9 R p0 p1 [] w):Calls prog 35 #[.pointer p0,.pointer p1] w R:=
 plC F35_p func35 h
def F80_1(R:Rt)(p2 p3:Option Addr)(ds:Ds)(w:World):Prop:=
 zQi p3 λa1=>
 ∃jD,w.cell? (a1.add 0)=some (.int .i64 jD)/\
 ∃ez:SV,w.cell? (a1.add 1)=some (ez.v)/\
 ∃eF:SV,w.cell? (a1.add 2)=some (eF.v)/\
 zQi p2 λa2=>
 stA prog 25 a2 #[.int .i64 jD,ez.v,eF.v] w λw3=>
 zQe prog ds w3 λw4=>
 zQi p2 λa5=>
 ∃aa,w4.cell? (a5.add 0)=some (.int .i64 aa)/\
 ∃af:SV,w4.cell? (a5.add 1)=some (af.v)/\
 ∃bg:SV,w4.cell? (a5.add 2)=some (bg.v)/\
 R (.returned (.agg #[.int .i64 aa,af.v,bg.v])) w4
def F80_2 (R:Rt) (J1:(Int)->World->Prop) (p1 p2 p3:Option Addr) (n4:Int) (ds:Ds) (w:World):Prop:=
 zQi p1 λa6=>
 ∃dU:SV,w.cell? (a6.add 2)=some (dU.v)/\
 Br (decide (n4<(dU.len:Int))) (
 dwE w λw7=>
 ∃S1:World->Prop,S1 w7/\
 zQi p3 λa8=>
 ∃dN:SV,(∀w',S1 w'->w'.cell? (a8.add 2)=some (dN.v))/\
 zQi p1 λa9=>
 ∃cI:SV,(∀w',S1 w'->w'.cell? (a9.add 2)=some (cI.v))/\
 ∃cW,cI.a=some cW/\0<=n4/\n4<(cI.len:Int)/\
 ∃oH,(∀w',S1 w'->w'.cell? ((cW.add (n4.toNat * 2)).add 0)=some (.bool oH))/\
 ∃ca:SV,(∀w',S1 w'->w'.cell? ((cW.add (n4.toNat * 2)).add 1)=some (ca.v))/\
 Calls prog 89 #[.agg #[.bool oH,ca.v]] w7 λe av=>
 ∃oQ:Bool,∃fe:SV,e=.returned (.agg #[.bool oQ,fe.v])/\
 S1 av/\
 alE (.cells #[.bool oQ,fe.v] 77) av λr26 ao=>
 S1 ao/\
 ∃jW:SV,∃aE,(Builtin.append_ #[23,23] 23 #[dN.v,.slice (some ⟨r26,0,none⟩) 1 1]).run prog ao=.ok (jW.v) aE/\
 zQi p3 λfi=>
 st1 (fi.add 2) (jW.v) aE λaD=>
 J1 (IntKind.i64.wrap (n4+1)) aD) (
 F80_1 R p2 p3 ds w)
def yYU(R:Rt)(p1 p2 p3:Option Addr)(n4:Int)(ds:Ds)(w:World):Prop:=
 zQ8 (λ(J1:(Int)->World->Prop) (s:Int) (w:World)=>F80_2 R J1 p1 p2 p3 s ds w) n4 w
def F80_5(R:Rt)(az:Int)(ai ax:SV)(ds:Ds)(w:World):Prop:=
 alE (.cells #[.int .i64 az,ai.v,ax.v] 25) w λr1 aU=>
 alE (.cells #[.int .i64 0,.slice none 0 0,.slice none 0 0] 25) aU λr2 br=>
 dwE br λbD=>
 ∃S2:World->Prop,S2 bD/\
 ∃n6,(∀w',S2 w'->w'.cell? (⟨r1,0,none⟩:Addr)=some (.int .i64 n6))/\
 ∃l8:SV,(∀w',S2 w'->w'.cell? ((⟨r1,0,none⟩:Addr).add 1)=some (l8.v))/\
 (
 ∃l9:SV,∃bE,(Builtin.append_ #[22,22] 22 #[.slice none 0 0,l8.v]).run prog bD=.ok (l9.v) bE/\
 S2 bE/\
 alE (.cells #[.int .i64 0,.slice none 0 0,.slice none 0 0] 25) bE λr3 cX=>
 S2 cX/\
 stA prog 25 (⟨r3,0,none⟩:Addr) #[.int .i64 n6,l9.v,.slice none 0 0] cX λcO=>
 yYU R (some (⟨r1,0,none⟩:Addr)) (some (⟨r2,0,none⟩:Addr)) (some (⟨r3,0,none⟩:Addr)) 0 ds cO)/\(
 alE (.cells #[.int .i64 0,.slice none 0 0,.slice none 0 0] 25) bD λr3 cS=>
 S2 cS/\
 ∃l9:SV,∃cJ,(Builtin.append_ #[22,22] 22 #[.slice none 0 0,l8.v]).run prog cS=.ok (l9.v) cJ/\
 S2 cJ/\
 stA prog 25 (⟨r3,0,none⟩:Addr) #[.int .i64 n6,l9.v,.slice none 0 0] cJ λcP=>
 yYU R (some (⟨r1,0,none⟩:Addr)) (some (⟨r2,0,none⟩:Addr)) (some (⟨r3,0,none⟩:Addr)) 0 ds cP)
theorem F80_p:Pl prog f80 [aS 0 [.int .i64,.slice,.slice]] F80_5:=λR=>
 pc 3 (zQz [pS 1,pS 2,pS 3,iS 4] (yYU R) (bk 0 (zQz [pS 2,pS 3] (F80_1 R) lf) (lp [iS 4] [pS 1,pS 2,pS 3,iS 4] (F80_2 R) zXs λJ1=>lf)))
theorem yVJ (az:Int) (ai ax:SV) (w:World) (R:Rt) (h:F80_5 R az ai ax [] w):Calls prog 80 #[.agg #[.int .i64 az,ai.v,ax.v]] w R:=
 plC F80_p func80 h
def F89_1(R:Rt)(bH:Bool)(ai:SV)(ds:Ds)(w:World):Prop:=
 alE (.cells #[.bool bH,ai.v] 77) w λr1 w1=>
 alE (.cells #[.bool false,.slice none 0 0] 77) w1 λr2 w2=>
 dwE w2 λw3=>
 ∃S1:World->Prop,S1 w3/\
 ∃b4,(∀w',S1 w'->w'.cell? (⟨r1,0,none⟩:Addr)=some (.bool b4))/\
 ∃l6:SV,(∀w',S1 w'->w'.cell? ((⟨r1,0,none⟩:Addr).add 1)=some (l6.v))/\
 ∃l7:SV,∃w4,(Builtin.append_ #[75,75] 75 #[.slice none 0 0,l6.v]).run prog w3=.ok (l7.v) w4/\
 S1 w4/\
 stA prog 77 (⟨r2,0,none⟩:Addr) #[.bool b4,l7.v] w4 λw5=>
 zQe prog ds w5 λw6=>
 ∃aC,w6.cell? ((⟨r2,0,none⟩:Addr).add 0)=some (.bool aC)/\
 ∃af:SV,w6.cell? ((⟨r2,0,none⟩:Addr).add 1)=some (af.v)/\
 R (.returned (.agg #[.bool aC,af.v])) w6
theorem F89_p:Pl prog f89 [aS 0 [.bool,.slice]] F89_1:=λR=>
 lf
theorem yWG (bH:Bool) (ai:SV) (w:World) (R:Rt) (h:F89_1 R bH ai [] w):Calls prog 89 #[.agg #[.bool bH,ai.v]] w R:=
 plC F89_p func89 h
def F90_1(R:Rt)(ds:Ds)(w:World):Prop:=
 zQe prog ds w λw1=>
 R (.returned (.bool true)) w1
def F90_2 (R:Rt) (J1:(Int)->World->Prop) (p7 p8:Option Addr) (dv:Int) (ds:Ds) (w:World):Prop:=
 zQi p7 λa2=>
 ∃gF:SV,w.cell? (a2.add 3)=some (gF.v)/\
 Br (decide (dv<(gF.len:Int))) (
 dwE w λw3=>
 zQi p7 λa4=>
 ∃kb:SV,w3.cell? (a4.add 3)=some (kb.v)/\
 ∃a5,kb.a=some a5/\0<=dv/\dv<(kb.len:Int)/\
 ∃tv,w3.cell? ((a5.add (dv.toNat * 2)).add 0)=some (.bool tv)/\
 ∃iZ:SV,w3.cell? ((a5.add (dv.toNat * 2)).add 1)=some (iZ.v)/\
 zQi p8 λa6=>
 ∃tw:SV,w3.cell? (a6.add 3)=some (tw.v)/\
 ∃a7,tw.a=some a7/\0<=dv/\dv<(tw.len:Int)/\
 ∃tx,w3.cell? ((a7.add (dv.toNat * 2)).add 0)=some (.bool tx)/\
 ∃i3:SV,w3.cell? ((a7.add (dv.toNat * 2)).add 1)=some (i3.v)/\
 Calls prog 60 #[.agg #[.bool tv,iZ.v],.agg #[.bool tx,i3.v]] w3 λe w8=>
 ∃b121:Bool,e=.returned (.bool b121)/\
 Br (!b121) (
 zQe prog ds w8 λw9=>
 R (.returned (.bool false)) w9) (
 J1 (IntKind.i64.wrap (dv+1)) w8)) (
 F90_1 R ds w)
def F90_3(R:Rt)(p7 p8:Option Addr)(dv:Int)(ds:Ds)(w:World):Prop:=
 zQ8 (λ(J1:(Int)->World->Prop) (s:Int) (w:World)=>F90_2 R J1 p7 p8 s ds w) dv w
def F90_5(R:Rt)(p7 p8:Option Addr)(ds:Ds)(w:World):Prop:=
 F90_3 R p7 p8 0 ds w
def F90_6 (R:Rt) (J1:(Int)->World->Prop) (p1:Option Addr) (n2:Int) (p7 p8:Option Addr) (n9:Int) (ds:Ds) (w:World):Prop:=
 zQi p7 λcW=>
 ∃vo:SV,w.cell? (cW.add 2)=some (vo.v)/\
 Br (decide (n9<(vo.len:Int))) (
 zQi p7 λgO=>
 ∃l64:SV,w.cell? (gO.add 2)=some (l64.v)/\
 ∃gL,l64.a=some gL/\0<=n9/\n9<(l64.len:Int)/\
 ∃n68,w.cell? (gL.add (n9.toNat * 5))=some (.int .i64 n68)/\
 Calls prog 130 #[.pointer p1,.int .i64 n2,.int .i64 n68] w λe aE=>
 ∃rC:Int,e=.returned (.int .i64 rC)/\
 dwE aE λaI=>
 ∃S2:World->Prop,S2 aI/\
 Br (decide (rC<0)) (
 zQe prog ds aI λaD=>
 R (.returned (.bool false)) aD) (
 zQi p7 λna=>
 ∃kP:SV,(∀w',S2 w'->w'.cell? (na.add 2)=some (kP.v))/\
 ∃nc,kP.a=some nc/\0<=n9/\n9<(kP.len:Int)/\
 ∃y6,(∀w',S2 w'->w'.cell? (((nc.add (n9.toNat * 5)).add 1).add 0)=some (.bool y6))/\
 ∃mg:SV,(∀w',S2 w'->w'.cell? (((nc.add (n9.toNat * 5)).add 1).add 1)=some (mg.v))/\
 zQi p8 λk6=>
 ∃l80:SV,(∀w',S2 w'->w'.cell? (k6.add 2)=some (l80.v))/\
 ∃j4,l80.a=some j4/\0<=rC/\rC<(l80.len:Int)/\
 ∃y7,(∀w',S2 w'->w'.cell? (((j4.add (rC.toNat * 5)).add 1).add 0)=some (.bool y7))/\
 ∃mh:SV,(∀w',S2 w'->w'.cell? (((j4.add (rC.toNat * 5)).add 1).add 1)=some (mh.v))/\
 Calls prog 60 #[.agg #[.bool y6,mg.v],.agg #[.bool y7,mh.v]] aI λe cX=>
 ∃b85:Bool,e=.returned (.bool b85)/\
 S2 cX/\
 Br (!b85) (
 zQe prog ds cX λcO=>
 R (.returned (.bool false)) cO) (
 zQi p7 λrm=>
 ∃fF:SV,(∀w',S2 w'->w'.cell? (rm.add 2)=some (fF.v))/\
 ∃a23,fF.a=some a23/\0<=n9/\n9<(fF.len:Int)/\
 ∃oa,(∀w',S2 w'->w'.cell? (((a23.add (n9.toNat * 5)).add 3).add 0)=some (.bool oa))/\
 ∃em:SV,(∀w',S2 w'->w'.cell? (((a23.add (n9.toNat * 5)).add 3).add 1)=some (em.v))/\
 zQi p8 λoe=>
 ∃od:SV,(∀w',S2 w'->w'.cell? (oe.add 2)=some (od.v))/\
 ∃j5,od.a=some j5/\0<=rC/\rC<(od.len:Int)/\
 ∃tz,(∀w',S2 w'->w'.cell? (((j5.add (rC.toNat * 5)).add 3).add 0)=some (.bool tz))/\
 ∃i4:SV,(∀w',S2 w'->w'.cell? (((j5.add (rC.toNat * 5)).add 3).add 1)=some (i4.v))/\
 Calls prog 60 #[.agg #[.bool oa,em.v],.agg #[.bool tz,i4.v]] cX λe bV=>
 ∃b101:Bool,e=.returned (.bool b101)/\
 Br (!b101) (
 zQe prog ds bV λdR=>
 R (.returned (.bool false)) dR) (
 J1 (IntKind.i64.wrap (n9+1)) bV)))) (
 F90_5 R p7 p8 ds w)
def F90_7(R:Rt)(p1:Option Addr)(n2:Int)(p7 p8:Option Addr)(n9:Int)(ds:Ds)(w:World):Prop:=
 zQ8 (λ(J1:(Int)->World->Prop) (s:Int) (w:World)=>F90_6 R J1 p1 n2 p7 p8 s ds w) n9 w
def yYN(R:Rt)(p1:Option Addr)(n2:Int)(p7 p8:Option Addr)(ds:Ds)(w:World):Prop:=
 zQi p7 λa28=>
 ∃fj,w.cell? a28=some (.int .i64 fj)/\
 zQi p8 λmV=>
 ∃rj,w.cell? mV=some (.int .i64 rj)/\
 Br (fj != rj) (
 zQe prog ds w λdw=>
 R (.returned (.bool false)) dw) (
 zQi p7 λpE=>
 ∃kW,w.cell? (pE.add 1)=some (.int .i64 kW)/\
 zQi p8 λnp=>
 ∃ji,w.cell? (np.add 1)=some (.int .i64 ji)/\
 Br (kW != ji) (
 zQe prog ds w λcK=>
 R (.returned (.bool false)) cK) (
 zQi p7 λa34=>
 ∃qN:SV,w.cell? (a34.add 2)=some (qN.v)/\
 zQi p8 λvD=>
 ∃iQ:SV,w.cell? (vD.add 2)=some (iQ.v)/\
 Br ((qN.len:Int) != (iQ.len:Int)) (
 zQe prog ds w λqm=>
 R (.returned (.bool false)) qm) (
 zQi p7 λa37=>
 ∃vj:SV,w.cell? (a37.add 3)=some (vj.v)/\
 zQi p8 λa38=>
 ∃vq:SV,w.cell? (a38.add 3)=some (vq.v)/\
 Br ((vj.len:Int) != (vq.len:Int)) (
 zQe prog ds w λiF=>
 R (.returned (.bool false)) iF) (
 F90_7 R p1 n2 p7 p8 0 ds w))))
def xZi(R:Rt)(p0 p1:Option Addr)(n2:Int)(ds:Ds)(w:World):Prop:=
 dwE w λiR=>
 ∃S3:World->Prop,S3 iR/\
 zQi p0 λmQ=>
 0<=n2/\n2<(4:Int)/\
 ∃cD,(∀w',S3 w'->w'.cell? (((mQ.add 3).add (n2.toNat * 4)).add 0)=some (.int .i64 cD))/\
 ∃fp,(∀w',S3 w'->w'.cell? (((mQ.add 3).add (n2.toNat * 4)).add 1)=some (.int .i64 fp))/\
 ∃iA:SV,(∀w',S3 w'->w'.cell? (((mQ.add 3).add (n2.toNat * 4)).add 2)=some (iA.v))/\
 ∃iB:SV,(∀w',S3 w'->w'.cell? (((mQ.add 3).add (n2.toNat * 4)).add 3)=some (iB.v))/\
 zQi p1 λrW=>
 0<=n2/\n2<(4:Int)/\
 ∃ic,(∀w',S3 w'->w'.cell? (((rW.add 3).add (n2.toNat * 4)).add 0)=some (.int .i64 ic))/\
 ∃bM,(∀w',S3 w'->w'.cell? (((rW.add 3).add (n2.toNat * 4)).add 1)=some (.int .i64 bM))/\
 ∃iC:SV,(∀w',S3 w'->w'.cell? (((rW.add 3).add (n2.toNat * 4)).add 2)=some (iC.v))/\
 ∃iD:SV,(∀w',S3 w'->w'.cell? (((rW.add 3).add (n2.toNat * 4)).add 3)=some (iD.v))/\
 (
 alE (.cells #[.int .i64 0,.int .i64 0,.slice none 0 0,.slice none 0 0] 122) iR λr7 jV=>
 S3 jV/\
 alE (.cells #[.int .i64 0,.int .i64 0,.slice none 0 0,.slice none 0 0] 122) jV λr8 gM=>
 S3 gM/\
 stA prog 122 (⟨r7,0,none⟩:Addr) #[.int .i64 cD,.int .i64 fp,iA.v,iB.v] gM λoG=>
 S3 oG/\
 stA prog 122 (⟨r8,0,none⟩:Addr) #[.int .i64 ic,.int .i64 bM,iC.v,iD.v] oG λpX=>
 yYN R p1 n2 (some (⟨r7,0,none⟩:Addr)) (some (⟨r8,0,none⟩:Addr)) ds pX)/\(
 alE (.cells #[.int .i64 0,.int .i64 0,.slice none 0 0,.slice none 0 0] 122) iR λr8 pJ=>
 S3 pJ/\
 alE (.cells #[.int .i64 0,.int .i64 0,.slice none 0 0,.slice none 0 0] 122) pJ λr7 rX=>
 S3 rX/\
 stA prog 122 (⟨r7,0,none⟩:Addr) #[.int .i64 cD,.int .i64 fp,iA.v,iB.v] rX λfw=>
 S3 fw/\
 stA prog 122 (⟨r8,0,none⟩:Addr) #[.int .i64 ic,.int .i64 bM,iC.v,iD.v] fw λyO=>
 yYN R p1 n2 (some (⟨r7,0,none⟩:Addr)) (some (⟨r8,0,none⟩:Addr)) ds yO)
theorem F90_p:Pl prog f90 [pS 0,pS 1,iS 2] xZi:=λR=>
 pc 2 (zQz [pS 1,iS 2,pS 7,pS 8] (yYN R) (pc 3 (zQz [pS 1,iS 2,pS 7,pS 8,iS 9] (F90_7 R) (bk 0 (zQz [pS 7,pS 8] (F90_5 R) (pc 1 (zQz [pS 7,pS 8,iS 11] (F90_3 R) (bk 2 (zQz [] (F90_1 R) lf) (lp [iS 11] [pS 7,pS 8,iS 11] (F90_2 R) zXs λJ1=>lf))))) (lp [iS 9] [pS 1,iS 2,pS 7,pS 8,iS 9] (F90_6 R) zXs λJ1=>lf)))))
theorem yVf (p0 p1:Option Addr) (n2:Int) (w:World) (R:Rt) (h:xZi R p0 p1 n2 [] w):Calls prog 90 #[.pointer p0,.pointer p1,.int .i64 n2] w R:=
 plC F90_p func90 h
def xXp(R:Rt)(n0:Int)(ds:Ds)(w:World):Prop:=
 Br (decide (n0 >= 0)) (
 zQe prog ds w λw1=>
 R (.returned (.bool (decide (n0<4)))) w1) (
 zQe prog ds w λw2=>
 R (.returned (.bool false)) w2)
theorem F118_p:Pl prog f118 [iS 0] xXp:=λR=>
 lf
theorem yZD (n0:Int) (w:World) (R:Rt) (h:xXp R n0 [] w):Calls prog 118 #[.int .i64 n0] w R:=
 plC F118_p func118 h
def xZe(R:Rt)(p0:Option Addr)(n1:Int)(ds:Ds)(w:World):Prop:=
 dwE w λw1=>
 zQi p0 λa2=>
 0<=n1/\n1<(4:Int)/\
 ∃sC:SV,w1.cell? (((a2.add 3).add (n1.toNat * 4)).add 2)=some (sC.v)/\
 zQi p0 λa3=>
 0<=n1/\n1<(4:Int)/\
 ∃dN:SV,w1.cell? (((a3.add 3).add (n1.toNat * 4)).add 3)=some (dN.v)/\
 zQe prog ds w1 λw4=>
 R (.returned (.bool ((IntKind.i64.wrap ((sC.len:Int)+(dN.len:Int))) == 0))) w4
theorem F119_p:Pl prog f119 [pS 0,iS 1] xZe:=λR=>
 lf
theorem yZJ (p0:Option Addr) (n1:Int) (w:World) (R:Rt) (h:xZe R p0 n1 [] w):Calls prog 119 #[.pointer p0,.int .i64 n1] w R:=
 plC F119_p func119 h
def xZO(R:Rt)(p0:Option Addr)(n1 n2:Int)(ds:Ds)(w:World):Prop:=
 Br (decide (n2 >= 1)) (
 zQi p0 λa1=>
 ∃dL:SV,w.cell? (a1.add 2)=some (dL.v)/\
 Br (decide (n2<=(dL.len:Int))) (
 zQe prog ds w λw2=>
 R (.returned (.bool true)) w2) (
 Br (decide (n2<0)) (
 zQi p0 λa3=>
 0<=n1/\n1<(4:Int)/\
 ∃cL:SV,w.cell? (((a3.add 3).add (n1.toNat * 4)).add 3)=some (cL.v)/\
 zQe prog ds w λw4=>
 R (.returned (.bool (decide (n2 >= (IntKind.i64.wrap (0 - (cL.len:Int))))))) w4) (
 zQe prog ds w λw5=>
 R (.returned (.bool false)) w5))) (
 Br (decide (n2<0)) (
 zQi p0 λa6=>
 0<=n1/\n1<(4:Int)/\
 ∃cL:SV,w.cell? (((a6.add 3).add (n1.toNat * 4)).add 3)=some (cL.v)/\
 zQe prog ds w λw7=>
 R (.returned (.bool (decide (n2 >= (IntKind.i64.wrap (0 - (cL.len:Int))))))) w7) (
 zQe prog ds w λw8=>
 R (.returned (.bool false)) w8))
theorem F120_p:Pl prog f120 [pS 0,iS 1,iS 2] xZO:=λR=>
 lf
theorem yJC (p0:Option Addr) (n1 n2:Int) (w:World) (R:Rt) (h:xZO R p0 n1 n2 [] w):Calls prog 120 #[.pointer p0,.int .i64 n1,.int .i64 n2] w R:=
 plC F120_p func120 h
def xZv(R:Rt)(p0:Option Addr)(n1:Int)(ds:Ds)(w:World):Prop:=
 zQi p0 λa1=>
 0<=n1/\n1<(4:Int)/\
 ∃dv,w.cell? ((a1.add 3).add (n1.toNat * 4))=some (.int .i64 dv)/\
 Br (dv == 1) (
 zQe prog ds w λw2=>
 R (.returned (.bool true)) w2) (
 zQi p0 λa3=>
 0<=n1/\n1<(4:Int)/\
 ∃fD,w.cell? ((a3.add 3).add (n1.toNat * 4))=some (.int .i64 fD)/\
 zQe prog ds w λw4=>
 R (.returned (.bool (fD == 2))) w4)
theorem F121_p:Pl prog f121 [pS 0,iS 1] xZv:=λR=>
 lf
theorem yJ7 (p0:Option Addr) (n1:Int) (w:World) (R:Rt) (h:xZv R p0 n1 [] w):Calls prog 121 #[.pointer p0,.int .i64 n1] w R:=
 plC F121_p func121 h
def zWY(R:Rt)(p0 p6:Option Addr)(n8:Int)(b115:Bool)(ds:Ds)(w:World):Prop:=
 Br b115 (
 dwE w λw1=>
 ∃S1:World->Prop,S1 w1/\
 zQi p0 λa2=>
 ∃tA:SV,(∀w',S1 w'->w'.cell? (a2.add 2)=some (tA.v))/\
 zQi p6 λa3=>
 ∃tB,(∀w',S1 w'->w'.cell? (a3.add 1)=some (.int .i64 tB))/\
 ∃a4,tA.a=some a4/\0<=(IntKind.i64.wrap (tB - 1))/\(IntKind.i64.wrap (tB - 1))<(tA.len:Int)/\
 ∃tC,(∀w',S1 w'->w'.cell? ((a4.add ((IntKind.i64.wrap (tB - 1)).toNat * 2)).add 0)=some (.bool tC))/\
 ∃i5:SV,(∀w',S1 w'->w'.cell? ((a4.add ((IntKind.i64.wrap (tB - 1)).toNat * 2)).add 1)=some (i5.v))/\
 alE (.cells #[.bool false,.slice none 0 0] 77) w1 λr9 w5=>
 S1 w5/\
 stA prog 77 (⟨r9,0,none⟩:Addr) #[.bool tC,i5.v] w5 λw6=>
 dwE w6 λw7=>
 ∃S2:World->Prop,S2 w7/\
 zQi p6 λa8=>
 ∃rD:SV,(∀w',S2 w'->w'.cell? (a8.add 2)=some (rD.v))/\
 zQi p6 λa9=>
 ∃n136,(∀w',S2 w'->w'.cell? (a9.add 1)=some (.int .i64 n136))/\
 ∃tD,(∀w',S2 w'->w'.cell? ((⟨r9,0,none⟩:Addr).add 0)=some (.bool tD))/\
 ∃i6:SV,(∀w',S2 w'->w'.cell? ((⟨r9,0,none⟩:Addr).add 1)=some (i6.v))/\
 ∃tE,(∀w',S2 w'->w'.cell? ((⟨r9,0,none⟩:Addr).add 0)=some (.bool tE))/\
 ∃i7:SV,(∀w',S2 w'->w'.cell? ((⟨r9,0,none⟩:Addr).add 1)=some (i7.v))/\
 Calls prog 89 #[.agg #[.bool tD,i6.v]] w7 λe au=>
 ∃tF:Bool,∃i8:SV,e=.returned (.agg #[.bool tF,i8.v])/\
 S2 au/\
 Calls prog 89 #[.agg #[.bool tE,i7.v]] au λe av=>
 ∃tG:Bool,∃i9:SV,e=.returned (.agg #[.bool tG,i9.v])/\
 S2 av/\
 alE (.cells #[.int .i64 n136,.bool tF,i8.v,.bool tG,i9.v] 136) av λr142 ao=>
 S2 ao/\
 ∃rE:SV,∃aE,(Builtin.append_ #[120,120] 120 #[rD.v,.slice (some ⟨r142,0,none⟩) 1 1]).run prog ao=.ok (rE.v) aE/\
 zQi p6 λfi=>
 st1 (fi.add 2) (rE.v) aE λaD=>
 zQi p6 λna=>
 ∃rG:SV,aD.cell? (na.add 2)=some (rG.v)/\
 zQi p6 λnc=>
 ∃kc:SV,aD.cell? (nc.add 2)=some (kc.v)/\
 ∃k6,kc.a=some k6/\0<=(IntKind.i64.wrap ((rG.len:Int) - 1))/\(IntKind.i64.wrap ((rG.len:Int) - 1))<(kc.len:Int)/\
 zQe prog ds aD λbE=>
 R (.returned (.tuple #[.pointer (some ((k6.add ((IntKind.i64.wrap ((rG.len:Int) - 1)).toNat * 5)).add 3)),.int .i64 0])) bE) (
 zQi p6 λa20=>
 ∃kc:SV,w.cell? (a20.add 2)=some (kc.v)/\
 ∃a21,kc.a=some a21/\0<=n8/\n8<(kc.len:Int)/\
 zQe prog ds w λcS=>
 R (.returned (.tuple #[.pointer (some ((a21.add (n8.toNat * 5)).add 3)),.int .i64 0])) cS)
def yQx(R:Rt)(p0:Option Addr)(n1:Int)(p6:Option Addr)(ds:Ds)(w:World):Prop:=
 zQi p6 λa23=>
 ∃n72,w.cell? a23=some (.int .i64 n72)/\
 Br (n72 == 0) (
 dwE w λcP=>
 zQi p0 λj5=>
 ∃sO:SV,cP.cell? (j5.add 2)=some (sO.v)/\
 zQi p6 λvG=>
 ∃n82,cP.cell? (vG.add 1)=some (.int .i64 n82)/\
 ∃u7,sO.a=some u7/\0<=(IntKind.i64.wrap (n82 - 1))/\(IntKind.i64.wrap (n82 - 1))<(sO.len:Int)/\
 zQe prog ds cP λcR=>
 R (.returned (.tuple #[.pointer (some (u7.add ((IntKind.i64.wrap (n82 - 1)).toNat * 2))),.int .i64 0])) cR) (
 zQi p6 λmV=>
 ∃n88,w.cell? mV=some (.int .i64 n88)/\
 Br (n88 == 1) (
 dwE w λdw=>
 zQi p0 λpE=>
 ∃oT,dw.cell? (pE.add 19)=some (.map oT)/\
 zQi p6 λnp=>
 ∃oU,dw.cell? (np.add 1)=some (.int .i64 oU)/\
 doE prog (Instr.mapUpdate 80 (.map oT) (.int .i64 oU) (.int .i64 (IntKind.i64.wrap (n1+1)))) dw λcK=>
 zQi p6 λa34=>
 ∃fk,cK.cell? (a34.add 1)=some (.int .i64 fk)/\
 Calls prog 130 #[.pointer p0,.int .i64 n1,.int .i64 fk] cK λe fT=>
 ∃gT:Int,e=.returned (.int .i64 gT)/\
 zWY R p0 p6 gT (decide (gT<0)) ds fT) (
 zQi p6 λpP=>
 ∃n94,w.cell? pP=some (.int .i64 n94)/\
 Br (n94 == 3) (
 dwE w λj6=>
 zQi p0 λa38=>
 ∃oT,j6.cell? (a38.add 19)=some (.map oT)/\
 zQi p6 λa39=>
 ∃oU,j6.cell? (a39.add 1)=some (.int .i64 oU)/\
 doE prog (Instr.mapUpdate 80 (.map oT) (.int .i64 oU) (.int .i64 (IntKind.i64.wrap (n1+1)))) j6 λiR=>
 zQi p6 λmQ=>
 ∃fk,iR.cell? (mQ.add 1)=some (.int .i64 fk)/\
 Calls prog 130 #[.pointer p0,.int .i64 n1,.int .i64 fk] iR λe pY=>
 ∃gT:Int,e=.returned (.int .i64 gT)/\
 zWY R p0 p6 gT (decide (gT<0)) ds pY) (
 zQi p6 λa43=>
 ∃fk,w.cell? (a43.add 1)=some (.int .i64 fk)/\
 Calls prog 130 #[.pointer p0,.int .i64 n1,.int .i64 fk] w λe gM=>
 ∃gT:Int,e=.returned (.int .i64 gT)/\
 zWY R p0 p6 gT (decide (gT<0)) ds gM)))
def xQS(R:Rt)(p0:Option Addr)(n1:Int)(ds:Ds)(w:World):Prop:=
 zQi p0 λpF=>
 0<=n1/\n1<(4:Int)/\
 ∃gS,w.cell? (((pF.add 3).add (n1.toNat * 4)).add 1)=some (.int .i64 gS)/\
 Br (decide (gS<0)) (
 dwE w λpX=>
 ∃dT:SV,pX.cell? (((pF.add 3).add (n1.toNat * 4)).add 3)=some (dT.v)/\
 ∃rj,pX.cell? (((pF.add 3).add (n1.toNat * 4)).add 1)=some (.int .i64 rj)/\
 ∃a47,dT.a=some a47/\0<=(IntKind.i64.wrap ((IntKind.i64.wrap (0 - rj)) - 1))/\(IntKind.i64.wrap ((IntKind.i64.wrap (0 - rj)) - 1))<(dT.len:Int)/\
 zQe prog ds pX λrX=>
 R (.returned (.tuple #[.pointer (some (a47.add ((IntKind.i64.wrap ((IntKind.i64.wrap (0 - rj)) - 1)).toNat * 2))),.int .i64 0])) rX) (
 dwE w λfw=>
 zQi p0 λa50=>
 ∃m34,fw.cell? (a50.add 19)=some (.map m34)/\
 ∃mR,fw.cell? (((pF.add 3).add (n1.toNat * 4)).add 1)=some (.int .i64 mR)/\
 ∃fU:Int,(Instr.lookup 80 (.map m34) (.int .i64 mR) false).run prog fw=.ok (.int .i64 fU) fw/\
 Br (fU != 0) (
 Br (fU != (IntKind.i64.wrap (n1+1))) (
 ∃wI,fw.cell? ((pF.add 3).add (n1.toNat * 4))=some (.int .i64 wI)/\
 Br (wI == 0) (
 zQe prog ds fw λvm=>
 R (.returned (.tuple #[.pointer none,.int .i64 12])) vm) (
 ∃xS,fw.cell? ((pF.add 3).add (n1.toNat * 4))=some (.int .i64 xS)/\
 Br (xS == 1) (
 zQe prog ds fw λtH=>
 R (.returned (.tuple #[.pointer none,.int .i64 12])) tH) (
 ∃n65,fw.cell? ((pF.add 3).add (n1.toNat * 4))=some (.int .i64 n65)/\
 Br (n65 == 3) (
 zQe prog ds fw λnv=>
 R (.returned (.tuple #[.pointer none,.int .i64 12])) nv) (
 yQx R p0 n1 (some ((pF.add 3).add (n1.toNat * 4))) ds fw)))) (
 yQx R p0 n1 (some ((pF.add 3).add (n1.toNat * 4))) ds fw)) (
 yQx R p0 n1 (some ((pF.add 3).add (n1.toNat * 4))) ds fw))
theorem F123_p:Pl prog f123 [pS 0,iS 1] xQS:=λR=>
 pc 7 (zQz [pS 0,iS 1,pS 6] (yQx R) (pc 6 (zQz [pS 0,pS 6,iS 8,bS 115] (zWY R) lf)))
theorem yZ9 (p0:Option Addr) (n1:Int) (w:World) (R:Rt) (h:xQS R p0 n1 [] w):Calls prog 123 #[.pointer p0,.int .i64 n1] w R:=
 plC F123_p func123 h
def xQB(R:Rt)(n3:Int)(ds:Ds)(w:World):Prop:=
 zQe prog ds w λw1=>
 R (.returned (.int .i64 n3)) w1
def xXW (R:Rt) (J1:(Int × Int)->World->Prop) (p0:Option Addr) (n3 n4:Int) (ds:Ds) (w:World):Prop:=
 Br (decide (n4<4)) (
 zQi p0 λa2=>
 0<=n4/\n4<(4:Int)/\
 ∃gD:SV,w.cell? (((a2.add 3).add (n4.toNat * 4)).add 3)=some (gD.v)/\
 J1 ((IntKind.i64.wrap (n3+(gD.len:Int))),(IntKind.i64.wrap (n4+1))) w) (
 xQB R n3 ds w)
def xXl(R:Rt)(p0:Option Addr)(n3 n4:Int)(ds:Ds)(w:World):Prop:=
 zQ8 (λ(J1:(Int × Int)->World->Prop) (s:Int × Int) (w:World)=>xXW R J1 p0 s.1 s.2 ds w) (n3,n4) w
def xXg(R:Rt)(p0:Option Addr)(ds:Ds)(w:World):Prop:=
 zQi p0 λa3=>
 ∃l9:SV,w.cell? (a3.add 2)=some (l9.v)/\
 xXl R p0 (l9.len:Int) 0 ds w
theorem F124_p:Pl prog f124 [pS 0] xXg:=λR=>
 pc 3 (zQz [pS 0,iS 3,iS 4] (xXl R) (bk 0 (zQz [iS 3] (xQB R) lf) (lp [iS 3,iS 4] [pS 0,iS 3,iS 4] (xXW R) zXs λJ1=>lf)))
theorem yJy (p0:Option Addr) (w:World) (R:Rt) (h:xXg R p0 [] w):Calls prog 124 #[.pointer p0] w R:=
 plC F124_p func124 h
def xXC(R:Rt)(p0:Option Addr)(n1 n2:Int)(s3:ByteArray)(b4:Bool)(ds:Ds)(w:World):Prop:=
 alE (.cells #[.int .i64 0,.int .i64 0,.string (⟨#[]⟩:ByteArray)] 28) w λfE w1=>
 Calls prog 118 #[.int .i64 n1] w1 λe w2=>
 ∃hZ:Bool,e=.returned (.bool hZ)/\
 Br (!hZ) (
 stA prog 28 (⟨fE,0,none⟩:Addr) #[.int .i64 0,.int .i64 0,.string (⟨#[]⟩:ByteArray)] w2 λw3=>
 zQe prog ds w3 λw4=>
 ∃aa,w4.cell? ((⟨fE,0,none⟩:Addr).add 0)=some (.int .i64 aa)/\
 ∃ac,w4.cell? ((⟨fE,0,none⟩:Addr).add 1)=some (.int .i64 ac)/\
 ∃ae,w4.cell? ((⟨fE,0,none⟩:Addr).add 2)=some (.string ae)/\
 R (.returned (.tuple #[.agg #[.int .i64 aa,.int .i64 ac,.string ae],.int .i64 1])) w4) (
 Calls prog 120 #[.pointer p0,.int .i64 n1,.int .i64 n2] w2 λe w5=>
 ∃b21:Bool,e=.returned (.bool b21)/\
 Br (!b21) (
 stA prog 28 (⟨fE,0,none⟩:Addr) #[.int .i64 0,.int .i64 0,.string (⟨#[]⟩:ByteArray)] w5 λw6=>
 zQe prog ds w6 λw7=>
 ∃aa,w7.cell? ((⟨fE,0,none⟩:Addr).add 0)=some (.int .i64 aa)/\
 ∃ac,w7.cell? ((⟨fE,0,none⟩:Addr).add 1)=some (.int .i64 ac)/\
 ∃ae,w7.cell? ((⟨fE,0,none⟩:Addr).add 2)=some (.string ae)/\
 R (.returned (.tuple #[.agg #[.int .i64 aa,.int .i64 ac,.string ae],.int .i64 4])) w7) (
 zQi p0 λa8=>
 ∃fA:SV,w5.cell? (a8.add 1)=some (fA.v)/\
 Calls prog 122 #[fA.v,.string s3] w5 λe w9=>
 ∃io:Int,∃ov:Bool,e=.returned (.tuple #[.int .i64 io,.bool ov])/\
 Br (!ov) (
 stA prog 28 (⟨fE,0,none⟩:Addr) #[.int .i64 0,.int .i64 0,.string (⟨#[]⟩:ByteArray)] w9 λau=>
 zQe prog ds au λav=>
 ∃aa,av.cell? ((⟨fE,0,none⟩:Addr).add 0)=some (.int .i64 aa)/\
 ∃ac,av.cell? ((⟨fE,0,none⟩:Addr).add 1)=some (.int .i64 ac)/\
 ∃ae,av.cell? ((⟨fE,0,none⟩:Addr).add 2)=some (.string ae)/\
 R (.returned (.tuple #[.agg #[.int .i64 aa,.int .i64 ac,.string ae],.int .i64 4])) av) (
 Calls prog 164 #[.pointer p0,.int .i64 n1,.int .i64 n2,.bool b4] w9 λe ao=>
 ∃b41_0:Bool,∃oW:SV,e=.returned (.agg #[.bool b41_0,oW.v])/\
 ∃dB,oW.a=some dB/\0<=io/\io<(oW.len:Int)/\
 ∃og,ao.cell? ((dB.add (io.toNat * 3)).add 0)=some (.int .i64 og)/\
 ∃il,ao.cell? ((dB.add (io.toNat * 3)).add 1)=some (.int .i64 il)/\
 ∃y8,ao.cell? ((dB.add (io.toNat * 3)).add 2)=some (.string y8)/\
 stA prog 28 (⟨fE,0,none⟩:Addr) #[.int .i64 og,.int .i64 il,.string y8] ao λaI=>
 zQe prog ds aI λaD=>
 ∃aa,aD.cell? ((⟨fE,0,none⟩:Addr).add 0)=some (.int .i64 aa)/\
 ∃ac,aD.cell? ((⟨fE,0,none⟩:Addr).add 1)=some (.int .i64 ac)/\
 ∃ae,aD.cell? ((⟨fE,0,none⟩:Addr).add 2)=some (.string ae)/\
 R (.returned (.tuple #[.agg #[.int .i64 aa,.int .i64 ac,.string ae],.int .i64 0])) aD)))
theorem F126_p:Pl prog f126 [pS 0,iS 1,iS 2,sS 3,bS 4] xXC:=λR=>
 lf
theorem yJA (p0:Option Addr) (n1 n2:Int) (s3:ByteArray) (b4:Bool) (w:World) (R:Rt) (h:xXC R p0 n1 n2 s3 b4 [] w):Calls prog 126 #[.pointer p0,.int .i64 n1,.int .i64 n2,.string s3,.bool b4] w R:=
 plC F126_p func126 h
def xXd (R:Rt) (J1:(Int)->World->Prop) (p0:Option Addr) (n1 n4:Int) (ds:Ds) (w:World):Prop:=
 zQi p0 λa1=>
 ∃gD:SV,w.cell? (a1.add 2)=some (gD.v)/\
 Br (decide (n4<=(gD.len:Int))) (
 zQi p0 λa2=>
 ∃qM,w.cell? (a2.add 19)=some (.map qM)/\
 ∃gk:Int,∃w3,(Instr.lookup 80 (.map qM) (.int .i64 n4) false).run prog w=.ok (.int .i64 gk) w3/\
 Br (gk == (IntKind.i64.wrap (n1+1))) (
 zQi p0 λa4=>
 ∃m39,w3.cell? (a4.add 19)=some (.map m39)/\
 ∃w5,(Builtin.delete_ #[80,3] 0 #[.map m39,.int .i64 n4]).run prog w3=.ok (.tuple #[]) w5/\
 J1 (IntKind.i64.wrap (n4+1)) w5) (
 J1 (IntKind.i64.wrap (n4+1)) w3)) (
 zQe prog ds w λw6=>
 R (.returned (.tuple #[])) w6)
def xQE(R:Rt)(p0:Option Addr)(n1 n4:Int)(ds:Ds)(w:World):Prop:=
 zQ8 (λ(J1:(Int)->World->Prop) (s:Int) (w:World)=>xXd R J1 p0 n1 s ds w) n4 w
def xQ7(R:Rt)(p0:Option Addr)(n1:Int)(ds:Ds)(w:World):Prop:=
 dwE w λw7=>
 zQi p0 λa8=>
 0<=n1/\n1<(4:Int)/\
 zQi p0 λa9=>
 st1 (((a8.add 3).add (n1.toNat * 4)).add 2) (.slice none 0 0) w7 λau=>
 0<=n1/\n1<(4:Int)/\
 st1 (((a9.add 3).add (n1.toNat * 4)).add 3) (.slice none 0 0) au λav=>
 xQE R p0 n1 1 ds av
theorem F127_p:Pl prog f127 [pS 0,iS 1] xQ7:=λR=>
 pc 2 (zQz [pS 0,iS 1,iS 4] (xQE R) (bk 0 zXs (lp [iS 4] [pS 0,iS 1,iS 4] (xXd R) zXs λJ1=>lf)))
theorem yZO (p0:Option Addr) (n1:Int) (w:World) (R:Rt) (h:xQ7 R p0 n1 [] w):Calls prog 127 #[.pointer p0,.int .i64 n1] w R:=
 plC F127_p func127 h
def xXa(R:Rt)(ds:Ds)(w:World):Prop:=
 zQe prog ds w λw1=>
 R (.returned (.int .i64 (-1))) w1
def xQW (R:Rt) (J1:(Int)->World->Prop) (p0:Option Addr) (n1 n2 n7:Int) (ds:Ds) (w:World):Prop:=
 zQi p0 λa2=>
 0<=n1/\n1<(4:Int)/\
 ∃dL:SV,w.cell? (((a2.add 3).add (n1.toNat * 4)).add 2)=some (dL.v)/\
 Br (decide (n7<(dL.len:Int))) (
 zQi p0 λa3=>
 0<=n1/\n1<(4:Int)/\
 ∃nb:SV,w.cell? (((a3.add 3).add (n1.toNat * 4)).add 2)=some (nb.v)/\
 ∃a4,nb.a=some a4/\0<=n7/\n7<(nb.len:Int)/\
 ∃sA,w.cell? (a4.add (n7.toNat * 5))=some (.int .i64 sA)/\
 Br (sA == n2) (
 zQe prog ds w λw5=>
 R (.returned (.int .i64 n7)) w5) (
 J1 (IntKind.i64.wrap (n7+1)) w)) (
 xXa R ds w)
def xQU(R:Rt)(p0:Option Addr)(n1 n2 n7:Int)(ds:Ds)(w:World):Prop:=
 zQ8 (λ(J1:(Int)->World->Prop) (s:Int) (w:World)=>xQW R J1 p0 n1 n2 s ds w) n7 w
def xXs(R:Rt)(p0:Option Addr)(n1 n2:Int)(ds:Ds)(w:World):Prop:=
 xQU R p0 n1 n2 0 ds w
theorem F130_p:Pl prog f130 [pS 0,iS 1,iS 2] xXs:=λR=>
 pc 2 (zQz [pS 0,iS 1,iS 2,iS 7] (xQU R) (bk 0 (zQz [] (xXa R) lf) (lp [iS 7] [pS 0,iS 1,iS 2,iS 7] (xQW R) zXs λJ1=>lf)))
theorem yJl (p0:Option Addr) (n1 n2:Int) (w:World) (R:Rt) (h:xXs R p0 n1 n2 [] w):Calls prog 130 #[.pointer p0,.int .i64 n1,.int .i64 n2] w R:=
 plC F130_p func130 h
def xZU(R:Rt)(ds:Ds)(w:World):Prop:=
 zQe prog ds w λw1=>
 R (.returned (.bool false)) w1
def zX9 (R:Rt) (J1:(Int)->World->Prop) (p3 p5:Option Addr) (n6:Int) (ds:Ds) (w:World):Prop:=
 J1 (IntKind.i64.wrap (n6+1)) w
def xXS (R:Rt) (J1:(Int)->World->Prop) (p3 p5:Option Addr) (n6:Int) (ds:Ds) (w:World):Prop:=
 dwE w λw2=>
 ∃S1:World->Prop,S1 w2/\
 zQi p3 λa3=>
 ∃sc:SV,(∀w',S1 w'->w'.cell? ((a3.add 1).add 1)=some (sc.v))/\
 ∃a4,sc.a=some a4/\0<=n6/\n6<(sc.len:Int)/\
 ∃gR,(∀w',S1 w'->w'.cell? ((a4.add (n6.toNat * 3)).add 0)=some (.int .i64 gR))/\
 ∃fc,(∀w',S1 w'->w'.cell? ((a4.add (n6.toNat * 3)).add 1)=some (.int .i64 fc))/\
 ∃kd,(∀w',S1 w'->w'.cell? ((a4.add (n6.toNat * 3)).add 2)=some (.string kd))/\
 zQi p3 λa5=>
 ∃sb:SV,(∀w',S1 w'->w'.cell? ((a5.add 3).add 1)=some (sb.v))/\
 ∃a6,sb.a=some a6/\0<=n6/\n6<(sb.len:Int)/\
 ∃ke,(∀w',S1 w'->w'.cell? ((a6.add (n6.toNat * 3)).add 0)=some (.int .i64 ke))/\
 ∃cG,(∀w',S1 w'->w'.cell? ((a6.add (n6.toNat * 3)).add 1)=some (.int .i64 cG))/\
 ∃kf,(∀w',S1 w'->w'.cell? ((a6.add (n6.toNat * 3)).add 2)=some (.string kf))/\
 zQi p5 λa7=>
 ∃kN:SV,(∀w',S1 w'->w'.cell? (a7.add 1)=some (kN.v))/\
 ∃a8,kN.a=some a8/\0<=n6/\n6<(kN.len:Int)/\
 ∃kg,(∀w',S1 w'->w'.cell? ((a8.add (n6.toNat * 3)).add 0)=some (.int .i64 kg))/\
 ∃bN,(∀w',S1 w'->w'.cell? ((a8.add (n6.toNat * 3)).add 1)=some (.int .i64 bN))/\
 ∃kh,(∀w',S1 w'->w'.cell? ((a8.add (n6.toNat * 3)).add 2)=some (.string kh))/\
 (
 alE (.cells #[.int .i64 0,.int .i64 0,.string (⟨#[]⟩:ByteArray)] 28) w2 λr7 w9=>
 S1 w9/\
 (
 alE (.cells #[.int .i64 0,.int .i64 0,.string (⟨#[]⟩:ByteArray)] 28) w9 λr8 au=>
 S1 au/\
 alE (.cells #[.int .i64 0,.int .i64 0,.string (⟨#[]⟩:ByteArray)] 28) au λr9 av=>
 S1 av/\
 stA prog 28 (⟨r7,0,none⟩:Addr) #[.int .i64 gR,.int .i64 fc,.string kd] av λao=>
 S1 ao/\
 stA prog 28 (⟨r8,0,none⟩:Addr) #[.int .i64 ke,.int .i64 cG,.string kf] ao λaE=>
 S1 aE/\
 stA prog 28 (⟨r9,0,none⟩:Addr) #[.int .i64 kg,.int .i64 bN,.string kh] aE λaI=>
 ∃cd,aI.cell? ((⟨r7,0,none⟩:Addr).add 0)=some (.int .i64 cd)/\
 ∃cf,aI.cell? ((⟨r7,0,none⟩:Addr).add 1)=some (.int .i64 cf)/\
 ∃ci,aI.cell? ((⟨r7,0,none⟩:Addr).add 2)=some (.string ci)/\
 ∃cj,aI.cell? ((⟨r8,0,none⟩:Addr).add 0)=some (.int .i64 cj)/\
 ∃ck,aI.cell? ((⟨r8,0,none⟩:Addr).add 1)=some (.int .i64 ck)/\
 ∃cm,aI.cell? ((⟨r8,0,none⟩:Addr).add 2)=some (.string cm)/\
 Calls prog 19 #[.agg #[.int .i64 cd,.int .i64 cf,.string ci],.agg #[.int .i64 cj,.int .i64 ck,.string cm]] aI λe aD=>
 ∃mi:Bool,e=.returned (.bool mi)/\
 Br (!mi) (
 ∃aW,aD.cell? ((⟨r9,0,none⟩:Addr).add 0)=some (.int .i64 aW)/\
 ∃aX,aD.cell? ((⟨r9,0,none⟩:Addr).add 1)=some (.int .i64 aX)/\
 ∃aY,aD.cell? ((⟨r9,0,none⟩:Addr).add 2)=some (.string aY)/\
 ∃cp,aD.cell? ((⟨r7,0,none⟩:Addr).add 0)=some (.int .i64 cp)/\
 ∃cq,aD.cell? ((⟨r7,0,none⟩:Addr).add 1)=some (.int .i64 cq)/\
 ∃ct,aD.cell? ((⟨r7,0,none⟩:Addr).add 2)=some (.string ct)/\
 Calls prog 19 #[.agg #[.int .i64 aW,.int .i64 aX,.string aY],.agg #[.int .i64 cp,.int .i64 cq,.string ct]] aD λe aU=>
 ∃ki:Bool,e=.returned (.bool ki)/\
 Br (!ki) (
 ∃cu,aU.cell? ((⟨r9,0,none⟩:Addr).add 0)=some (.int .i64 cu)/\
 ∃cv,aU.cell? ((⟨r9,0,none⟩:Addr).add 1)=some (.int .i64 cv)/\
 ∃cw,aU.cell? ((⟨r9,0,none⟩:Addr).add 2)=some (.string cw)/\
 ∃cy,aU.cell? ((⟨r8,0,none⟩:Addr).add 0)=some (.int .i64 cy)/\
 ∃cz,aU.cell? ((⟨r8,0,none⟩:Addr).add 1)=some (.int .i64 cz)/\
 ∃cB,aU.cell? ((⟨r8,0,none⟩:Addr).add 2)=some (.string cB)/\
 Calls prog 19 #[.agg #[.int .i64 cu,.int .i64 cv,.string cw],.agg #[.int .i64 cy,.int .i64 cz,.string cB]] aU λe br=>
 ∃mj:Bool,e=.returned (.bool mj)/\
 Br (!mj) (
 zQe prog ds br λbD=>
 R (.returned (.bool true)) bD) (
 zX9 R J1 p3 p5 n6 ds br)) (
 zX9 R J1 p3 p5 n6 ds aU)) (
 zX9 R J1 p3 p5 n6 ds aD))/\(
 alE (.cells #[.int .i64 0,.int .i64 0,.string (⟨#[]⟩:ByteArray)] 28) w9 λr9 bE=>
 S1 bE/\
 alE (.cells #[.int .i64 0,.int .i64 0,.string (⟨#[]⟩:ByteArray)] 28) bE λr8 cX=>
 S1 cX/\
 stA prog 28 (⟨r7,0,none⟩:Addr) #[.int .i64 gR,.int .i64 fc,.string kd] cX λcO=>
 S1 cO/\
 stA prog 28 (⟨r8,0,none⟩:Addr) #[.int .i64 ke,.int .i64 cG,.string kf] cO λcS=>
 S1 cS/\
 stA prog 28 (⟨r9,0,none⟩:Addr) #[.int .i64 kg,.int .i64 bN,.string kh] cS λcJ=>
 ∃cd,cJ.cell? ((⟨r7,0,none⟩:Addr).add 0)=some (.int .i64 cd)/\
 ∃cf,cJ.cell? ((⟨r7,0,none⟩:Addr).add 1)=some (.int .i64 cf)/\
 ∃ci,cJ.cell? ((⟨r7,0,none⟩:Addr).add 2)=some (.string ci)/\
 ∃cj,cJ.cell? ((⟨r8,0,none⟩:Addr).add 0)=some (.int .i64 cj)/\
 ∃ck,cJ.cell? ((⟨r8,0,none⟩:Addr).add 1)=some (.int .i64 ck)/\
 ∃cm,cJ.cell? ((⟨r8,0,none⟩:Addr).add 2)=some (.string cm)/\
 Calls prog 19 #[.agg #[.int .i64 cd,.int .i64 cf,.string ci],.agg #[.int .i64 cj,.int .i64 ck,.string cm]] cJ λe cP=>
 ∃mi:Bool,e=.returned (.bool mi)/\
 Br (!mi) (
 ∃aW,cP.cell? ((⟨r9,0,none⟩:Addr).add 0)=some (.int .i64 aW)/\
 ∃aX,cP.cell? ((⟨r9,0,none⟩:Addr).add 1)=some (.int .i64 aX)/\
 ∃aY,cP.cell? ((⟨r9,0,none⟩:Addr).add 2)=some (.string aY)/\
 ∃cp,cP.cell? ((⟨r7,0,none⟩:Addr).add 0)=some (.int .i64 cp)/\
 ∃cq,cP.cell? ((⟨r7,0,none⟩:Addr).add 1)=some (.int .i64 cq)/\
 ∃ct,cP.cell? ((⟨r7,0,none⟩:Addr).add 2)=some (.string ct)/\
 Calls prog 19 #[.agg #[.int .i64 aW,.int .i64 aX,.string aY],.agg #[.int .i64 cp,.int .i64 cq,.string ct]] cP λe dQ=>
 ∃ki:Bool,e=.returned (.bool ki)/\
 Br (!ki) (
 ∃cu,dQ.cell? ((⟨r9,0,none⟩:Addr).add 0)=some (.int .i64 cu)/\
 ∃cv,dQ.cell? ((⟨r9,0,none⟩:Addr).add 1)=some (.int .i64 cv)/\
 ∃cw,dQ.cell? ((⟨r9,0,none⟩:Addr).add 2)=some (.string cw)/\
 ∃cy,dQ.cell? ((⟨r8,0,none⟩:Addr).add 0)=some (.int .i64 cy)/\
 ∃cz,dQ.cell? ((⟨r8,0,none⟩:Addr).add 1)=some (.int .i64 cz)/\
 ∃cB,dQ.cell? ((⟨r8,0,none⟩:Addr).add 2)=some (.string cB)/\
 Calls prog 19 #[.agg #[.int .i64 cu,.int .i64 cv,.string cw],.agg #[.int .i64 cy,.int .i64 cz,.string cB]] dQ λe bV=>
 ∃mj:Bool,e=.returned (.bool mj)/\
 Br (!mj) (
 zQe prog ds bV λdR=>
 R (.returned (.bool true)) dR) (
 zX9 R J1 p3 p5 n6 ds bV)) (
 zX9 R J1 p3 p5 n6 ds dQ)) (
 zX9 R J1 p3 p5 n6 ds cP)))/\(
 (
 alE (.cells #[.int .i64 0,.int .i64 0,.string (⟨#[]⟩:ByteArray)] 28) w2 λr8 cR=>
 S1 cR/\
 (
 alE (.cells #[.int .i64 0,.int .i64 0,.string (⟨#[]⟩:ByteArray)] 28) cR λr7 dj=>
 S1 dj/\
 alE (.cells #[.int .i64 0,.int .i64 0,.string (⟨#[]⟩:ByteArray)] 28) dj λr9 dw=>
 S1 dw/\
 stA prog 28 (⟨r7,0,none⟩:Addr) #[.int .i64 gR,.int .i64 fc,.string kd] dw λgB=>
 S1 gB/\
 stA prog 28 (⟨r8,0,none⟩:Addr) #[.int .i64 ke,.int .i64 cG,.string kf] gB λgZ=>
 S1 gZ/\
 stA prog 28 (⟨r9,0,none⟩:Addr) #[.int .i64 kg,.int .i64 bN,.string kh] gZ λcK=>
 ∃cd,cK.cell? ((⟨r7,0,none⟩:Addr).add 0)=some (.int .i64 cd)/\
 ∃cf,cK.cell? ((⟨r7,0,none⟩:Addr).add 1)=some (.int .i64 cf)/\
 ∃ci,cK.cell? ((⟨r7,0,none⟩:Addr).add 2)=some (.string ci)/\
 ∃cj,cK.cell? ((⟨r8,0,none⟩:Addr).add 0)=some (.int .i64 cj)/\
 ∃ck,cK.cell? ((⟨r8,0,none⟩:Addr).add 1)=some (.int .i64 ck)/\
 ∃cm,cK.cell? ((⟨r8,0,none⟩:Addr).add 2)=some (.string cm)/\
 Calls prog 19 #[.agg #[.int .i64 cd,.int .i64 cf,.string ci],.agg #[.int .i64 cj,.int .i64 ck,.string cm]] cK λe bn=>
 ∃mi:Bool,e=.returned (.bool mi)/\
 Br (!mi) (
 ∃aW,bn.cell? ((⟨r9,0,none⟩:Addr).add 0)=some (.int .i64 aW)/\
 ∃aX,bn.cell? ((⟨r9,0,none⟩:Addr).add 1)=some (.int .i64 aX)/\
 ∃aY,bn.cell? ((⟨r9,0,none⟩:Addr).add 2)=some (.string aY)/\
 ∃cp,bn.cell? ((⟨r7,0,none⟩:Addr).add 0)=some (.int .i64 cp)/\
 ∃cq,bn.cell? ((⟨r7,0,none⟩:Addr).add 1)=some (.int .i64 cq)/\
 ∃ct,bn.cell? ((⟨r7,0,none⟩:Addr).add 2)=some (.string ct)/\
 Calls prog 19 #[.agg #[.int .i64 aW,.int .i64 aX,.string aY],.agg #[.int .i64 cp,.int .i64 cq,.string ct]] bn λe fT=>
 ∃ki:Bool,e=.returned (.bool ki)/\
 Br (!ki) (
 ∃cu,fT.cell? ((⟨r9,0,none⟩:Addr).add 0)=some (.int .i64 cu)/\
 ∃cv,fT.cell? ((⟨r9,0,none⟩:Addr).add 1)=some (.int .i64 cv)/\
 ∃cw,fT.cell? ((⟨r9,0,none⟩:Addr).add 2)=some (.string cw)/\
 ∃cy,fT.cell? ((⟨r8,0,none⟩:Addr).add 0)=some (.int .i64 cy)/\
 ∃cz,fT.cell? ((⟨r8,0,none⟩:Addr).add 1)=some (.int .i64 cz)/\
 ∃cB,fT.cell? ((⟨r8,0,none⟩:Addr).add 2)=some (.string cB)/\
 Calls prog 19 #[.agg #[.int .i64 cu,.int .i64 cv,.string cw],.agg #[.int .i64 cy,.int .i64 cz,.string cB]] fT λe qm=>
 ∃mj:Bool,e=.returned (.bool mj)/\
 Br (!mj) (
 zQe prog ds qm λj6=>
 R (.returned (.bool true)) j6) (
 zX9 R J1 p3 p5 n6 ds qm)) (
 zX9 R J1 p3 p5 n6 ds fT)) (
 zX9 R J1 p3 p5 n6 ds bn))/\(
 alE (.cells #[.int .i64 0,.int .i64 0,.string (⟨#[]⟩:ByteArray)] 28) cR λr9 iK=>
 S1 iK/\
 alE (.cells #[.int .i64 0,.int .i64 0,.string (⟨#[]⟩:ByteArray)] 28) iK λr7 iF=>
 S1 iF/\
 stA prog 28 (⟨r7,0,none⟩:Addr) #[.int .i64 gR,.int .i64 fc,.string kd] iF λiR=>
 S1 iR/\
 stA prog 28 (⟨r8,0,none⟩:Addr) #[.int .i64 ke,.int .i64 cG,.string kf] iR λyk=>
 S1 yk/\
 stA prog 28 (⟨r9,0,none⟩:Addr) #[.int .i64 kg,.int .i64 bN,.string kh] yk λpY=>
 ∃cd,pY.cell? ((⟨r7,0,none⟩:Addr).add 0)=some (.int .i64 cd)/\
 ∃cf,pY.cell? ((⟨r7,0,none⟩:Addr).add 1)=some (.int .i64 cf)/\
 ∃ci,pY.cell? ((⟨r7,0,none⟩:Addr).add 2)=some (.string ci)/\
 ∃cj,pY.cell? ((⟨r8,0,none⟩:Addr).add 0)=some (.int .i64 cj)/\
 ∃ck,pY.cell? ((⟨r8,0,none⟩:Addr).add 1)=some (.int .i64 ck)/\
 ∃cm,pY.cell? ((⟨r8,0,none⟩:Addr).add 2)=some (.string cm)/\
 Calls prog 19 #[.agg #[.int .i64 cd,.int .i64 cf,.string ci],.agg #[.int .i64 cj,.int .i64 ck,.string cm]] pY λe jV=>
 ∃mi:Bool,e=.returned (.bool mi)/\
 Br (!mi) (
 ∃aW,jV.cell? ((⟨r9,0,none⟩:Addr).add 0)=some (.int .i64 aW)/\
 ∃aX,jV.cell? ((⟨r9,0,none⟩:Addr).add 1)=some (.int .i64 aX)/\
 ∃aY,jV.cell? ((⟨r9,0,none⟩:Addr).add 2)=some (.string aY)/\
 ∃cp,jV.cell? ((⟨r7,0,none⟩:Addr).add 0)=some (.int .i64 cp)/\
 ∃cq,jV.cell? ((⟨r7,0,none⟩:Addr).add 1)=some (.int .i64 cq)/\
 ∃ct,jV.cell? ((⟨r7,0,none⟩:Addr).add 2)=some (.string ct)/\
 Calls prog 19 #[.agg #[.int .i64 aW,.int .i64 aX,.string aY],.agg #[.int .i64 cp,.int .i64 cq,.string ct]] jV λe gM=>
 ∃ki:Bool,e=.returned (.bool ki)/\
 Br (!ki) (
 ∃cu,gM.cell? ((⟨r9,0,none⟩:Addr).add 0)=some (.int .i64 cu)/\
 ∃cv,gM.cell? ((⟨r9,0,none⟩:Addr).add 1)=some (.int .i64 cv)/\
 ∃cw,gM.cell? ((⟨r9,0,none⟩:Addr).add 2)=some (.string cw)/\
 ∃cy,gM.cell? ((⟨r8,0,none⟩:Addr).add 0)=some (.int .i64 cy)/\
 ∃cz,gM.cell? ((⟨r8,0,none⟩:Addr).add 1)=some (.int .i64 cz)/\
 ∃cB,gM.cell? ((⟨r8,0,none⟩:Addr).add 2)=some (.string cB)/\
 Calls prog 19 #[.agg #[.int .i64 cu,.int .i64 cv,.string cw],.agg #[.int .i64 cy,.int .i64 cz,.string cB]] gM λe oG=>
 ∃mj:Bool,e=.returned (.bool mj)/\
 Br (!mj) (
 zQe prog ds oG λpX=>
 R (.returned (.bool true)) pX) (
 zX9 R J1 p3 p5 n6 ds oG)) (
 zX9 R J1 p3 p5 n6 ds gM)) (
 zX9 R J1 p3 p5 n6 ds jV)))/\(
 alE (.cells #[.int .i64 0,.int .i64 0,.string (⟨#[]⟩:ByteArray)] 28) w2 λr9 pJ=>
 S1 pJ/\
 (
 alE (.cells #[.int .i64 0,.int .i64 0,.string (⟨#[]⟩:ByteArray)] 28) pJ λr7 rX=>
 S1 rX/\
 alE (.cells #[.int .i64 0,.int .i64 0,.string (⟨#[]⟩:ByteArray)] 28) rX λr8 fw=>
 S1 fw/\
 stA prog 28 (⟨r7,0,none⟩:Addr) #[.int .i64 gR,.int .i64 fc,.string kd] fw λyO=>
 S1 yO/\
 stA prog 28 (⟨r8,0,none⟩:Addr) #[.int .i64 ke,.int .i64 cG,.string kf] yO λvm=>
 S1 vm/\
 stA prog 28 (⟨r9,0,none⟩:Addr) #[.int .i64 kg,.int .i64 bN,.string kh] vm λtH=>
 ∃cd,tH.cell? ((⟨r7,0,none⟩:Addr).add 0)=some (.int .i64 cd)/\
 ∃cf,tH.cell? ((⟨r7,0,none⟩:Addr).add 1)=some (.int .i64 cf)/\
 ∃ci,tH.cell? ((⟨r7,0,none⟩:Addr).add 2)=some (.string ci)/\
 ∃cj,tH.cell? ((⟨r8,0,none⟩:Addr).add 0)=some (.int .i64 cj)/\
 ∃ck,tH.cell? ((⟨r8,0,none⟩:Addr).add 1)=some (.int .i64 ck)/\
 ∃cm,tH.cell? ((⟨r8,0,none⟩:Addr).add 2)=some (.string cm)/\
 Calls prog 19 #[.agg #[.int .i64 cd,.int .i64 cf,.string ci],.agg #[.int .i64 cj,.int .i64 ck,.string cm]] tH λe nv=>
 ∃mi:Bool,e=.returned (.bool mi)/\
 Br (!mi) (
 ∃aW,nv.cell? ((⟨r9,0,none⟩:Addr).add 0)=some (.int .i64 aW)/\
 ∃aX,nv.cell? ((⟨r9,0,none⟩:Addr).add 1)=some (.int .i64 aX)/\
 ∃aY,nv.cell? ((⟨r9,0,none⟩:Addr).add 2)=some (.string aY)/\
 ∃cp,nv.cell? ((⟨r7,0,none⟩:Addr).add 0)=some (.int .i64 cp)/\
 ∃cq,nv.cell? ((⟨r7,0,none⟩:Addr).add 1)=some (.int .i64 cq)/\
 ∃ct,nv.cell? ((⟨r7,0,none⟩:Addr).add 2)=some (.string ct)/\
 Calls prog 19 #[.agg #[.int .i64 aW,.int .i64 aX,.string aY],.agg #[.int .i64 cp,.int .i64 cq,.string ct]] nv λe lg=>
 ∃ki:Bool,e=.returned (.bool ki)/\
 Br (!ki) (
 ∃cu,lg.cell? ((⟨r9,0,none⟩:Addr).add 0)=some (.int .i64 cu)/\
 ∃cv,lg.cell? ((⟨r9,0,none⟩:Addr).add 1)=some (.int .i64 cv)/\
 ∃cw,lg.cell? ((⟨r9,0,none⟩:Addr).add 2)=some (.string cw)/\
 ∃cy,lg.cell? ((⟨r8,0,none⟩:Addr).add 0)=some (.int .i64 cy)/\
 ∃cz,lg.cell? ((⟨r8,0,none⟩:Addr).add 1)=some (.int .i64 cz)/\
 ∃cB,lg.cell? ((⟨r8,0,none⟩:Addr).add 2)=some (.string cB)/\
 Calls prog 19 #[.agg #[.int .i64 cu,.int .i64 cv,.string cw],.agg #[.int .i64 cy,.int .i64 cz,.string cB]] lg λe w55=>
 ∃mj:Bool,e=.returned (.bool mj)/\
 Br (!mj) (
 zQe prog ds w55 λwK=>
 R (.returned (.bool true)) wK) (
 zX9 R J1 p3 p5 n6 ds w55)) (
 zX9 R J1 p3 p5 n6 ds lg)) (
 zX9 R J1 p3 p5 n6 ds nv))/\(
 alE (.cells #[.int .i64 0,.int .i64 0,.string (⟨#[]⟩:ByteArray)] 28) pJ λr8 w57=>
 S1 w57/\
 alE (.cells #[.int .i64 0,.int .i64 0,.string (⟨#[]⟩:ByteArray)] 28) w57 λr7 vd=>
 S1 vd/\
 stA prog 28 (⟨r7,0,none⟩:Addr) #[.int .i64 gR,.int .i64 fc,.string kd] vd λw59=>
 S1 w59/\
 stA prog 28 (⟨r8,0,none⟩:Addr) #[.int .i64 ke,.int .i64 cG,.string kf] w59 λw60=>
 S1 w60/\
 stA prog 28 (⟨r9,0,none⟩:Addr) #[.int .i64 kg,.int .i64 bN,.string kh] w60 λpQ=>
 ∃cd,pQ.cell? ((⟨r7,0,none⟩:Addr).add 0)=some (.int .i64 cd)/\
 ∃cf,pQ.cell? ((⟨r7,0,none⟩:Addr).add 1)=some (.int .i64 cf)/\
 ∃ci,pQ.cell? ((⟨r7,0,none⟩:Addr).add 2)=some (.string ci)/\
 ∃cj,pQ.cell? ((⟨r8,0,none⟩:Addr).add 0)=some (.int .i64 cj)/\
 ∃ck,pQ.cell? ((⟨r8,0,none⟩:Addr).add 1)=some (.int .i64 ck)/\
 ∃cm,pQ.cell? ((⟨r8,0,none⟩:Addr).add 2)=some (.string cm)/\
 Calls prog 19 #[.agg #[.int .i64 cd,.int .i64 cf,.string ci],.agg #[.int .i64 cj,.int .i64 ck,.string cm]] pQ λe pG=>
 ∃mi:Bool,e=.returned (.bool mi)/\
 Br (!mi) (
 ∃aW,pG.cell? ((⟨r9,0,none⟩:Addr).add 0)=some (.int .i64 aW)/\
 ∃aX,pG.cell? ((⟨r9,0,none⟩:Addr).add 1)=some (.int .i64 aX)/\
 ∃aY,pG.cell? ((⟨r9,0,none⟩:Addr).add 2)=some (.string aY)/\
 ∃cp,pG.cell? ((⟨r7,0,none⟩:Addr).add 0)=some (.int .i64 cp)/\
 ∃cq,pG.cell? ((⟨r7,0,none⟩:Addr).add 1)=some (.int .i64 cq)/\
 ∃ct,pG.cell? ((⟨r7,0,none⟩:Addr).add 2)=some (.string ct)/\
 Calls prog 19 #[.agg #[.int .i64 aW,.int .i64 aX,.string aY],.agg #[.int .i64 cp,.int .i64 cq,.string ct]] pG λe rY=>
 ∃ki:Bool,e=.returned (.bool ki)/\
 Br (!ki) (
 ∃cu,rY.cell? ((⟨r9,0,none⟩:Addr).add 0)=some (.int .i64 cu)/\
 ∃cv,rY.cell? ((⟨r9,0,none⟩:Addr).add 1)=some (.int .i64 cv)/\
 ∃cw,rY.cell? ((⟨r9,0,none⟩:Addr).add 2)=some (.string cw)/\
 ∃cy,rY.cell? ((⟨r8,0,none⟩:Addr).add 0)=some (.int .i64 cy)/\
 ∃cz,rY.cell? ((⟨r8,0,none⟩:Addr).add 1)=some (.int .i64 cz)/\
 ∃cB,rY.cell? ((⟨r8,0,none⟩:Addr).add 2)=some (.string cB)/\
 Calls prog 19 #[.agg #[.int .i64 cu,.int .i64 cv,.string cw],.agg #[.int .i64 cy,.int .i64 cz,.string cB]] rY λe ve=>
 ∃mj:Bool,e=.returned (.bool mj)/\
 Br (!mj) (
 zQe prog ds ve λpR=>
 R (.returned (.bool true)) pR) (
 zX9 R J1 p3 p5 n6 ds ve)) (
 zX9 R J1 p3 p5 n6 ds rY)) (
 zX9 R J1 p3 p5 n6 ds pG))))
def xZH (R:Rt) (J1:(Int)->World->Prop) (p3 p5:Option Addr) (n6:Int) (ds:Ds) (w:World):Prop:=
 zQi p5 λa66=>
 ∃kQ:SV,w.cell? (a66.add 1)=some (kQ.v)/\
 Br (decide (n6<(kQ.len:Int))) (
 xXS R J1 p3 p5 n6 ds w) (
 xZU R ds w)
def yQq(R:Rt)(p3 p5:Option Addr)(n6:Int)(ds:Ds)(w:World):Prop:=
 zQ8 (λ(J1:(Int)->World->Prop) (s:Int) (w:World)=>xZH R J1 p3 p5 s ds w) n6 w
def xX5(R:Rt)(p0:Option Addr)(cF:Int)(vM:Bool)(cU:SV)(vN:Bool)(oX:SV)(ds:Ds)(w:World):Prop:=
 alE (.cells #[.int .i64 cF,.bool vM,cU.v,.bool vN,oX.v] 136) w λr3 wL=>
 dwE wL λw68=>
 ∃S2:World->Prop,S2 w68/\
 zQi p0 λa69=>
 ∃fy:SV,(∀w',S2 w'->w'.cell? (a69.add 2)=some (fy.v))/\
 ∃cE,(∀w',S2 w'->w'.cell? (⟨r3,0,none⟩:Addr)=some (.int .i64 cE))/\
 ∃a70,fy.a=some a70/\0<=(IntKind.i64.wrap (cE - 1))/\(IntKind.i64.wrap (cE - 1))<(fy.len:Int)/\
 ∃y9,(∀w',S2 w'->w'.cell? ((a70.add ((IntKind.i64.wrap (cE - 1)).toNat * 2)).add 0)=some (.bool y9))/\
 ∃mm:SV,(∀w',S2 w'->w'.cell? ((a70.add ((IntKind.i64.wrap (cE - 1)).toNat * 2)).add 1)=some (mm.v))/\
 alE (.cells #[.bool false,.slice none 0 0] 77) w68 λr5 vg=>
 S2 vg/\
 stA prog 77 (⟨r5,0,none⟩:Addr) #[.bool y9,mm.v] vg λpT=>
 ∃kK,pT.cell? ((⟨r3,0,none⟩:Addr).add 3)=some (.bool kK)/\
 ∃xH,pT.cell? ((⟨r3,0,none⟩:Addr).add 1)=some (.bool xH)/\
 Br (!(kK == xH)) (
 ∃sl,pT.cell? (⟨r5,0,none⟩:Addr)=some (.bool sl)/\
 ∃b32,pT.cell? ((⟨r3,0,none⟩:Addr).add 1)=some (.bool b32)/\
 Br (!(sl == b32)) (
 ∃sM,pT.cell? (⟨r5,0,none⟩:Addr)=some (.bool sM)/\
 ∃b40,pT.cell? ((⟨r3,0,none⟩:Addr).add 3)=some (.bool b40)/\
 Br (!(sM == b40)) (
 zQe prog ds pT λwQ=>
 R (.returned (.bool true)) wQ) (
 yQq R (some (⟨r3,0,none⟩:Addr)) (some (⟨r5,0,none⟩:Addr)) 0 ds pT)) (
 yQq R (some (⟨r3,0,none⟩:Addr)) (some (⟨r5,0,none⟩:Addr)) 0 ds pT)) (
 yQq R (some (⟨r3,0,none⟩:Addr)) (some (⟨r5,0,none⟩:Addr)) 0 ds pT)
theorem F131_p:Pl prog f131 [pS 0,aS 1 [.int .i64,.bool,.slice,.bool,.slice]] xX5:=λR=>
 pc 5 (zQz [pS 3,pS 5,iS 6] (yQq R) (bk 0 (zQz [] (xZU R) lf) (lp [iS 6] [pS 3,pS 5,iS 6] (xZH R) zXs λJ1=>pc 2 (zQz [pS 3,pS 5,iS 6] (xXS R J1) (pc 1 (zQz [pS 3,pS 5,iS 6] (zX9 R J1) lf))))))
theorem yZA (p0:Option Addr) (cF:Int) (vM:Bool) (cU:SV) (vN:Bool) (oX:SV) (w:World) (R:Rt) (h:xX5 R p0 cF vM cU vN oX [] w):Calls prog 131 #[.pointer p0,.agg #[.int .i64 cF,.bool vM,cU.v,.bool vN,oX.v]] w R:=
 plC F131_p func131 h
def yQp(R:Rt)(p0:Option Addr)(n1 n2:Int)(p8:Option Addr)(n9:Int)(b43:Bool)(ds:Ds)(w:World):Prop:=
 Br b43 (
 zQi p0 λa1=>
 0<=n1/\n1<(4:Int)/\
 ∃vq:SV,w.cell? (((a1.add 3).add (n1.toNat * 4)).add 2)=some (vq.v)/\
 ∃a2,vq.a=some a2/\0<=n9/\n9<(vq.len:Int)/\
 ∃zb,w.cell? (((a2.add (n9.toNat * 5)).add 1).add 0)=some (.bool zb)/\
 ∃ff:SV,w.cell? (((a2.add (n9.toNat * 5)).add 1).add 1)=some (ff.v)/\
 zQi p8 λa3=>
 stA prog 77 a3 #[.bool zb,ff.v] w λw4=>
 zQe prog ds w4 λw5=>
 zQi p8 λa6=>
 ∃aC,w5.cell? (a6.add 0)=some (.bool aC)/\
 ∃af:SV,w5.cell? (a6.add 1)=some (af.v)/\
 R (.returned (.agg #[.bool aC,af.v])) w5) (
 Br (decide (n9 >= 0)) (
 zQi p0 λa7=>
 0<=n1/\n1<(4:Int)/\
 ∃kN:SV,w.cell? (((a7.add 3).add (n1.toNat * 4)).add 2)=some (kN.v)/\
 ∃a8,kN.a=some a8/\0<=n9/\n9<(kN.len:Int)/\
 ∃zd,w.cell? (((a8.add (n9.toNat * 5)).add 3).add 0)=some (.bool zd)/\
 ∃mn:SV,w.cell? (((a8.add (n9.toNat * 5)).add 3).add 1)=some (mn.v)/\
 zQi p8 λa9=>
 stA prog 77 a9 #[.bool zd,mn.v] w λau=>
 zQe prog ds au λav=>
 zQi p8 λgL=>
 ∃aC,av.cell? (gL.add 0)=some (.bool aC)/\
 ∃af:SV,av.cell? (gL.add 1)=some (af.v)/\
 R (.returned (.agg #[.bool aC,af.v])) av) (
 zQi p0 λdB=>
 ∃sN:SV,w.cell? (dB.add 2)=some (sN.v)/\
 ∃fi,sN.a=some fi/\0<=(IntKind.i64.wrap (n2 - 1))/\(IntKind.i64.wrap (n2 - 1))<(sN.len:Int)/\
 ∃ze,w.cell? ((fi.add ((IntKind.i64.wrap (n2 - 1)).toNat * 2)).add 0)=some (.bool ze)/\
 ∃mo:SV,w.cell? ((fi.add ((IntKind.i64.wrap (n2 - 1)).toNat * 2)).add 1)=some (mo.v)/\
 zQi p8 λrU=>
 stA prog 77 rU #[.bool ze,mo.v] w λaU=>
 zQe prog ds aU λbr=>
 zQi p8 λk6=>
 ∃aC,br.cell? (k6.add 0)=some (.bool aC)/\
 ∃af:SV,br.cell? (k6.add 1)=some (af.v)/\
 R (.returned (.agg #[.bool aC,af.v])) br))
def xZu(R:Rt)(p0:Option Addr)(n1 n2:Int)(b3:Bool)(ds:Ds)(w:World):Prop:=
 alE (.cells #[.bool false,.slice none 0 0] 77) w λr8 bE=>
 Br (decide (n2<0)) (
 Br b3 (
 zQi p0 λa20=>
 ∃dN:SV,bE.cell? (a20.add 1)=some (dN.v)/\
 Calls prog 125 #[dN.v] bE λe cO=>
 ∃zg:Bool,∃bc:SV,e=.returned (.agg #[.bool zg,bc.v])/\
 stA prog 77 (⟨r8,0,none⟩:Addr) #[.bool zg,bc.v] cO λcS=>
 zQe prog ds cS λcJ=>
 ∃aC,cJ.cell? ((⟨r8,0,none⟩:Addr).add 0)=some (.bool aC)/\
 ∃af:SV,cJ.cell? ((⟨r8,0,none⟩:Addr).add 1)=some (af.v)/\
 R (.returned (.agg #[.bool aC,af.v])) cJ) (
 Br (decide (n2<0)) (
 zQi p0 λoe=>
 0<=n1/\n1<(4:Int)/\
 ∃fA:SV,bE.cell? (((oe.add 3).add (n1.toNat * 4)).add 3)=some (fA.v)/\
 ∃j5,fA.a=some j5/\0<=(IntKind.i64.wrap ((IntKind.i64.wrap (0 - n2)) - 1))/\(IntKind.i64.wrap ((IntKind.i64.wrap (0 - n2)) - 1))<(fA.len:Int)/\
 ∃gb,bE.cell? ((j5.add ((IntKind.i64.wrap ((IntKind.i64.wrap (0 - n2)) - 1)).toNat * 2)).add 0)=some (.bool gb)/\
 ∃bl:SV,bE.cell? ((j5.add ((IntKind.i64.wrap ((IntKind.i64.wrap (0 - n2)) - 1)).toNat * 2)).add 1)=some (bl.v)/\
 stA prog 77 (⟨r8,0,none⟩:Addr) #[.bool gb,bl.v] bE λbV=>
 zQe prog ds bV λdR=>
 ∃aC,dR.cell? ((⟨r8,0,none⟩:Addr).add 0)=some (.bool aC)/\
 ∃af:SV,dR.cell? ((⟨r8,0,none⟩:Addr).add 1)=some (af.v)/\
 R (.returned (.agg #[.bool aC,af.v])) dR) (
 Calls prog 130 #[.pointer p0,.int .i64 n1,.int .i64 n2] bE λe cR=>
 ∃mR:Int,e=.returned (.int .i64 mR)/\
 Br (decide (mR >= 0)) (
 yQp R p0 n1 n2 (some (⟨r8,0,none⟩:Addr)) mR b3 ds cR) (
 yQp R p0 n1 n2 (some (⟨r8,0,none⟩:Addr)) mR false ds cR)))) (
 Br (decide (n2<0)) (
 zQi p0 λmV=>
 0<=n1/\n1<(4:Int)/\
 ∃fA:SV,bE.cell? (((mV.add 3).add (n1.toNat * 4)).add 3)=some (fA.v)/\
 ∃pO,fA.a=some pO/\0<=(IntKind.i64.wrap ((IntKind.i64.wrap (0 - n2)) - 1))/\(IntKind.i64.wrap ((IntKind.i64.wrap (0 - n2)) - 1))<(fA.len:Int)/\
 ∃gb,bE.cell? ((pO.add ((IntKind.i64.wrap ((IntKind.i64.wrap (0 - n2)) - 1)).toNat * 2)).add 0)=some (.bool gb)/\
 ∃bl:SV,bE.cell? ((pO.add ((IntKind.i64.wrap ((IntKind.i64.wrap (0 - n2)) - 1)).toNat * 2)).add 1)=some (bl.v)/\
 stA prog 77 (⟨r8,0,none⟩:Addr) #[.bool gb,bl.v] bE λgB=>
 zQe prog ds gB λgZ=>
 ∃aC,gZ.cell? ((⟨r8,0,none⟩:Addr).add 0)=some (.bool aC)/\
 ∃af:SV,gZ.cell? ((⟨r8,0,none⟩:Addr).add 1)=some (af.v)/\
 R (.returned (.agg #[.bool aC,af.v])) gZ) (
 Calls prog 130 #[.pointer p0,.int .i64 n1,.int .i64 n2] bE λe cK=>
 ∃mR:Int,e=.returned (.int .i64 mR)/\
 Br (decide (mR >= 0)) (
 yQp R p0 n1 n2 (some (⟨r8,0,none⟩:Addr)) mR b3 ds cK) (
 yQp R p0 n1 n2 (some (⟨r8,0,none⟩:Addr)) mR false ds cK)))
theorem F164_p:Pl prog f164 [pS 0,iS 1,iS 2,bS 3] xZu:=λR=>
 pc 7 (zQz [pS 0,iS 1,iS 2,pS 8,iS 9,bS 43] (yQp R) lf)
theorem yZX (p0:Option Addr) (n1 n2:Int) (b3:Bool) (w:World) (R:Rt) (h:xZu R p0 n1 n2 b3 [] w):Calls prog 164 #[.pointer p0,.int .i64 n1,.int .i64 n2,.bool b3] w R:=
 plC F164_p func164 h
end Go.Proofs.YtcihcbfcgjepfaaGreatDoor
/- Shallow texts of functions, printed by program, each checked by the kernel against the loaded code. No condition. -/
namespace Go.Proofs.YtcihcbfcgjepfaaGreatDoor
open Go.Sh Tryz
def F23_1(R:Rt)(ds:Ds)(w:World):Prop:=
 zQe prog ds w λw1=>
 R (.returned (.bool true)) w1
def F23_2 (R:Rt) (J1:(Int)->World->Prop) (p2 p3:Option Addr) (n5:Int) (ds:Ds) (w:World):Prop:=
 zQi p2 λa2=>
 ∃cL:SV,w.cell? (a2.add 2)=some (cL.v)/\
 Br (decide (n5<(cL.len:Int))) (
 dwE w λw3=>
 zQi p2 λa4=>
 ∃tm:SV,w3.cell? (a4.add 2)=some (tm.v)/\
 ∃a5,tm.a=some a5/\0<=n5/\n5<(tm.len:Int)/\
 ∃zh,w3.cell? ((a5.add (n5.toNat * 2)).add 0)=some (.bool zh)/\
 ∃mr:SV,w3.cell? ((a5.add (n5.toNat * 2)).add 1)=some (mr.v)/\
 zQi p3 λa6=>
 ∃iQ:SV,w3.cell? (a6.add 2)=some (iQ.v)/\
 ∃a7,iQ.a=some a7/\0<=n5/\n5<(iQ.len:Int)/\
 ∃oy,w3.cell? ((a7.add (n5.toNat * 2)).add 0)=some (.bool oy)/\
 ∃bZ:SV,w3.cell? ((a7.add (n5.toNat * 2)).add 1)=some (bZ.v)/\
 Calls prog 60 #[.agg #[.bool zh,mr.v],.agg #[.bool oy,bZ.v]] w3 λe w8=>
 ∃b45:Bool,e=.returned (.bool b45)/\
 Br (!b45) (
 zQe prog ds w8 λw9=>
 R (.returned (.bool false)) w9) (
 J1 (IntKind.i64.wrap (n5+1)) w8)) (
 F23_1 R ds w)
def F23_3(R:Rt)(p2 p3:Option Addr)(n5:Int)(ds:Ds)(w:World):Prop:=
 zQ8 (λ(J1:(Int)->World->Prop) (s:Int) (w:World)=>F23_2 R J1 p2 p3 s ds w) n5 w
def F23_5(R:Rt)(az:Int)(ai ax:SV)(cF:Int)(aJ cU:SV)(ds:Ds)(w:World):Prop:=
 alE (.cells #[.int .i64 az,ai.v,ax.v] 25) w λr2 au=>
 alE (.cells #[.int .i64 cF,aJ.v,cU.v] 25) au λr3 av=>
 ∃n7,av.cell? (⟨r2,0,none⟩:Addr)=some (.int .i64 n7)/\
 ∃n9,av.cell? (⟨r3,0,none⟩:Addr)=some (.int .i64 n9)/\
 Br (n7 != n9) (
 zQe prog ds av λao=>
 R (.returned (.bool false)) ao) (
 ∃dU:SV,av.cell? ((⟨r2,0,none⟩:Addr).add 1)=some (dU.v)/\
 ∃dL:SV,av.cell? ((⟨r3,0,none⟩:Addr).add 1)=some (dL.v)/\
 Calls prog 59 #[dU.v,dL.v] av λe aE=>
 ∃kY:Bool,e=.returned (.bool kY)/\
 Br (!kY) (
 zQe prog ds aE λaI=>
 R (.returned (.bool false)) aI) (
 ∃cI:SV,aE.cell? ((⟨r2,0,none⟩:Addr).add 2)=some (cI.v)/\
 ∃vp:SV,aE.cell? ((⟨r3,0,none⟩:Addr).add 2)=some (vp.v)/\
 Br ((cI.len:Int) != (vp.len:Int)) (
 zQe prog ds aE λaD=>
 R (.returned (.bool false)) aD) (
 F23_3 R (some (⟨r2,0,none⟩:Addr)) (some (⟨r3,0,none⟩:Addr)) 0 ds aE)))
theorem F23_p:Pl prog f23 [aS 0 [.int .i64,.slice,.slice],aS 1 [.int .i64,.slice,.slice]] F23_5:=λR=>
 pc 4 (zQz [pS 2,pS 3,iS 5] (F23_3 R) (bk 0 (zQz [] (F23_1 R) lf) (lp [iS 5] [pS 2,pS 3,iS 5] (F23_2 R) zXs λJ1=>lf)))
theorem yWQ (az:Int) (ai ax:SV) (cF:Int) (aJ cU:SV) (w:World) (R:Rt) (h:F23_5 R az ai ax cF aJ cU [] w):Calls prog 23 #[.agg #[.int .i64 az,ai.v,ax.v],.agg #[.int .i64 cF,aJ.v,cU.v]] w R:=
 plC F23_p func23 h
end Go.Proofs.YtcihcbfcgjepfaaGreatDoor
/- Shallow texts of functions, printed by program, each checked by the kernel against the loaded code. No condition. -/
namespace Go.Proofs.YtcihcbfcgjepfaaGreatDoor
open Go.Sh Tryz
def F33_1(R:Rt)(p4:Option Addr)(ds:Ds)(w:World):Prop:=
 zQe prog ds w λw1=>
 R (.returned (.pointer p4)) w1
def F33_2 (R:Rt) (J1:(Int)->World->Prop) (p0 p4:Option Addr) (gk:Int) (ds:Ds) (w:World):Prop:=
 J1 (IntKind.i64.wrap (gk+1)) w
def F33_3 (R:Rt) (J1:(Int)->World->Prop) (J2:(Unit)->World->Prop) (p0 p4 p6:Option Addr) (gk:Int) (zi:Option Addr) (ds:Ds) (w:World):Prop:=
 (∃w2,(Instr.next (.pointer zi) false 0).run prog w=.ok (.tuple #[.bool false]) w2/\
 F33_2 R J1 p0 p4 gk ds w2)∨(∃k60 v60:Value,∃w3,(Instr.next (.pointer zi) false 0).run prog w=.ok (.tuple #[.bool true,k60,v60]) w3/\
 ∃k62 v62:Value,∃w4,(Instr.entry (.pointer zi)).run prog w3=.ok (.tuple #[k62,v62]) w4/\
 yQc .i64 k62 λn63=>
 yX5 v62 λq64=>
 dHd q64 λx64_0 q64_0=>
 dBl x64_0 λqq=>
 dHd q64_0 λx64_1 q64_1=>
 dSl x64_1 λgP=>
 dHd q64_1 λx64_2 q64_2=>
 dBl x64_2 λb64_2=>
 dHd q64_2 λx64_3 q64_3=>
 dSl x64_3 λtI=>
 yZE q64_3 (
 alE (.cells #[.bool false,.slice none 0 0,.bool false,.slice none 0 0] 133) w4 λr8 w5=>
 stA prog 133 (⟨r8,0,none⟩:Addr) #[.bool qq,gP.v,.bool b64_2,tI.v] w5 λw6=>
 dwE w6 λw7=>
 ∃S1:World->Prop,S1 w7/\
 zQi p6 λa8=>
 ∃m68,(∀w',S1 w'->w'.cell? (a8.add 2)=some (.map m68))/\
 ∃zj,(∀w',S1 w'->w'.cell? ((⟨r8,0,none⟩:Addr).add 0)=some (.bool zj))/\
 ∃ms:SV,(∀w',S1 w'->w'.cell? ((⟨r8,0,none⟩:Addr).add 1)=some (ms.v))/\
 ∃nZ,(∀w',S1 w'->w'.cell? (((⟨r8,0,none⟩:Addr).add 2).add 0)=some (.bool nZ))/\
 ∃ei:SV,(∀w',S1 w'->w'.cell? (((⟨r8,0,none⟩:Addr).add 2).add 1)=some (ei.v))/\
 Calls prog 88 #[.agg #[.bool zj,ms.v]] w7 λe w9=>
 ∃zk:Bool,∃mt:SV,e=.returned (.agg #[.bool zk,mt.v])/\
 S1 w9/\
 Calls prog 88 #[.agg #[.bool nZ,ei.v]] w9 λe au=>
 ∃fY:Bool,∃bf:SV,e=.returned (.agg #[.bool fY,bf.v])/\
 S1 au/\
 doE prog (Instr.mapUpdate 88 (.map m68) (.int .i64 n63) (.agg #[.bool zk,mt.v,.bool fY,bf.v])) au λav=>
 J2 () av))
def xJ5 (R:Rt) (J1:(Int)->World->Prop) (p0 p4 p6:Option Addr) (gk:Int) (zi:Option Addr) (ds:Ds) (w:World):Prop:=
 zQ8 (λ(J2:(Unit)->World->Prop) (_:Unit) (w:World)=>F33_3 R J1 J2 p0 p4 p6 gk zi ds w) () w
def F33_6 (R:Rt) (J1:(Int)->World->Prop) (p0 p4:Option Addr) (gk:Int) (ds:Ds) (w:World):Prop:=
 zQi p4 λgL=>
 0<=gk/\gk<(4:Int)/\
 ∃tl:SV,w.cell? (((gL.add 5).add (gk.toNat * 4)).add 3)=some (tl.v)/\
 Calls prog 40 #[tl.v] w λe aE=>
 ∃kQ:SV,e=.returned (kQ.v)/\
 st1 (((gL.add 5).add (gk.toNat * 4)).add 3) (kQ.v) aE λaI=>
 alE (.map #[] 0) aI λiI aD=>
 st1 (((gL.add 5).add (gk.toNat * 4)).add 2) (.map (some iI)) aD λaU=>
 zQi p0 λnc=>
 0<=gk/\gk<(4:Int)/\
 ∃m58,aU.cell? (((nc.add 5).add (gk.toNat * 4)).add 2)=some (.map m58)/\
 ∃zi:Option Addr,∃bD,(Instr.range 88 (.map m58)).run prog aU=.ok (.pointer zi) bD/\
 xJ5 R J1 p0 p4 (some ((gL.add 5).add (gk.toNat * 4))) gk zi ds bD
def F33_8 (R:Rt) (J1:(Int)->World->Prop) (p0 p4:Option Addr) (gk:Int) (ds:Ds) (w:World):Prop:=
 Br (decide (gk<4)) (
 F33_6 R J1 p0 p4 gk ds w) (
 F33_1 R p4 ds w)
def F33_9(R:Rt)(p0 p4:Option Addr)(gk:Int)(ds:Ds)(w:World):Prop:=
 zQ8 (λ(J1:(Int)->World->Prop) (s:Int) (w:World)=>F33_8 R J1 p0 p4 s ds w) gk w
def xQ4(R:Rt)(p0:Option Addr)(ds:Ds)(w:World):Prop:=
 ∃iG:Bool,∃bE,(eqS .eql 32 (.tmp 9) (.const (.pointer none)) (.pointer p0) (.pointer none)).run prog w=.ok (.bool iG) bE/\
 Br iG (
 zQe prog ds bE λcX=>
 R (.returned (.pointer none)) cX) (
 Calls prog 24 #[.pointer p0] bE λe cO=>
 ∃oO:Int,∃fg:SV,∃mv:SV,e=.returned (.agg #[.int .i64 oO,fg.v,mv.v])/\
 alE (.cells #[.int .i64 0,.slice none 0 0,.slice none 0 0] 25) cO λr3 cS=>
 stA prog 25 (⟨r3,0,none⟩:Addr) #[.int .i64 oO,fg.v,mv.v] cS λcJ=>
 zQi p0 λoe=>
 Calls prog 85 #[.pointer (some oe)] cJ λe dQ=>
 e=.returned (.tuple #[])/\
 zQi p0 λvG=>
 dwE dQ λdR=>
 ∃S2:World->Prop,S2 dR/\
 ∃dD,(∀w',S2 w'->w'.cell? ((⟨r3,0,none⟩:Addr).add 0)=some (.int .i64 dD))/\
 ∃bc:SV,(∀w',S2 w'->w'.cell? ((⟨r3,0,none⟩:Addr).add 1)=some (bc.v))/\
 ∃bX:SV,(∀w',S2 w'->w'.cell? ((⟨r3,0,none⟩:Addr).add 2)=some (bX.v))/\
 zQi p0 λa28=>
 ∃dJ,(∀w',S2 w'->w'.cell? ((a28.add 5).add 0)=some (.int .i64 dJ))/\
 ∃cN,(∀w',S2 w'->w'.cell? ((a28.add 5).add 1)=some (.int .i64 cN))/\
 ∃zl,(∀w',S2 w'->w'.cell? ((a28.add 5).add 2)=some (.map zl))/\
 ∃eI:SV,(∀w',S2 w'->w'.cell? ((a28.add 5).add 3)=some (eI.v))/\
 ∃zm,(∀w',S2 w'->w'.cell? ((a28.add 5).add 4)=some (.int .i64 zm))/\
 ∃zn,(∀w',S2 w'->w'.cell? ((a28.add 5).add 5)=some (.int .i64 zn))/\
 ∃zo,(∀w',S2 w'->w'.cell? ((a28.add 5).add 6)=some (.map zo))/\
 ∃mw:SV,(∀w',S2 w'->w'.cell? ((a28.add 5).add 7)=some (mw.v))/\
 ∃zt,(∀w',S2 w'->w'.cell? ((a28.add 5).add 8)=some (.int .i64 zt))/\
 ∃zu,(∀w',S2 w'->w'.cell? ((a28.add 5).add 9)=some (.int .i64 zu))/\
 ∃tJ,(∀w',S2 w'->w'.cell? ((a28.add 5).add 10)=some (.map tJ))/\
 ∃ja:SV,(∀w',S2 w'->w'.cell? ((a28.add 5).add 11)=some (ja.v))/\
 ∃tK,(∀w',S2 w'->w'.cell? ((a28.add 5).add 12)=some (.int .i64 tK))/\
 ∃tL,(∀w',S2 w'->w'.cell? ((a28.add 5).add 13)=some (.int .i64 tL))/\
 ∃tM,(∀w',S2 w'->w'.cell? ((a28.add 5).add 14)=some (.map tM))/\
 ∃jb:SV,(∀w',S2 w'->w'.cell? ((a28.add 5).add 15)=some (jb.v))/\
 zQi p0 λmV=>
 ∃m28,(∀w',S2 w'->w'.cell? (mV.add 21)=some (.map m28))/\
 Calls prog 87 #[.map m28] dR λe dw=>
 ∃m29:Option Nat,e=.returned (.map m29)/\
 S2 dw/\
 alE (.cells #[.int .i32 0,.int .u32 0,.int .i64 dD,bc.v,bX.v,.int .i64 dJ,.int .i64 cN,.map zl,eI.v,.int .i64 zm,.int .i64 zn,.map zo,mw.v,.int .i64 zt,.int .i64 zu,.map tJ,ja.v,.int .i64 tK,.int .i64 tL,.map tM,jb.v,.map m29] 93) dw λr31 gB=>
 F33_9 R p0 (some (⟨r31,0,none⟩:Addr)) 0 ({ target:=.fn (.func 86) #[],args:=#[.pointer (some vG)] } :: ds) gB)
theorem F33_p:Pl prog f33 [pS 0] xQ4:=λR=>
 pc 8 (zQz [pS 0,pS 4,iS 32] (F33_9 R) (bk 0 (zQz [pS 4] (F33_1 R) lf) (lp [iS 32] [pS 0,pS 4,iS 32] (F33_8 R) zXs λJ1=>pc 2 (zQz [pS 0,pS 4,iS 32] (F33_6 R J1) (bk 1 (zQz [pS 0,pS 4,iS 32] (F33_2 R J1) lf) (pc 5 (zQz [pS 0,pS 4,pS 6,iS 32,pS 59] (xJ5 R J1) (bk 2 zXs (lp [] [pS 0,pS 4,pS 6,iS 32,pS 59] (F33_3 R J1) zXs λJ2=>lf)))))))))
theorem yKj (p0:Option Addr) (w:World) (R:Rt) (h:xQ4 R p0 [] w):Calls prog 33 #[.pointer p0] w R:=
 plC F33_p func33 h
end Go.Proofs.YtcihcbfcgjepfaaGreatDoor
/- Shallow texts of functions, printed by program, each checked by the kernel against the loaded code. No condition. -/
namespace Go.Proofs.YtcihcbfcgjepfaaGreatDoor
open Go.Sh Tryz
def F84_1(R:Rt)(ds:Ds)(w:World):Prop:=
 zQe prog ds w λw1=>
 R (.returned (.bool true)) w1
def F84_2 (R:Rt) (J1:(Unit)->World->Prop) (m1:Option Nat) (pK:Option Addr) (ds:Ds) (w:World):Prop:=
 (∃w2,(Instr.next (.pointer pK) false 0).run prog w=.ok (.tuple #[.bool false]) w2/\
 F84_1 R ds w2)∨(∃k16 v16:Value,∃w3,(Instr.next (.pointer pK) false 0).run prog w=.ok (.tuple #[.bool true,k16,v16]) w3/\
 ∃k18 v18:Value,∃w4,(Instr.entry (.pointer pK)).run prog w3=.ok (.tuple #[k18,v18]) w4/\
 yQc .i64 k18 λlh=>
 yQc .i64 v18 λfD=>
 ∃dJ:Int,∃zw:Bool,∃w5,(Instr.lookup 80 (.map m1) (.int .i64 lh) true).run prog w4=.ok (.tuple #[.int .i64 dJ,.bool zw]) w5/\
 Br (!zw) (
 zQe prog ds w5 λw6=>
 R (.returned (.bool false)) w6) (
 Br (fD != dJ) (
 zQe prog ds w5 λw7=>
 R (.returned (.bool false)) w7) (
 J1 () w5)))
def F84_3(R:Rt)(m1:Option Nat)(pK:Option Addr)(ds:Ds)(w:World):Prop:=
 zQ8 (λ(J1:(Unit)->World->Prop) (_:Unit) (w:World)=>F84_2 R J1 m1 pK ds w) () w
def F84_5(R:Rt)(m0 m1:Option Nat)(ds:Ds)(w:World):Prop:=
 ∃ia:Int,∃w8,(Builtin.len_ #[80] 3 #[.map m0]).run prog w=.ok (.int .i64 ia) w8/\
 ∃fo:Int,∃w9,(Builtin.len_ #[80] 3 #[.map m1]).run prog w8=.ok (.int .i64 fo) w9/\
 Br (ia != fo) (
 zQe prog ds w9 λau=>
 R (.returned (.bool false)) au) (
 ∃pK:Option Addr,∃av,(Instr.range 80 (.map m0)).run prog w9=.ok (.pointer pK) av/\
 F84_3 R m1 pK ds av)
theorem F84_p:Pl prog f84 [mS 0,mS 1] F84_5:=λR=>
 pc 4 (zQz [mS 1,pS 15] (F84_3 R) (bk 0 (zQz [] (F84_1 R) lf) (lp [] [mS 1,pS 15] (F84_2 R) zXs λJ1=>lf)))
theorem yWw (m0 m1:Option Nat) (w:World) (R:Rt) (h:F84_5 R m0 m1 [] w):Calls prog 84 #[.map m0,.map m1] w R:=
 plC F84_p func84 h
def xXe(R:Rt)(ds:Ds)(w:World):Prop:=
 zQe prog ds w λw1=>
 R (.returned (.bool true)) w1
def xX7 (R:Rt) (J1:(Int)->World->Prop) (l1:SV) (v2:Value) (dL:SV) (cE jU:Int) (ds:Ds) (w:World):Prop:=
 Br (decide (jU<cE)) (
 ∃a2,dL.a=some a2/\0<=jU/\jU<(dL.len:Int)/\
 ∃nT,w.cell? ((a2.add (jU.toNat * 2)).add 0)=some (.bool nT)/\
 ∃dW:SV,w.cell? ((a2.add (jU.toNat * 2)).add 1)=some (dW.v)/\
 alE (.cells #[.bool false,.slice none 0 0] 77) w λr8 w3=>
 stA prog 77 (⟨r8,0,none⟩:Addr) #[.bool nT,dW.v] w3 λw4=>
 ∃a5,l1.a=some a5/\0<=jU/\jU<(l1.len:Int)/\
 ∃oQ,w4.cell? ((a5.add (jU.toNat * 2)).add 0)=some (.bool oQ)/\
 ∃fe:SV,w4.cell? ((a5.add (jU.toNat * 2)).add 1)=some (fe.v)/\
 alE (.cells #[.bool false,.slice none 0 0] 77) w4 λr9 w6=>
 stA prog 77 (⟨r9,0,none⟩:Addr) #[.bool oQ,fe.v] w6 λw7=>
 ∃zy,w7.cell? ((⟨r8,0,none⟩:Addr).add 0)=some (.bool zy)/\
 ∃my:SV,w7.cell? ((⟨r8,0,none⟩:Addr).add 1)=some (my.v)/\
 ∃jz,w7.cell? ((⟨r9,0,none⟩:Addr).add 0)=some (.bool jz)/\
 ∃bW:SV,w7.cell? ((⟨r9,0,none⟩:Addr).add 1)=some (bW.v)/\
 fnE v2 λf29 first29 cap29=>
 zXD prog f29=true/\Calls prog f29 (first29.toList ++ (([.agg #[.bool zy,my.v],.agg #[.bool jz,bW.v]]:List Value) ++ cap29.toList)).toArray w7 λe w8=>
 ∃sl:Bool,e=.returned (.bool sl)/\
 Br (!sl) (
 zQe prog ds w8 λw9=>
 R (.returned (.bool false)) w9) (
 J1 (IntKind.i64.wrap (jU+1)) w8)) (
 xXe R ds w)
def xXb(R:Rt)(l1:SV)(v2:Value)(dL:SV)(cE jU:Int)(ds:Ds)(w:World):Prop:=
 zQ8 (λ(J1:(Int)->World->Prop) (s:Int) (w:World)=>xX7 R J1 l1 v2 dL cE s ds w) jU w
def xX1(R:Rt)(l0 l1:SV)(v2:Value)(ds:Ds)(w:World):Prop:=
 Br ((l0.len:Int) != (l1.len:Int)) (
 zQe prog ds w λau=>
 R (.returned (.bool false)) au) (
 xXb R l1 (v2) l0 (l0.len:Int) 0 ds w)
theorem F132_p:Pl prog f132 [lS 0,lS 1,vS 2] xX1:=λR=>
 pc 4 (zQz [lS 1,vS 2,lS 15,iS 16,iS 17] (xXb R) (bk 0 (zQz [] (xXe R) lf) (lp [iS 17] [lS 1,vS 2,lS 15,iS 16,iS 17] (xX7 R) zXs λJ1=>lf)))
theorem yZ1 (l0 l1:SV) (v2:Value) (w:World) (R:Rt) (h:xX1 R l0 l1 v2 [] w):Calls prog 132 #[l0.v,l1.v,v2] w R:=
 plC F132_p func132 h
def xZx(R:Rt)(bH:Bool)(ai:SV)(df:Bool)(aJ:SV)(ds:Ds)(w:World):Prop:=
 alE (.cells #[.bool bH,ai.v] 77) w λr2 w1=>
 alE (.cells #[.bool df,aJ.v] 77) w1 λr3 w2=>
 ∃b6,w2.cell? (⟨r2,0,none⟩:Addr)=some (.bool b6)/\
 ∃b8,w2.cell? (⟨r3,0,none⟩:Addr)=some (.bool b8)/\
 Br (b6 == b8) (
 ∃jP:SV,w2.cell? ((⟨r2,0,none⟩:Addr).add 1)=some (jP.v)/\
 ∃fy:SV,w2.cell? ((⟨r3,0,none⟩:Addr).add 1)=some (fy.v)/\
 Calls prog 137 #[jP.v,fy.v] w2 λe w3=>
 ∃hZ:Bool,e=.returned (.bool hZ)/\
 zQe prog ds w3 λw4=>
 R (.returned (.bool hZ)) w4) (
 zQe prog ds w2 λw5=>
 R (.returned (.bool false)) w5)
theorem F133_p:Pl prog f133 [aS 0 [.bool,.slice],aS 1 [.bool,.slice]] xZx:=λR=>
 lf
theorem yJI (bH:Bool) (ai:SV) (df:Bool) (aJ:SV) (w:World) (R:Rt) (h:xZx R bH ai df aJ [] w):Calls prog 133 #[.agg #[.bool bH,ai.v],.agg #[.bool df,aJ.v]] w R:=
 plC F133_p func133 h
def xZd(R:Rt)(ds:Ds)(w:World):Prop:=
 zQe prog ds w λw1=>
 R (.returned (.bool true)) w1
def xJd (R:Rt) (J1:(Unit)->World->Prop) (m1:Option Nat) (v2:Value) (zA:Option Addr) (ds:Ds) (w:World):Prop:=
 (∃w2,(Instr.next (.pointer zA) false 0).run prog w=.ok (.tuple #[.bool false]) w2/\
 xZd R ds w2)∨(∃k18 v18:Value,∃w3,(Instr.next (.pointer zA) false 0).run prog w=.ok (.tuple #[.bool true,k18,v18]) w3/\
 ∃k20 v20:Value,∃w4,(Instr.entry (.pointer zA)).run prog w3=.ok (.tuple #[k20,v20]) w4/\
 yQc .i64 k20 λqh=>
 yX5 v20 λq22=>
 dHd q22 λx22_0 q22_0=>
 dBl x22_0 λb22_0=>
 dHd q22_0 λx22_1 q22_1=>
 dSl x22_1 λtN=>
 dHd q22_1 λx22_2 q22_2=>
 dBl x22_2 λb22_2=>
 dHd q22_2 λx22_3 q22_3=>
 dSl x22_3 λtO=>
 yZE q22_3 (
 alE (.cells #[.bool false,.slice none 0 0,.bool false,.slice none 0 0] 133) w4 λr8 w5=>
 stA prog 133 (⟨r8,0,none⟩:Addr) #[.bool b22_0,tN.v,.bool b22_2,tO.v] w5 λw6=>
 ∃qP:Bool,∃gz:SV,∃qQ:Bool,∃gA:SV,∃zB:Bool,∃w7,(Instr.lookup 88 (.map m1) (.int .i64 qh) true).run prog w6=.ok (.tuple #[.agg #[.bool qP,gz.v,.bool qQ,gA.v],.bool zB]) w7/\
 alE (.cells #[.bool false,.slice none 0 0,.bool false,.slice none 0 0] 133) w7 λr9 w8=>
 stA prog 133 (⟨r9,0,none⟩:Addr) #[.bool qP,gz.v,.bool qQ,gA.v] w8 λw9=>
 Br (!zB) (
 zQe prog ds w9 λau=>
 R (.returned (.bool false)) au) (
 ∃oI,w9.cell? ((⟨r8,0,none⟩:Addr).add 0)=some (.bool oI)/\
 ∃eJ:SV,w9.cell? ((⟨r8,0,none⟩:Addr).add 1)=some (eJ.v)/\
 ∃zD,w9.cell? ((⟨r8,0,none⟩:Addr).add 2)=some (.bool zD)/\
 ∃mz:SV,w9.cell? ((⟨r8,0,none⟩:Addr).add 3)=some (mz.v)/\
 ∃gb,w9.cell? ((⟨r9,0,none⟩:Addr).add 0)=some (.bool gb)/\
 ∃bl:SV,w9.cell? ((⟨r9,0,none⟩:Addr).add 1)=some (bl.v)/\
 ∃zE,w9.cell? ((⟨r9,0,none⟩:Addr).add 2)=some (.bool zE)/\
 ∃mB:SV,w9.cell? ((⟨r9,0,none⟩:Addr).add 3)=some (mB.v)/\
 fnE v2 λf35 first35 cap35=>
 zXD prog f35=true/\Calls prog f35 (first35.toList ++ (([.agg #[.bool oI,eJ.v,.bool zD,mz.v],.agg #[.bool gb,bl.v,.bool zE,mB.v]]:List Value) ++ cap35.toList)).toArray w9 λe av=>
 ∃b35:Bool,e=.returned (.bool b35)/\
 Br (!b35) (
 zQe prog ds av λao=>
 R (.returned (.bool false)) ao) (
 J1 () av))))
def xZa(R:Rt)(m1:Option Nat)(v2:Value)(zA:Option Addr)(ds:Ds)(w:World):Prop:=
 zQ8 (λ(J1:(Unit)->World->Prop) (_:Unit) (w:World)=>xJd R J1 m1 v2 zA ds w) () w
def xJg(R:Rt)(m0 m1:Option Nat)(v2:Value)(ds:Ds)(w:World):Prop:=
 ∃fo:Int,∃aE,(Builtin.len_ #[88] 3 #[.map m0]).run prog w=.ok (.int .i64 fo) aE/\
 ∃j7:Int,∃aI,(Builtin.len_ #[88] 3 #[.map m1]).run prog aE=.ok (.int .i64 j7) aI/\
 Br (fo != j7) (
 zQe prog ds aI λaD=>
 R (.returned (.bool false)) aD) (
 ∃zA:Option Addr,∃aU,(Instr.range 88 (.map m0)).run prog aI=.ok (.pointer zA) aU/\
 xZa R m1 (v2) zA ds aU)
theorem F134_p:Pl prog f134 [mS 0,mS 1,vS 2] xJg:=λR=>
 pc 4 (zQz [mS 1,vS 2,pS 17] (xZa R) (bk 0 (zQz [] (xZd R) lf) (lp [] [mS 1,vS 2,pS 17] (xJd R) zXs λJ1=>lf)))
theorem yJg (m0 m1:Option Nat) (v2:Value) (w:World) (R:Rt) (h:xJg R m0 m1 v2 [] w):Calls prog 134 #[.map m0,.map m1,v2] w R:=
 plC F134_p func134 h
def xXu(R:Rt)(bH:Bool)(ai:SV)(ip:Bool)(bz:SV)(df:Bool)(aJ:SV)(vO:Bool)(gd:SV)(ds:Ds)(w:World):Prop:=
 alE (.cells #[.bool bH,ai.v,.bool ip,bz.v] 133) w λr2 w1=>
 alE (.cells #[.bool df,aJ.v,.bool vO,gd.v] 133) w1 λr3 w2=>
 ∃b6_0,w2.cell? ((⟨r2,0,none⟩:Addr).add 0)=some (.bool b6_0)/\
 ∃iU:SV,w2.cell? ((⟨r2,0,none⟩:Addr).add 1)=some (iU.v)/\
 ∃b8_0,w2.cell? ((⟨r3,0,none⟩:Addr).add 0)=some (.bool b8_0)/\
 ∃rH:SV,w2.cell? ((⟨r3,0,none⟩:Addr).add 1)=some (rH.v)/\
 Calls prog 133 #[.agg #[.bool b6_0,iU.v],.agg #[.bool b8_0,rH.v]] w2 λe w3=>
 ∃b9:Bool,e=.returned (.bool b9)/\
 Br b9 (
 ∃zF,w3.cell? (((⟨r2,0,none⟩:Addr).add 2).add 0)=some (.bool zF)/\
 ∃fg:SV,w3.cell? (((⟨r2,0,none⟩:Addr).add 2).add 1)=some (fg.v)/\
 ∃nW,w3.cell? (((⟨r3,0,none⟩:Addr).add 2).add 0)=some (.bool nW)/\
 ∃aN:SV,w3.cell? (((⟨r3,0,none⟩:Addr).add 2).add 1)=some (aN.v)/\
 Calls prog 133 #[.agg #[.bool zF,fg.v],.agg #[.bool nW,aN.v]] w3 λe w4=>
 ∃hZ:Bool,e=.returned (.bool hZ)/\
 zQe prog ds w4 λw5=>
 R (.returned (.bool hZ)) w5) (
 zQe prog ds w3 λw6=>
 R (.returned (.bool false)) w6)
theorem F135_p:Pl prog f135 [aS 0 [.bool,.slice,.bool,.slice],aS 1 [.bool,.slice,.bool,.slice]] xXu:=λR=>
 lf
theorem yZ2 (bH:Bool) (ai:SV) (ip:Bool) (bz:SV) (df:Bool) (aJ:SV) (vO:Bool) (gd:SV) (w:World) (R:Rt) (h:xXu R bH ai ip bz df aJ vO gd [] w):Calls prog 135 #[.agg #[.bool bH,ai.v,.bool ip,bz.v],.agg #[.bool df,aJ.v,.bool vO,gd.v]] w R:=
 plC F135_p func135 h
end Go.Proofs.YtcihcbfcgjepfaaGreatDoor
/- Shallow texts of functions, printed by program, each checked by the kernel against the loaded code. No condition. -/
namespace Go.Proofs.YtcihcbfcgjepfaaGreatDoor
open Go.Sh Tryz
def F82_1(R:Rt)(az aA:Int)(vP:Option Nat)(bz:SV)(cF ib:Int)(vQ:Option Nat)(gd:SV)(ds:Ds)(w:World):Prop:=
 alE (.cells #[.int .i64 az,.int .i64 aA,.map vP,bz.v] 90) w λr2 w1=>
 alE (.cells #[.int .i64 cF,.int .i64 ib,.map vQ,gd.v] 90) w1 λr3 w2=>
 ∃n6,w2.cell? (⟨r2,0,none⟩:Addr)=some (.int .i64 n6)/\
 ∃n8,w2.cell? (⟨r3,0,none⟩:Addr)=some (.int .i64 n8)/\
 Br (n6 == n8) (
 ∃fo,w2.cell? ((⟨r2,0,none⟩:Addr).add 1)=some (.int .i64 fo)/\
 ∃j7,w2.cell? ((⟨r3,0,none⟩:Addr).add 1)=some (.int .i64 j7)/\
 Br (fo == j7) (
 ∃dN:SV,w2.cell? ((⟨r2,0,none⟩:Addr).add 3)=some (dN.v)/\
 ∃cI:SV,w2.cell? ((⟨r3,0,none⟩:Addr).add 3)=some (cI.v)/\
 Calls prog 132 #[dN.v,cI.v,.func (.func 133) #[] #[]] w2 λe w3=>
 ∃kK:Bool,e=.returned (.bool kK)/\
 Br kK (
 ∃m26,w3.cell? ((⟨r2,0,none⟩:Addr).add 2)=some (.map m26)/\
 ∃m28,w3.cell? ((⟨r3,0,none⟩:Addr).add 2)=some (.map m28)/\
 Calls prog 134 #[.map m26,.map m28,.func (.func 135) #[] #[]] w3 λe w4=>
 ∃sl:Bool,e=.returned (.bool sl)/\
 zQe prog ds w4 λw5=>
 R (.returned (.bool sl)) w5) (
 zQe prog ds w3 λw6=>
 R (.returned (.bool false)) w6)) (
 zQe prog ds w2 λw7=>
 R (.returned (.bool false)) w7)) (
 zQe prog ds w2 λw8=>
 R (.returned (.bool false)) w8)
theorem F82_p:Pl prog f82 [aS 0 [.int .i64,.int .i64,.map,.slice],aS 1 [.int .i64,.int .i64,.map,.slice]] F82_1:=λR=>
 lf
theorem yW2 (az aA:Int) (vP:Option Nat) (bz:SV) (cF ib:Int) (vQ:Option Nat) (gd:SV) (w:World) (R:Rt) (h:F82_1 R az aA vP bz cF ib vQ gd [] w):Calls prog 82 #[.agg #[.int .i64 az,.int .i64 aA,.map vP,bz.v],.agg #[.int .i64 cF,.int .i64 ib,.map vQ,gd.v]] w R:=
 plC F82_p func82 h
end Go.Proofs.YtcihcbfcgjepfaaGreatDoor
/- Shallow texts of functions, printed by program, each checked by the kernel against the loaded code. No condition. -/
namespace Go.Proofs.YtcihcbfcgjepfaaGreatDoor
open Go.Sh Tryz
def F32_1(R:Rt)(p5 p6:Option Addr)(ds:Ds)(w:World):Prop:=
 dwE w λw1=>
 zQi p5 λa2=>
 ∃oY,w1.cell? ((a2.add 2).add 0)=some (.int .i64 oY)/\
 ∃mD:SV,w1.cell? ((a2.add 2).add 1)=some (mD.v)/\
 ∃mE:SV,w1.cell? ((a2.add 2).add 2)=some (mE.v)/\
 zQi p6 λa3=>
 ∃zG,w1.cell? ((a3.add 2).add 0)=some (.int .i64 zG)/\
 ∃ff:SV,w1.cell? ((a3.add 2).add 1)=some (ff.v)/\
 ∃mF:SV,w1.cell? ((a3.add 2).add 2)=some (mF.v)/\
 Calls prog 83 #[.agg #[.int .i64 oY,mD.v,mE.v],.agg #[.int .i64 zG,ff.v,mF.v]] w1 λe w4=>
 ∃qR:SV,∃fc:Int,e=.returned (.tuple #[qR.v,.int .i64 fc])/\
 dwE w4 λw5=>
 Br (fc == 0) (
 Br ((qR.len:Int) == 0) (
 zQi p5 λa6=>
 ∃m69,w5.cell? (a6.add 21)=some (.map m69)/\
 zQi p6 λa7=>
 ∃m73,w5.cell? (a7.add 21)=some (.map m73)/\
 Calls prog 84 #[.map m69,.map m73] w5 λe w8=>
 ∃ki:Bool,e=.returned (.bool ki)/\
 zQe prog ds w8 λw9=>
 R (.returned (.bool ki)) w9) (
 zQe prog ds w5 λau=>
 R (.returned (.bool false)) au)) (
 zQe prog ds w5 λav=>
 R (.returned (.bool false)) av)
def F32_2 (R:Rt) (J1:(Int)->World->Prop) (p5 p6:Option Addr) (fv:Int) (ds:Ds) (w:World):Prop:=
 Br (decide (fv<4)) (
 dwE w λao=>
 zQi p5 λdB=>
 0<=fv/\fv<(4:Int)/\
 ∃oJ,ao.cell? (((dB.add 5).add (fv.toNat * 4)).add 0)=some (.int .i64 oJ)/\
 ∃jj,ao.cell? (((dB.add 5).add (fv.toNat * 4)).add 1)=some (.int .i64 jj)/\
 ∃zH,ao.cell? (((dB.add 5).add (fv.toNat * 4)).add 2)=some (.map zH)/\
 ∃mG:SV,ao.cell? (((dB.add 5).add (fv.toNat * 4)).add 3)=some (mG.v)/\
 zQi p6 λfi=>
 0<=fv/\fv<(4:Int)/\
 ∃ft,ao.cell? (((fi.add 5).add (fv.toNat * 4)).add 0)=some (.int .i64 ft)/\
 ∃ij,ao.cell? (((fi.add 5).add (fv.toNat * 4)).add 1)=some (.int .i64 ij)/\
 ∃ik,ao.cell? (((fi.add 5).add (fv.toNat * 4)).add 2)=some (.map ik)/\
 ∃cT:SV,ao.cell? (((fi.add 5).add (fv.toNat * 4)).add 3)=some (cT.v)/\
 Calls prog 82 #[.agg #[.int .i64 oJ,.int .i64 jj,.map zH,mG.v],.agg #[.int .i64 ft,.int .i64 ij,.map ik,cT.v]] ao λe aD=>
 ∃b43:Bool,e=.returned (.bool b43)/\
 Br (!b43) (
 zQe prog ds aD λaU=>
 R (.returned (.bool false)) aU) (
 J1 (IntKind.i64.wrap (fv+1)) aD)) (
 F32_1 R p5 p6 ds w)
def F32_3(R:Rt)(p5 p6:Option Addr)(fv:Int)(ds:Ds)(w:World):Prop:=
 zQ8 (λ(J1:(Int)->World->Prop) (s:Int) (w:World)=>F32_2 R J1 p5 p6 s ds w) fv w
def F32_5(R:Rt)(p0 p1:Option Addr)(ds:Ds)(w:World):Prop:=
 ∃wW:Bool,∃br,(eqS .eql 32 (.tmp 10) (.const (.pointer none)) (.pointer p0) (.pointer none)).run prog w=.ok (.bool wW) br/\
 Br wW (
 ∃sB:Bool,∃bD,(eqS .eql 32 (.tmp 21) (.tmp 22) (.pointer p0) (.pointer p1)).run prog br=.ok (.bool sB) bD/\
 zQe prog ds bD λbE=>
 R (.returned (.bool sB)) bE) (
 ∃ld:Bool,∃cX,(eqS .eql 32 (.tmp 13) (.const (.pointer none)) (.pointer p1) (.pointer none)).run prog br=.ok (.bool ld) cX/\
 Br ld (
 ∃sB:Bool,∃cO,(eqS .eql 32 (.tmp 21) (.tmp 22) (.pointer p0) (.pointer p1)).run prog cX=.ok (.bool sB) cO/\
 zQe prog ds cO λcS=>
 R (.returned (.bool sB)) cS) (
 ∃xc:Bool,∃cJ,(eqS .eql 32 (.tmp 17) (.tmp 18) (.pointer p0) (.pointer p1)).run prog cX=.ok (.bool xc) cJ/\
 Br xc (
 ∃sB:Bool,∃cP,(eqS .eql 32 (.tmp 21) (.tmp 22) (.pointer p0) (.pointer p1)).run prog cJ=.ok (.bool sB) cP/\
 zQe prog ds cP λdQ=>
 R (.returned (.bool sB)) dQ) (
 Calls prog 33 #[.pointer p0] cJ λe bV=>
 ∃p25:Option Addr,e=.returned (.pointer p25)/\
 Calls prog 33 #[.pointer p1] bV λe dR=>
 ∃p27:Option Addr,e=.returned (.pointer p27)/\
 F32_3 R p25 p27 0 ds dR)))
theorem F32_p:Pl prog f32 [pS 0,pS 1] F32_5:=λR=>
 pc 5 (zQz [pS 5,pS 6,iS 28] (F32_3 R) (bk 0 (zQz [pS 5,pS 6] (F32_1 R) lf) (lp [iS 28] [pS 5,pS 6,iS 28] (F32_2 R) zXs λJ1=>lf)))
theorem yV7 (p0 p1:Option Addr) (w:World) (R:Rt) (h:F32_5 R p0 p1 [] w):Calls prog 32 #[.pointer p0,.pointer p1] w R:=
 plC F32_p func32 h
end Go.Proofs.YtcihcbfcgjepfaaGreatDoor
/- Shallow texts of functions, printed by program, each checked by the kernel against the loaded code. No condition. -/
namespace Go.Proofs.YtcihcbfcgjepfaaGreatDoor
open Go.Sh Tryz
def F9_1(R:Rt)(l1:SV)(n5:Int)(ds:Ds)(w:World):Prop:=
 Br (decide (n5 > 2000000)) (
 zQe prog ds w λw1=>
 R (.returned (.bool true)) w1) (
 zQe prog ds w λw2=>
 R (.returned (.bool (decide ((l1.len:Int) > 200)))) w2)
def F9_2 (R:Rt) (J1:(Int × Int)->World->Prop) (l1:SV) (n5 n6:Int) (ds:Ds) (w:World):Prop:=
 Br (decide (n6<(l1.len:Int))) (
 dwE w λw3=>
 ∃a4,l1.a=some a4/\0<=n6/\n6<(l1.len:Int)/\
 ∃s20,w3.cell? ((a4.add (n6.toNat * 6)).add 4)=some (.string s20)/\
 ∃a5,l1.a=some a5/\0<=n6/\n6<(l1.len:Int)/\
 ∃s26,w3.cell? ((a5.add (n6.toNat * 6)).add 5)=some (.string s26)/\
 J1 ((IntKind.i64.wrap (n5+(IntKind.i64.wrap ((s20.size:Int)+(s26.size:Int))))),(IntKind.i64.wrap (n6+1))) w3) (
 F9_1 R l1 n5 ds w)
def F9_3(R:Rt)(l1:SV)(n5 n6:Int)(ds:Ds)(w:World):Prop:=
 zQ8 (λ(J1:(Int × Int)->World->Prop) (s:Int × Int) (w:World)=>F9_2 R J1 l1 s.1 s.2 ds w) (n5,n6) w
def F9_5(R:Rt)(az:Int)(ai ax l1:SV)(ds:Ds)(w:World):Prop:=
 alE (.cells #[.int .i64 az,ai.v,ax.v] 25) w λr2 w6=>
 ∃fH,w6.cell? ((⟨r2,0,none⟩:Addr).add 0)=some (.int .i64 fH)/\
 ∃dX:SV,w6.cell? ((⟨r2,0,none⟩:Addr).add 1)=some (dX.v)/\
 ∃dY:SV,w6.cell? ((⟨r2,0,none⟩:Addr).add 2)=some (dY.v)/\
 Calls prog 36 #[.agg #[.int .i64 fH,dX.v,dY.v]] w6 λe w7=>
 ∃n8:Int,e=.returned (.int .i64 n8)/\
 F9_3 R l1 n8 0 ds w7
theorem F9_p:Pl prog f9 [aS 0 [.int .i64,.slice,.slice],lS 1] F9_5:=λR=>
 pc 3 (zQz [lS 1,iS 5,iS 6] (F9_3 R) (bk 0 (zQz [lS 1,iS 5] (F9_1 R) lf) (lp [iS 5,iS 6] [lS 1,iS 5,iS 6] (F9_2 R) zXs λJ1=>lf)))
theorem xQi (az:Int) (ai ax l1:SV) (w:World) (R:Rt) (h:F9_5 R az ai ax l1 [] w):Calls prog 9 #[.agg #[.int .i64 az,ai.v,ax.v],l1.v] w R:=
 plC F9_p func9 h
def F21_1(R:Rt)(az aA aK vR:Int)(vT vU:ByteArray)(ds:Ds)(w:World):Prop:=
 alE (.cells #[.int .i64 az,.int .i64 aA,.int .i64 aK,.int .i64 vR,.string vT,.string vU] 51) w λr1 w1=>
 alE (.cells #[.int .i64 0,.int .i64 0,.string (⟨#[]⟩:ByteArray)] 28) w1 λr2 w2=>
 ∃n4,w2.cell? ((⟨r1,0,none⟩:Addr).add 3)=some (.int .i64 n4)/\
 ∃n6,w2.cell? ((⟨r1,0,none⟩:Addr).add 2)=some (.int .i64 n6)/\
 ∃s8,w2.cell? ((⟨r1,0,none⟩:Addr).add 5)=some (.string s8)/\
 stA prog 28 (⟨r2,0,none⟩:Addr) #[.int .i64 n4,.int .i64 n6,.string s8] w2 λw3=>
 zQe prog ds w3 λw4=>
 ∃aa,w4.cell? ((⟨r2,0,none⟩:Addr).add 0)=some (.int .i64 aa)/\
 ∃ac,w4.cell? ((⟨r2,0,none⟩:Addr).add 1)=some (.int .i64 ac)/\
 ∃ae,w4.cell? ((⟨r2,0,none⟩:Addr).add 2)=some (.string ae)/\
 R (.returned (.agg #[.int .i64 aa,.int .i64 ac,.string ae])) w4
theorem F21_p:Pl prog f21 [aS 0 [.int .i64,.int .i64,.int .i64,.int .i64,.str,.str]] F21_1:=λR=>
 lf
theorem yKa (az aA aK vR:Int) (vT vU:ByteArray) (w:World) (R:Rt) (h:F21_1 R az aA aK vR vT vU [] w):Calls prog 21 #[.agg #[.int .i64 az,.int .i64 aA,.int .i64 aK,.int .i64 vR,.string vT,.string vU]] w R:=
 plC F21_p func21 h
end Go.Proofs.YtcihcbfcgjepfaaGreatDoor
/- Shallow texts of functions, printed by program, each checked by the kernel against the loaded code. No condition. -/
namespace Go.Proofs.YtcihcbfcgjepfaaGreatDoor
open Go.Sh Tryz
def F10_1(R:Rt)(p1:Option Addr)(ds:Ds)(w:World):Prop:=
 Calls prog 17 #[.pointer p1,.int .i64 0,.bool false] w λe w1=>
 ∃tP:SV,∃zI:Int,e=.returned (.tuple #[tP.v,.int .i64 zI])/\
 Calls prog 17 #[.pointer p1,.int .i64 1,.bool false] w1 λe w2=>
 ∃tQ:SV,∃qH:Int,e=.returned (.tuple #[tQ.v,.int .i64 qH])/\
 Calls prog 17 #[.pointer p1,.int .i64 1,.bool true] w2 λe w3=>
 ∃tR:SV,∃zJ:Int,e=.returned (.tuple #[tR.v,.int .i64 zJ])/\
 Calls prog 18 #[.pointer p1,.int .i64 1,.string (⟨#[65]⟩:ByteArray)] w3 λe w4=>
 ∃qS:Int,∃qT:Int,∃qU:ByteArray,∃nl:Int,e=.returned (.tuple #[.agg #[.int .i64 qS,.int .i64 qT,.string qU],.int .i64 nl])/\
 alE (.cells #[.int .i64 0,.int .i64 0,.string (⟨#[]⟩:ByteArray)] 28) w4 λfE w5=>
 stA prog 28 (⟨fE,0,none⟩:Addr) #[.int .i64 qS,.int .i64 qT,.string qU] w5 λw6=>
 Br (zI == 0) (
 Br (qH == 13) (
 Br (zJ == 0) (
 Br (nl == 0) (
 ∃n88,w6.cell? ((⟨fE,0,none⟩:Addr).add 1)=some (.int .i64 n88)/\
 zQe prog ds w6 λw7=>
 R (.returned (.bool (n88 == 2))) w7) (
 zQe prog ds w6 λw8=>
 R (.returned (.bool false)) w8)) (
 zQe prog ds w6 λw9=>
 R (.returned (.bool false)) w9)) (
 zQe prog ds w6 λau=>
 R (.returned (.bool false)) au)) (
 zQe prog ds w6 λav=>
 R (.returned (.bool false)) av)
def F10_2 (R:Rt) (J1:(Int)->World->Prop) (p1:Option Addr) (n3:Int) (ds:Ds) (w:World):Prop:=
 Br (decide (n3<2)) (
 Calls prog 14 #[.pointer p1,.int .i64 n3,.int .i64 2] w λe ao=>
 ∃u0:Int,e=.returned (.int .i64 u0)/\
 Br (u0 != 0) (
 zQe prog ds ao λaE=>
 R (.returned (.bool false)) aE) (
 Calls prog 15 #[.pointer p1,.int .i64 n3,.int .i64 1] ao λe aI=>
 ∃gl:Int,e=.returned (.int .i64 gl)/\
 Br (gl != 0) (
 zQe prog ds aI λaD=>
 R (.returned (.bool false)) aD) (
 Calls prog 37 #[.int .i64 (IntKind.i64.wrap (n3+1))] aI λe aU=>
 ∃zK:Int,∃zM:Int,∃zN:ByteArray,e=.returned (.agg #[.int .i64 zK,.int .i64 zM,.string zN])/\
 Calls prog 16 #[.pointer p1,.int .i64 n3,.string (⟨#[65]⟩:ByteArray),.agg #[.int .i64 zK,.int .i64 zM,.string zN]] aU λe br=>
 ∃sk:Int,e=.returned (.int .i64 sk)/\
 Br (sk != 0) (
 zQe prog ds br λbD=>
 R (.returned (.bool false)) bD) (
 J1 (IntKind.i64.wrap (n3+1)) br)))) (
 F10_1 R p1 ds w)
def xJ1(R:Rt)(p1:Option Addr)(n3:Int)(ds:Ds)(w:World):Prop:=
 zQ8 (λ(J1:(Int)->World->Prop) (s:Int) (w:World)=>F10_2 R J1 p1 s ds w) n3 w
def F10_5(R:Rt)(ds:Ds)(w:World):Prop:=
 alE (.cells #[.string (⟨#[65]⟩:ByteArray),.int .i64 2,.int .i64 5,.bool false] 38) w λrq bE=>
 Calls prog 37 #[.int .i64 0] bE λe cX=>
 ∃fV:Int,∃jy:Int,∃nK:ByteArray,e=.returned (.agg #[.int .i64 fV,.int .i64 jy,.string nK])/\
 alE (.cells #[.int .i64 fV,.int .i64 jy,.string nK] 28) cX λr16 cO=>
 alE (.cells #[.bool false,.slice (some ⟨r16,0,none⟩) 1 1] 77) cO λr18 cS=>
 Calls prog 11 #[.agg #[.int .i64 0,.slice (some ⟨rq,0,none⟩) 1 1,.slice (some ⟨r18,0,none⟩) 1 1]] cS λe cJ=>
 ∃j8:Option Addr,∃dE:Int,e=.returned (.tuple #[.pointer j8,.int .i64 dE])/\
 Br (dE != 0) (
 zQe prog ds cJ λcP=>
 R (.returned (.bool false)) cP) (
 ∃b27:Bool,∃dQ,(eqS .eql 32 (.tmp 26) (.const (.pointer none)) (.pointer j8) (.pointer none)).run prog cJ=.ok (.bool b27) dQ/\
 Br b27 (
 zQe prog ds dQ λbV=>
 R (.returned (.bool false)) bV) (
 xJ1 R j8 0 ds dQ))
theorem F10_p:Pl prog f10 [] F10_5:=λR=>
 pc 5 (zQz [pS 1,iS 3] (xJ1 R) (bk 0 (zQz [pS 1] (F10_1 R) lf) (lp [iS 3] [pS 1,iS 3] (F10_2 R) zXs λJ1=>lf)))
theorem yYa  (w:World) (R:Rt) (h:F10_5 R [] w):Calls prog 10 #[] w R:=
 plC F10_p func10 h
end Go.Proofs.YtcihcbfcgjepfaaGreatDoor
/- Shallow texts of functions, printed by program, each checked by the kernel against the loaded code. No condition. -/
namespace Go.Proofs.YtcihcbfcgjepfaaGreatDoor
open Go.Sh Tryz
def F25_1(R:Rt)(az:Int)(ai ax:SV)(ds:Ds)(w:World):Prop:=
 alE (.cells #[.int .i64 az,ai.v,ax.v] 25) w λr1 w1=>
 ∃eQ,w1.cell? ((⟨r1,0,none⟩:Addr).add 0)=some (.int .i64 eQ)/\
 ∃bh:SV,w1.cell? ((⟨r1,0,none⟩:Addr).add 1)=some (bh.v)/\
 ∃bi:SV,w1.cell? ((⟨r1,0,none⟩:Addr).add 2)=some (bi.v)/\
 Calls prog 11 #[.agg #[.int .i64 eQ,bh.v,bi.v]] w1 λe w2=>
 ∃iq:Option Addr,∃fL:Int,e=.returned (.tuple #[.pointer iq,.int .i64 fL])/\
 ∃fV,w2.cell? ((⟨r1,0,none⟩:Addr).add 0)=some (.int .i64 fV)/\
 ∃eW:SV,w2.cell? ((⟨r1,0,none⟩:Addr).add 1)=some (eW.v)/\
 ∃eY:SV,w2.cell? ((⟨r1,0,none⟩:Addr).add 2)=some (eY.v)/\
 Calls prog 61 #[.agg #[.int .i64 fV,eW.v,eY.v]] w2 λe w3=>
 ∃fX:Option Addr,∃jE:Int,e=.returned (.tuple #[.pointer fX,.int .i64 jE])/\
 Br (fL == jE) (
 ∃b26:Bool,∃w4,(eqS .eql 32 (.tmp 25) (.const (.pointer none)) (.pointer iq) (.pointer none)).run prog w3=.ok (.bool b26) w4/\
 ∃b28:Bool,∃w5,(eqS .eql 59 (.tmp 27) (.const (.pointer none)) (.pointer fX) (.pointer none)).run prog w4=.ok (.bool b28) w5/\
 zQe prog ds w5 λw6=>
 R (.returned (.tuple #[.pointer iq,.pointer fX,.bool (b26 == b28)])) w6) (
 zQe prog ds w3 λw7=>
 R (.returned (.tuple #[.pointer iq,.pointer fX,.bool false])) w7)
theorem F25_p:Pl prog f25 [aS 0 [.int .i64,.slice,.slice]] F25_1:=λR=>
 lf
theorem yVV (az:Int) (ai ax:SV) (w:World) (R:Rt) (h:F25_1 R az ai ax [] w):Calls prog 25 #[.agg #[.int .i64 az,ai.v,ax.v]] w R:=
 plC F25_p func25 h
def F26_1(R:Rt)(p0 p1:Option Addr)(bF bG vV vW:Int)(vX vY:ByteArray)(ds:Ds)(w:World):Prop:=
 alE (.cells #[.int .i64 bF,.int .i64 bG,.int .i64 vV,.int .i64 vW,.string vX,.string vY] 51) w λr5 w1=>
 ∃kX,w1.cell? (⟨r5,0,none⟩:Addr)=some (.int .i64 kX)/\
 IntKind.i64=IntKind.i64/\(14:Int) ≠ 0/\
 IntKind.i64=IntKind.i64/\(14:Int) ≠ 0/\
 Br (((IntKind.i64.wrap ((kX.tmod 14)+14)).tmod 14) == 0) (
 dwE w1 λw2=>
 ∃S1:World->Prop,S1 w2/\
 ∃n54,(∀w',S1 w'->w'.cell? ((⟨r5,0,none⟩:Addr).add 1)=some (.int .i64 n54))/\
 ∃n56,(∀w',S1 w'->w'.cell? ((⟨r5,0,none⟩:Addr).add 2)=some (.int .i64 n56))/\
 ∃n60,(∀w',S1 w'->w'.cell? ((⟨r5,0,none⟩:Addr).add 1)=some (.int .i64 n60))/\
 ∃n62,(∀w',S1 w'->w'.cell? ((⟨r5,0,none⟩:Addr).add 2)=some (.int .i64 n62))/\
 Calls prog 14 #[.pointer p0,.int .i64 n54,.int .i64 n56] w2 λe w3=>
 ∃n57:Int,e=.returned (.int .i64 n57)/\
 S1 w3/\
 Calls prog 62 #[.pointer p1,.int .i64 n60,.int .i64 n62] w3 λe w4=>
 ∃n63:Int,e=.returned (.int .i64 n63)/\
 zQe prog ds w4 λw5=>
 R (.returned (.bool (n57 == n63))) w5) (
 Br (((IntKind.i64.wrap ((kX.tmod 14)+14)).tmod 14) == 1) (
 dwE w1 λw6=>
 ∃S2:World->Prop,S2 w6/\
 ∃rC,(∀w',S2 w'->w'.cell? ((⟨r5,0,none⟩:Addr).add 1)=some (.int .i64 rC))/\
 ∃n71,(∀w',S2 w'->w'.cell? ((⟨r5,0,none⟩:Addr).add 2)=some (.int .i64 n71))/\
 ∃vH,(∀w',S2 w'->w'.cell? ((⟨r5,0,none⟩:Addr).add 1)=some (.int .i64 vH))/\
 ∃n77,(∀w',S2 w'->w'.cell? ((⟨r5,0,none⟩:Addr).add 2)=some (.int .i64 n77))/\
 Calls prog 15 #[.pointer p0,.int .i64 rC,.int .i64 n71] w6 λe w7=>
 ∃n72:Int,e=.returned (.int .i64 n72)/\
 S2 w7/\
 Calls prog 63 #[.pointer p1,.int .i64 vH,.int .i64 n77] w7 λe w8=>
 ∃n78:Int,e=.returned (.int .i64 n78)/\
 zQe prog ds w8 λw9=>
 R (.returned (.bool (n72 == n78))) w9) (
 Br (((IntKind.i64.wrap ((kX.tmod 14)+14)).tmod 14) == 2) (
 dwE w1 λau=>
 ∃S3:World->Prop,S3 au/\
 ∃n84,(∀w',S3 w'->w'.cell? ((⟨r5,0,none⟩:Addr).add 1)=some (.int .i64 n84))/\
 ∃s86,(∀w',S3 w'->w'.cell? ((⟨r5,0,none⟩:Addr).add 4)=some (.string s86))/\
 ∃zO,(∀w',S3 w'->w'.cell? ((⟨r5,0,none⟩:Addr).add 0)=some (.int .i64 zO))/\
 ∃zP,(∀w',S3 w'->w'.cell? ((⟨r5,0,none⟩:Addr).add 1)=some (.int .i64 zP))/\
 ∃zQ,(∀w',S3 w'->w'.cell? ((⟨r5,0,none⟩:Addr).add 2)=some (.int .i64 zQ))/\
 ∃zR,(∀w',S3 w'->w'.cell? ((⟨r5,0,none⟩:Addr).add 3)=some (.int .i64 zR))/\
 ∃zT,(∀w',S3 w'->w'.cell? ((⟨r5,0,none⟩:Addr).add 4)=some (.string zT))/\
 ∃zU,(∀w',S3 w'->w'.cell? ((⟨r5,0,none⟩:Addr).add 5)=some (.string zU))/\
 ∃n92,(∀w',S3 w'->w'.cell? ((⟨r5,0,none⟩:Addr).add 1)=some (.int .i64 n92))/\
 ∃s94,(∀w',S3 w'->w'.cell? ((⟨r5,0,none⟩:Addr).add 4)=some (.string s94))/\
 ∃zV,(∀w',S3 w'->w'.cell? ((⟨r5,0,none⟩:Addr).add 0)=some (.int .i64 zV))/\
 ∃zW,(∀w',S3 w'->w'.cell? ((⟨r5,0,none⟩:Addr).add 1)=some (.int .i64 zW))/\
 ∃zX,(∀w',S3 w'->w'.cell? ((⟨r5,0,none⟩:Addr).add 2)=some (.int .i64 zX))/\
 ∃zY,(∀w',S3 w'->w'.cell? ((⟨r5,0,none⟩:Addr).add 3)=some (.int .i64 zY))/\
 ∃zZ,(∀w',S3 w'->w'.cell? ((⟨r5,0,none⟩:Addr).add 4)=some (.string zZ))/\
 ∃s95_5,(∀w',S3 w'->w'.cell? ((⟨r5,0,none⟩:Addr).add 5)=some (.string s95_5))/\
 Calls prog 21 #[.agg #[.int .i64 zO,.int .i64 zP,.int .i64 zQ,.int .i64 zR,.string zT,.string zU]] au λe av=>
 ∃oZ:Int,∃n88_1:Int,∃s88_2:ByteArray,e=.returned (.agg #[.int .i64 oZ,.int .i64 n88_1,.string s88_2])/\
 S3 av/\
 Calls prog 16 #[.pointer p0,.int .i64 n84,.string s86,.agg #[.int .i64 oZ,.int .i64 n88_1,.string s88_2]] av λe ao=>
 ∃n89:Int,e=.returned (.int .i64 n89)/\
 S3 ao/\
 Calls prog 21 #[.agg #[.int .i64 zV,.int .i64 zW,.int .i64 zX,.int .i64 zY,.string zZ,.string s95_5]] ao λe aE=>
 ∃n96_0:Int,∃n96_1:Int,∃s96_2:ByteArray,e=.returned (.agg #[.int .i64 n96_0,.int .i64 n96_1,.string s96_2])/\
 S3 aE/\
 Calls prog 64 #[.pointer p1,.int .i64 n92,.string s94,.agg #[.int .i64 n96_0,.int .i64 n96_1,.string s96_2]] aE λe aI=>
 ∃n97:Int,e=.returned (.int .i64 n97)/\
 zQe prog ds aI λaD=>
 R (.returned (.bool (n89 == n97))) aD) (
 Br (((IntKind.i64.wrap ((kX.tmod 14)+14)).tmod 14) == 3) (
 dwE w1 λaU=>
 ∃S4:World->Prop,S4 aU/\
 ∃n103,(∀w',S4 w'->w'.cell? ((⟨r5,0,none⟩:Addr).add 1)=some (.int .i64 n103))/\
 ∃n105,(∀w',S4 w'->w'.cell? ((⟨r5,0,none⟩:Addr).add 2)=some (.int .i64 n105))/\
 ∃pW,(∀w',S4 w'->w'.cell? ((⟨r5,0,none⟩:Addr).add 1)=some (.int .i64 pW))/\
 ∃fk,(∀w',S4 w'->w'.cell? ((⟨r5,0,none⟩:Addr).add 2)=some (.int .i64 fk))/\
 Calls prog 20 #[.pointer p0,.int .i64 n103,.bool (decide (n105 > 0))] aU λe br=>
 ∃n107:Int,e=.returned (.int .i64 n107)/\
 S4 br/\
 Calls prog 65 #[.pointer p1,.int .i64 pW,.bool (decide (fk > 0))] br λe bD=>
 ∃n114:Int,e=.returned (.int .i64 n114)/\
 zQe prog ds bD λbE=>
 R (.returned (.bool (n107 == n114))) bE) (
 Br (((IntKind.i64.wrap ((kX.tmod 14)+14)).tmod 14) == 4) (
 ∃n121,w1.cell? ((⟨r5,0,none⟩:Addr).add 1)=some (.int .i64 n121)/\
 Calls prog 28 #[.pointer p0,.int .i64 n121] w1 λe cX=>
 ∃tS:Int,∃tT:Int,e=.returned (.tuple #[.int .i64 tS,.int .i64 tT])/\
 ∃n128,cX.cell? ((⟨r5,0,none⟩:Addr).add 1)=some (.int .i64 n128)/\
 Calls prog 66 #[.pointer p1,.int .i64 n128] cX λe cO=>
 ∃tU:Int,∃tV:Int,e=.returned (.tuple #[.int .i64 tU,.int .i64 tV])/\
 Br (tS == tU) (
 zQe prog ds cO λcS=>
 R (.returned (.bool (tT == tV))) cS) (
 zQe prog ds cO λcJ=>
 R (.returned (.bool false)) cJ)) (
 Br (((IntKind.i64.wrap ((kX.tmod 14)+14)).tmod 14) == 5) (
 ∃n145,w1.cell? ((⟨r5,0,none⟩:Addr).add 1)=some (.int .i64 n145)/\
 ∃n147,w1.cell? ((⟨r5,0,none⟩:Addr).add 2)=some (.int .i64 n147)/\
 ∃s149,w1.cell? ((⟨r5,0,none⟩:Addr).add 4)=some (.string s149)/\
 Calls prog 29 #[.pointer p0,.int .i64 n145,.int .i64 n147,.string s149] w1 λe cP=>
 ∃o3:Int,∃o4:Int,∃o5:ByteArray,∃tW:Int,e=.returned (.tuple #[.agg #[.int .i64 o3,.int .i64 o4,.string o5],.int .i64 tW])/\
 alE (.cells #[.int .i64 0,.int .i64 0,.string (⟨#[]⟩:ByteArray)] 28) cP λmZ dQ=>
 stA prog 28 (⟨mZ,0,none⟩:Addr) #[.int .i64 o3,.int .i64 o4,.string o5] dQ λbV=>
 ∃n156,bV.cell? ((⟨r5,0,none⟩:Addr).add 1)=some (.int .i64 n156)/\
 ∃n158,bV.cell? ((⟨r5,0,none⟩:Addr).add 2)=some (.int .i64 n158)/\
 ∃s160,bV.cell? ((⟨r5,0,none⟩:Addr).add 4)=some (.string s160)/\
 Calls prog 67 #[.pointer p1,.int .i64 n156,.int .i64 n158,.string s160] bV λe dR=>
 ∃ge:Int,∃gg:Int,∃gh:ByteArray,∃kj:Int,e=.returned (.tuple #[.agg #[.int .i64 ge,.int .i64 gg,.string gh],.int .i64 kj])/\
 alE (.cells #[.int .i64 0,.int .i64 0,.string (⟨#[]⟩:ByteArray)] 28) dR λgC cR=>
 stA prog 28 (⟨gC,0,none⟩:Addr) #[.int .i64 ge,.int .i64 gg,.string gh] cR λdj=>
 ∃kl,dj.cell? ((⟨mZ,0,none⟩:Addr).add 0)=some (.int .i64 kl)/\
 ∃km,dj.cell? ((⟨mZ,0,none⟩:Addr).add 1)=some (.int .i64 km)/\
 ∃kq,dj.cell? ((⟨mZ,0,none⟩:Addr).add 2)=some (.string kq)/\
 ∃kr,dj.cell? ((⟨gC,0,none⟩:Addr).add 0)=some (.int .i64 kr)/\
 ∃ku,dj.cell? ((⟨gC,0,none⟩:Addr).add 1)=some (.int .i64 ku)/\
 ∃kv,dj.cell? ((⟨gC,0,none⟩:Addr).add 2)=some (.string kv)/\
 Calls prog 19 #[.agg #[.int .i64 kl,.int .i64 km,.string kq],.agg #[.int .i64 kr,.int .i64 ku,.string kv]] dj λe dw=>
 ∃tX:Bool,e=.returned (.bool tX)/\
 Br tX (
 zQe prog ds dw λgB=>
 R (.returned (.bool (tW == kj))) gB) (
 zQe prog ds dw λgZ=>
 R (.returned (.bool false)) gZ)) (
 Br (((IntKind.i64.wrap ((kX.tmod 14)+14)).tmod 14) == 6) (
 ∃n177,w1.cell? ((⟨r5,0,none⟩:Addr).add 1)=some (.int .i64 n177)/\
 ∃n179,w1.cell? ((⟨r5,0,none⟩:Addr).add 2)=some (.int .i64 n179)/\
 ∃s181,w1.cell? ((⟨r5,0,none⟩:Addr).add 4)=some (.string s181)/\
 Calls prog 68 #[.pointer p0,.int .i64 n177,.int .i64 n179,.string s181] w1 λe cK=>
 ∃o6:Int,∃o8:Int,∃o9:ByteArray,∃tY:Int,e=.returned (.tuple #[.agg #[.int .i64 o6,.int .i64 o8,.string o9],.int .i64 tY])/\
 alE (.cells #[.int .i64 0,.int .i64 0,.string (⟨#[]⟩:ByteArray)] 28) cK λsa bn=>
 stA prog 28 (⟨sa,0,none⟩:Addr) #[.int .i64 o6,.int .i64 o8,.string o9] bn λfT=>
 ∃n188,fT.cell? ((⟨r5,0,none⟩:Addr).add 1)=some (.int .i64 n188)/\
 ∃n190,fT.cell? ((⟨r5,0,none⟩:Addr).add 2)=some (.int .i64 n190)/\
 ∃s192,fT.cell? ((⟨r5,0,none⟩:Addr).add 4)=some (.string s192)/\
 Calls prog 69 #[.pointer p1,.int .i64 n188,.int .i64 n190,.string s192] fT λe qm=>
 ∃pd:Int,∃pf:Int,∃ph:ByteArray,∃tZ:Int,e=.returned (.tuple #[.agg #[.int .i64 pd,.int .i64 pf,.string ph],.int .i64 tZ])/\
 alE (.cells #[.int .i64 0,.int .i64 0,.string (⟨#[]⟩:ByteArray)] 28) qm λvk j6=>
 stA prog 28 (⟨vk,0,none⟩:Addr) #[.int .i64 pd,.int .i64 pf,.string ph] j6 λiK=>
 ∃t6,iK.cell? ((⟨sa,0,none⟩:Addr).add 0)=some (.int .i64 t6)/\
 ∃t7,iK.cell? ((⟨sa,0,none⟩:Addr).add 1)=some (.int .i64 t7)/\
 ∃t8,iK.cell? ((⟨sa,0,none⟩:Addr).add 2)=some (.string t8)/\
 ∃ua,iK.cell? ((⟨vk,0,none⟩:Addr).add 0)=some (.int .i64 ua)/\
 ∃ub,iK.cell? ((⟨vk,0,none⟩:Addr).add 1)=some (.int .i64 ub)/\
 ∃uc,iK.cell? ((⟨vk,0,none⟩:Addr).add 2)=some (.string uc)/\
 Calls prog 19 #[.agg #[.int .i64 t6,.int .i64 t7,.string t8],.agg #[.int .i64 ua,.int .i64 ub,.string uc]] iK λe iF=>
 ∃b198:Bool,e=.returned (.bool b198)/\
 Br b198 (
 zQe prog ds iF λiR=>
 R (.returned (.bool (tY == tZ))) iR) (
 zQe prog ds iF λyk=>
 R (.returned (.bool false)) yk)) (
 Br (((IntKind.i64.wrap ((kX.tmod 14)+14)).tmod 14) == 7) (
 ∃n209,w1.cell? ((⟨r5,0,none⟩:Addr).add 2)=some (.int .i64 n209)/\
 ∃s211,w1.cell? ((⟨r5,0,none⟩:Addr).add 4)=some (.string s211)/\
 Calls prog 18 #[.pointer p0,.int .i64 n209,.string s211] w1 λe pY=>
 ∃pi:Int,∃pj:Int,∃pk:ByteArray,∃ud:Int,e=.returned (.tuple #[.agg #[.int .i64 pi,.int .i64 pj,.string pk],.int .i64 ud])/\
 alE (.cells #[.int .i64 0,.int .i64 0,.string (⟨#[]⟩:ByteArray)] 28) pY λr19 jV=>
 stA prog 28 (⟨r19,0,none⟩:Addr) #[.int .i64 pi,.int .i64 pj,.string pk] jV λgM=>
 ∃n218,gM.cell? ((⟨r5,0,none⟩:Addr).add 2)=some (.int .i64 n218)/\
 ∃s220,gM.cell? ((⟨r5,0,none⟩:Addr).add 4)=some (.string s220)/\
 Calls prog 70 #[.pointer p1,.int .i64 n218,.string s220] gM λe oG=>
 ∃pm:Int,∃pn:Int,∃po:ByteArray,∃ue:Int,e=.returned (.tuple #[.agg #[.int .i64 pm,.int .i64 pn,.string po],.int .i64 ue])/\
 alE (.cells #[.int .i64 0,.int .i64 0,.string (⟨#[]⟩:ByteArray)] 28) oG λr21 pX=>
 stA prog 28 (⟨r21,0,none⟩:Addr) #[.int .i64 pm,.int .i64 pn,.string po] pX λpJ=>
 ∃uf,pJ.cell? ((⟨r19,0,none⟩:Addr).add 0)=some (.int .i64 uf)/\
 ∃ug,pJ.cell? ((⟨r19,0,none⟩:Addr).add 1)=some (.int .i64 ug)/\
 ∃uh,pJ.cell? ((⟨r19,0,none⟩:Addr).add 2)=some (.string uh)/\
 ∃ui,pJ.cell? ((⟨r21,0,none⟩:Addr).add 0)=some (.int .i64 ui)/\
 ∃uj,pJ.cell? ((⟨r21,0,none⟩:Addr).add 1)=some (.int .i64 uj)/\
 ∃uk,pJ.cell? ((⟨r21,0,none⟩:Addr).add 2)=some (.string uk)/\
 Calls prog 19 #[.agg #[.int .i64 uf,.int .i64 ug,.string uh],.agg #[.int .i64 ui,.int .i64 uj,.string uk]] pJ λe rX=>
 ∃b226:Bool,e=.returned (.bool b226)/\
 Br b226 (
 zQe prog ds rX λfw=>
 R (.returned (.bool (ud == ue))) fw) (
 zQe prog ds rX λyO=>
 R (.returned (.bool false)) yO)) (
 Br (((IntKind.i64.wrap ((kX.tmod 14)+14)).tmod 14) == 8) (
 ∃n237,w1.cell? ((⟨r5,0,none⟩:Addr).add 1)=some (.int .i64 n237)/\
 ∃n239,w1.cell? ((⟨r5,0,none⟩:Addr).add 2)=some (.int .i64 n239)/\
 Calls prog 17 #[.pointer p0,.int .i64 n237,.bool (decide (n239 > 0))] w1 λe vm=>
 ∃jc:SV,∃ul:Int,e=.returned (.tuple #[jc.v,.int .i64 ul])/\
 ∃n247,vm.cell? ((⟨r5,0,none⟩:Addr).add 1)=some (.int .i64 n247)/\
 ∃n249,vm.cell? ((⟨r5,0,none⟩:Addr).add 2)=some (.int .i64 n249)/\
 Calls prog 71 #[.pointer p1,.int .i64 n247,.bool (decide (n249 > 0))] vm λe tH=>
 ∃jd:SV,∃um:Int,e=.returned (.tuple #[jd.v,.int .i64 um])/\
 Calls prog 72 #[jc.v,jd.v] tH λe nv=>
 ∃b256:Bool,e=.returned (.bool b256)/\
 Br b256 (
 zQe prog ds nv λlg=>
 R (.returned (.bool (ul == um))) lg) (
 zQe prog ds nv λw55=>
 R (.returned (.bool false)) w55)) (
 Br (((IntKind.i64.wrap ((kX.tmod 14)+14)).tmod 14) == 9) (
 ∃n267,w1.cell? ((⟨r5,0,none⟩:Addr).add 1)=some (.int .i64 n267)/\
 Calls prog 22 #[.pointer p0,.int .i64 n267] w1 λe wK=>
 ∃un:Int,∃uo:Int,e=.returned (.tuple #[.int .i64 un,.int .i64 uo])/\
 ∃n274,wK.cell? ((⟨r5,0,none⟩:Addr).add 1)=some (.int .i64 n274)/\
 Calls prog 73 #[.pointer p1,.int .i64 n274] wK λe w57=>
 ∃uq:Int,∃ur:Int,e=.returned (.tuple #[.int .i64 uq,.int .i64 ur])/\
 Br (un == uq) (
 zQe prog ds w57 λvd=>
 R (.returned (.bool (uo == ur))) vd) (
 zQe prog ds w57 λw59=>
 R (.returned (.bool false)) w59)) (
 Br (((IntKind.i64.wrap ((kX.tmod 14)+14)).tmod 14) == 10) (
 dwE w1 λw60=>
 ∃S5:World->Prop,S5 w60/\
 ∃n290,(∀w',S5 w'->w'.cell? ((⟨r5,0,none⟩:Addr).add 1)=some (.int .i64 n290))/\
 ∃n294,(∀w',S5 w'->w'.cell? ((⟨r5,0,none⟩:Addr).add 1)=some (.int .i64 n294))/\
 Calls prog 31 #[.pointer p0,.int .i64 n290] w60 λe pQ=>
 ∃n291:Int,e=.returned (.int .i64 n291)/\
 S5 pQ/\
 Calls prog 74 #[.pointer p1,.int .i64 n294] pQ λe pG=>
 ∃n295:Int,e=.returned (.int .i64 n295)/\
 zQe prog ds pG λrY=>
 R (.returned (.bool (n291 == n295))) rY) (
 Br (((IntKind.i64.wrap ((kX.tmod 14)+14)).tmod 14) == 11) (
 ∃n302,w1.cell? ((⟨r5,0,none⟩:Addr).add 2)=some (.int .i64 n302)/\
 Calls prog 30 #[.pointer p0,.int .i64 n302] w1 λe ve=>
 ∃ut:Int,∃uu:Bool,∃uv:Int,e=.returned (.tuple #[.int .i64 ut,.bool uu,.int .i64 uv])/\
 ∃n310,ve.cell? ((⟨r5,0,none⟩:Addr).add 2)=some (.int .i64 n310)/\
 Calls prog 75 #[.pointer p1,.int .i64 n310] ve λe pR=>
 ∃uw:Int,∃ux:Bool,∃uy:Int,e=.returned (.tuple #[.int .i64 uw,.bool ux,.int .i64 uy])/\
 Br (ut == uw) (
 Br (uu == ux) (
 zQe prog ds pR λw66=>
 R (.returned (.bool (uv == uy))) w66) (
 zQe prog ds pR λwL=>
 R (.returned (.bool false)) wL)) (
 zQe prog ds pR λw68=>
 R (.returned (.bool false)) w68)) (
 Br (((IntKind.i64.wrap ((kX.tmod 14)+14)).tmod 14) == 12) (
 ∃n333,w1.cell? ((⟨r5,0,none⟩:Addr).add 1)=some (.int .i64 n333)/\
 Calls prog 76 #[.pointer p0,.int .i64 n333] w1 λe w69=>
 ∃je:SV,∃uz:Int,e=.returned (.tuple #[je.v,.int .i64 uz])/\
 ∃n340,w69.cell? ((⟨r5,0,none⟩:Addr).add 1)=some (.int .i64 n340)/\
 Calls prog 77 #[.pointer p1,.int .i64 n340] w69 λe w70=>
 ∃jf:SV,∃uB:Int,e=.returned (.tuple #[jf.v,.int .i64 uB])/\
 Calls prog 72 #[je.v,jf.v] w70 λe vg=>
 ∃b346:Bool,e=.returned (.bool b346)/\
 Br b346 (
 zQe prog ds vg λpT=>
 R (.returned (.bool (uz == uB))) pT) (
 zQe prog ds vg λwQ=>
 R (.returned (.bool false)) wQ)) (
 ∃n355,w1.cell? ((⟨r5,0,none⟩:Addr).add 1)=some (.int .i64 n355)/\
 Calls prog 78 #[.pointer p0,.int .i64 n355] w1 λe w74=>
 ∃jg:SV,∃uD:Int,e=.returned (.tuple #[jg.v,.int .i64 uD])/\
 ∃n362,w74.cell? ((⟨r5,0,none⟩:Addr).add 1)=some (.int .i64 n362)/\
 Calls prog 79 #[.pointer p1,.int .i64 n362] w74 λe w75=>
 ∃jh:SV,∃uE:Int,e=.returned (.tuple #[jh.v,.int .i64 uE])/\
 Calls prog 72 #[jg.v,jh.v] w75 λe w76=>
 ∃b368:Bool,e=.returned (.bool b368)/\
 Br b368 (
 zQe prog ds w76 λw77=>
 R (.returned (.bool (uD == uE))) w77) (
 zQe prog ds w76 λw78=>
 R (.returned (.bool false)) w78))))))))))))))
theorem F26_p:Pl prog f26 [pS 0,pS 1,aS 2 [.int .i64,.int .i64,.int .i64,.int .i64,.str,.str]] F26_1:=λR=>
 lf
theorem yKK (p0 p1:Option Addr) (bF bG vV vW:Int) (vX vY:ByteArray) (w:World) (R:Rt) (h:F26_1 R p0 p1 bF bG vV vW vX vY [] w):Calls prog 26 #[.pointer p0,.pointer p1,.agg #[.int .i64 bF,.int .i64 bG,.int .i64 vV,.int .i64 vW,.string vX,.string vY]] w R:=
 plC F26_p func26 h
end Go.Proofs.YtcihcbfcgjepfaaGreatDoor
