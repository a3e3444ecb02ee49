import Derived.Test.YtaeecpjhfmcliaaGreatDoorProg
import Derived.Test.YtaeecpjhfmcliaaGreatDoorShTwentyEight
/- Shallow texts of functions, printed by program, each checked by the kernel against the loaded code. No condition. -/
set_option maxRecDepth 100000
set_option linter.unusedVariables false
namespace Go.Proofs.YtaeecpjhfmcliaaGreatDoor
open Go.Sh Tryz
def F42_1(R:Rt)(aw:Int)(ah ai:SV)(ds:Ds)(w:World):Prop:=
 alE (.cells #[.int .i64 aw,ah.v,ai.v] 35) w λr1 w1=>
 ∃iF,w1.cell? ((⟨r1,0,none⟩:Addr).add 0)=some (.int .i64 iF)/\
 ∃dB:SV,w1.cell? ((⟨r1,0,none⟩:Addr).add 1)=some (dB.v)/\
 ∃cF:SV,w1.cell? ((⟨r1,0,none⟩:Addr).add 2)=some (cF.v)/\
 Calls prog 13 #[.agg #[.int .i64 iF,dB.v,cF.v]] w1 λe w2=>
 ∃n6:Int,e=.returned (.int .i64 n6)/\
 Br (n6 != 0) (
 zQb prog ds w2 λw3=>
 R (.returned (.tuple #[.pointer none,.int .i64 n6])) w3) (
 dwE w2 λw4=>
 ∃S1:World->Prop,S1 w4/\
 ∃dL,(∀w',S1 w'->w'.cell? ((⟨r1,0,none⟩:Addr).add 0)=some (.int .i64 dL))/\
 ∃bh:SV,(∀w',S1 w'->w'.cell? ((⟨r1,0,none⟩:Addr).add 1)=some (bh.v))/\
 ∃bi:SV,(∀w',S1 w'->w'.cell? ((⟨r1,0,none⟩:Addr).add 2)=some (bi.v))/\
 ∃jD,(∀w',S1 w'->w'.cell? ((⟨r1,0,none⟩:Addr).add 0)=some (.int .i64 jD))/\
 ∃fO:SV,(∀w',S1 w'->w'.cell? ((⟨r1,0,none⟩:Addr).add 1)=some (fO.v))/\
 ∃fP:SV,(∀w',S1 w'->w'.cell? ((⟨r1,0,none⟩:Addr).add 2)=some (fP.v))/\
 Calls prog 71 #[.agg #[.int .i64 dL,bh.v,bi.v]] w4 λe w5=>
 ∃jK:Int,∃db:SV,∃dc:SV,e=.returned (.agg #[.int .i64 jK,db.v,dc.v])/\
 S1 w5/\
 Calls prog 71 #[.agg #[.int .i64 jD,fO.v,fP.v]] w5 λe w6=>
 ∃u0:Int,∃lA:SV,∃lB:SV,e=.returned (.agg #[.int .i64 u0,lA.v,lB.v])/\
 alE (.cells #[.int .i64 u0,lA.v,lB.v] 35) w6 λaO w7=>
 alE (.cells #[.int .i64 jK,db.v,dc.v,.slice (some ⟨aO,0,none⟩) 1 1,.slice none 0 0] 115) w7 λzn w8=>
 zQb prog ds w8 λw9=>
 R (.returned (.tuple #[.pointer (some (⟨zn,0,none⟩:Addr)),.int .i64 0])) w9)
theorem F42_p:Pl prog f42 [aS 0 [.int .i64,.slice,.slice]] F42_1:=λR=>
 lf
theorem xQ2 (aw:Int) (ah ai:SV) (w:World) (R:Rt) (h:F42_1 R aw ah ai [] w):Calls prog 42 #[.agg #[.int .i64 aw,ah.v,ai.v]] w R:=
 plC F42_p func42 h
def F99_1(R:Rt)(p0:Option Addr)(ds:Ds)(w:World):Prop:=
 dwE w λw1=>
 zQf p0 λa2=>
 ∃l5:SV,w1.cell? (a2.add 4)=some (l5.v)/\
 Br ((l5.len:Int) == 0) (
 zQf p0 λa3=>
 ∃jD,w1.cell? (a3.add 0)=some (.int .i64 jD)/\
 ∃fO:SV,w1.cell? (a3.add 1)=some (fO.v)/\
 ∃fP:SV,w1.cell? (a3.add 2)=some (fP.v)/\
 zQf p0 λa4=>
 ∃dT:SV,w1.cell? (a4.add 3)=some (dT.v)/\
 zQf p0 λa5=>
 ∃dX:SV,w1.cell? (a5.add 3)=some (dX.v)/\
 ∃a6,dT.a=some a6/\0<=(IntKind.i64.wrap ((dX.len:Int) - 1))/\(IntKind.i64.wrap ((dX.len:Int) - 1))<(dT.len:Int)/\
 ∃gH,w1.cell? ((a6.add ((IntKind.i64.wrap ((dX.len:Int) - 1)).toNat * 3)).add 0)=some (.int .i64 gH)/\
 ∃bx:SV,w1.cell? ((a6.add ((IntKind.i64.wrap ((dX.len:Int) - 1)).toNat * 3)).add 1)=some (bx.v)/\
 ∃c9:SV,w1.cell? ((a6.add ((IntKind.i64.wrap ((dX.len:Int) - 1)).toNat * 3)).add 2)=some (c9.v)/\
 Calls prog 18 #[.agg #[.int .i64 jD,fO.v,fP.v],.agg #[.int .i64 gH,bx.v,c9.v]] w1 λe w7=>
 ∃qg:Bool,e=.returned (.bool qg)/\
 Br (!qg) (
 dwE w7 λw8=>
 ∃S2:World->Prop,S2 w8/\
 zQf p0 λa9=>
 ∃iW:SV,(∀w',S2 w'->w'.cell? (a9.add 3)=some (iW.v))/\
 zQf p0 λdy=>
 ∃gL,(∀w',S2 w'->w'.cell? (dy.add 0)=some (.int .i64 gL))/\
 ∃ci:SV,(∀w',S2 w'->w'.cell? (dy.add 1)=some (ci.v))/\
 ∃cj:SV,(∀w',S2 w'->w'.cell? (dy.add 2)=some (cj.v))/\
 Calls prog 71 #[.agg #[.int .i64 gL,ci.v,cj.v]] w8 λe aU=>
 ∃jo:Int,∃fL:SV,∃fM:SV,e=.returned (.agg #[.int .i64 jo,fL.v,fM.v])/\
 S2 aU/\
 alE (.cells #[.int .i64 jo,fL.v,fM.v] 35) aU λr38 aQ=>
 S2 aQ/\
 ∃iE:SV,∃aJ,(Builtin.append_ #[106,106] 106 #[iW.v,.slice (some ⟨r38,0,none⟩) 1 1]).run prog aQ=.ok (iE.v) aJ/\
 zQf p0 λfY=>
 st1 (fY.add 3) (iE.v) aJ λbm=>
 zQb prog ds bm λbF=>
 R (.returned (.tuple #[])) bF) (
 zQb prog ds w7 λbH=>
 R (.returned (.tuple #[])) bH)) (
 zQb prog ds w1 λbU=>
 R (.returned (.tuple #[])) bU)
theorem F99_p:Pl prog f99 [pS 0] F99_1:=λR=>
 lf
theorem yYH (p0:Option Addr) (w:World) (R:Rt) (h:F99_1 R p0 [] w):Calls prog 99 #[.pointer p0] w R:=
 plC F99_p func99 h
def F59_1(R:Rt)(p0:Option Addr)(ds:Ds)(w:World):Prop:=
 zQf p0 λa1=>
 ∃l6:SV,w.cell? (a1.add 4)=some (l6.v)/\
 Br (decide ((l6.len:Int) >= 8)) (
 zQb prog ds w λw2=>
 R (.returned (.int .i64 3)) w2) (
 dwE w λw3=>
 ∃S1:World->Prop,S1 w3/\
 zQf p0 λa4=>
 ∃cA:SV,(∀w',S1 w'->w'.cell? (a4.add 4)=some (cA.v))/\
 zQf p0 λa5=>
 ∃gn,(∀w',S1 w'->w'.cell? (a5.add 0)=some (.int .i64 gn))/\
 ∃cX:SV,(∀w',S1 w'->w'.cell? (a5.add 1)=some (cX.v))/\
 ∃cY:SV,(∀w',S1 w'->w'.cell? (a5.add 2)=some (cY.v))/\
 Calls prog 71 #[.agg #[.int .i64 gn,cX.v,cY.v]] w3 λe w6=>
 ∃eO:Int,∃br:SV,∃ck:SV,e=.returned (.agg #[.int .i64 eO,br.v,ck.v])/\
 S1 w6/\
 alE (.cells #[.int .i64 eO,br.v,ck.v] 35) w6 λr19 w7=>
 S1 w7/\
 ∃dX:SV,∃w8,(Builtin.append_ #[106,106] 106 #[cA.v,.slice (some ⟨r19,0,none⟩) 1 1]).run prog w7=.ok (dX.v) w8/\
 zQf p0 λa9=>
 st1 (a9.add 4) (dX.v) w8 λaP=>
 zQb prog ds aP λaU=>
 R (.returned (.int .i64 0)) aU)
theorem F59_p:Pl prog f59 [pS 0] F59_1:=λR=>
 lf
theorem xXU (p0:Option Addr) (w:World) (R:Rt) (h:F59_1 R p0 [] w):Calls prog 59 #[.pointer p0] w R:=
 plC F59_p func59 h
def F60_1(R:Rt)(p0:Option Addr)(ds:Ds)(w:World):Prop:=
 zQf p0 λa1=>
 ∃l6:SV,w.cell? (a1.add 4)=some (l6.v)/\
 Br ((l6.len:Int) == 0) (
 zQb prog ds w λw2=>
 R (.returned (.int .i64 9)) w2) (
 dwE w λw3=>
 zQf p0 λa4=>
 ∃cA:SV,w3.cell? (a4.add 4)=some (cA.v)/\
 zQf p0 λa5=>
 ∃cN:SV,w3.cell? (a5.add 4)=some (cN.v)/\
 0<=(IntKind.i64.wrap ((cN.len:Int) - 1))/\(IntKind.i64.wrap ((cN.len:Int) - 1)).toNat<=cA.cap/\0<=(IntKind.i64.wrap ((cN.len:Int) - 1)).toNat/\
 zQf p0 λa6=>
 st1 (a6.add 4) (.slice (if cA.cap=0 then cA.a else cA.a.map (λx=>x.add (0 * 3))) ((IntKind.i64.wrap ((cN.len:Int) - 1)).toNat - 0) (cA.cap - 0)) w3 λw7=>
 Calls prog 99 #[.pointer p0] w7 λe w8=>
 e=.returned (.tuple #[])/\
 zQb prog ds w8 λw9=>
 R (.returned (.int .i64 0)) w9)
theorem F60_p:Pl prog f60 [pS 0] F60_1:=λR=>
 lf
theorem xXe (p0:Option Addr) (w:World) (R:Rt) (h:F60_1 R p0 [] w):Calls prog 60 #[.pointer p0] w R:=
 plC F60_p func60 h
def F61_1(R:Rt)(p0:Option Addr)(ds:Ds)(w:World):Prop:=
 zQf p0 λa1=>
 ∃l6:SV,w.cell? (a1.add 4)=some (l6.v)/\
 Br ((l6.len:Int) == 0) (
 zQb prog ds w λw2=>
 R (.returned (.int .i64 9)) w2) (
 dwE w λw3=>
 zQf p0 λa4=>
 ∃cA:SV,w3.cell? (a4.add 4)=some (cA.v)/\
 zQf p0 λa5=>
 ∃cN:SV,w3.cell? (a5.add 4)=some (cN.v)/\
 ∃a6,cA.a=some a6/\0<=(IntKind.i64.wrap ((cN.len:Int) - 1))/\(IntKind.i64.wrap ((cN.len:Int) - 1))<(cA.len:Int)/\
 ∃cZ,w3.cell? ((a6.add ((IntKind.i64.wrap ((cN.len:Int) - 1)).toNat * 3)).add 0)=some (.int .i64 cZ)/\
 ∃cn:SV,w3.cell? ((a6.add ((IntKind.i64.wrap ((cN.len:Int) - 1)).toNat * 3)).add 1)=some (cn.v)/\
 ∃c8:SV,w3.cell? ((a6.add ((IntKind.i64.wrap ((cN.len:Int) - 1)).toNat * 3)).add 2)=some (c8.v)/\
 zQf p0 λa7=>
 stA prog 35 a7 #[.int .i64 cZ,cn.v,c8.v] w3 λw8=>
 dwE w8 λw9=>
 zQf p0 λdy=>
 ∃eu:SV,w9.cell? (dy.add 4)=some (eu.v)/\
 zQf p0 λdI=>
 ∃iW:SV,w9.cell? (dI.add 4)=some (iW.v)/\
 0<=(IntKind.i64.wrap ((iW.len:Int) - 1))/\(IntKind.i64.wrap ((iW.len:Int) - 1)).toNat<=eu.cap/\0<=(IntKind.i64.wrap ((iW.len:Int) - 1)).toNat/\
 zQf p0 λjj=>
 st1 (jj.add 4) (.slice (if eu.cap=0 then eu.a else eu.a.map (λx=>x.add (0 * 3))) ((IntKind.i64.wrap ((iW.len:Int) - 1)).toNat - 0) (eu.cap - 0)) w9 λaJ=>
 zQb prog ds aJ λbB=>
 R (.returned (.int .i64 0)) bB)
theorem F61_p:Pl prog f61 [pS 0] F61_1:=λR=>
 lf
theorem yYp (p0:Option Addr) (w:World) (R:Rt) (h:F61_1 R p0 [] w):Calls prog 61 #[.pointer p0] w R:=
 plC F61_p func61 h
def F21_1(R:Rt)(p0:Option Addr)(ds:Ds)(w:World):Prop:=
 zQf p0 λa1=>
 ∃l6:SV,w.cell? (a1.add 4)=some (l6.v)/\
 zQb prog ds w λw2=>
 R (.returned (.int .i64 (l6.len:Int))) w2
theorem F21_p:Pl prog f21 [pS 0] F21_1:=λR=>
 lf
theorem yYF (p0:Option Addr) (w:World) (R:Rt) (h:F21_1 R p0 [] w):Calls prog 21 #[.pointer p0] w R:=
 plC F21_p func21 h
def xWE(R:Rt)(p0:Option Addr)(n1:Int)(ds:Ds)(w:World):Prop:=
 Br (decide (n1 >= 1)) (
 zQf p0 λa1=>
 ∃cA:SV,w.cell? (a1.add 2)=some (cA.v)/\
 zQb prog ds w λw2=>
 R (.returned (.bool (decide (n1<=(cA.len:Int))))) w2) (
 zQb prog ds w λw3=>
 R (.returned (.bool false)) w3)
theorem F101_p:Pl prog f101 [pS 0,iS 1] xWE:=λR=>
 lf
theorem yWG (p0:Option Addr) (n1:Int) (w:World) (R:Rt) (h:xWE R p0 n1 [] w):Calls prog 101 #[.pointer p0,.int .i64 n1] w R:=
 plC F101_p func101 h
def xJW(R:Rt)(p0:Option Addr)(n1:Int)(fZ:Bool)(bI:SV)(ds:Ds)(w:World):Prop:=
 alE (.cells #[.bool fZ,bI.v] 67) w λr5 w1=>
 zQf p0 λa2=>
 ∃dL,w1.cell? (a2.add 0)=some (.int .i64 dL)/\
 ∃bh:SV,w1.cell? (a2.add 1)=some (bh.v)/\
 ∃bi:SV,w1.cell? (a2.add 2)=some (bi.v)/\
 Calls prog 71 #[.agg #[.int .i64 dL,bh.v,bi.v]] w1 λe w3=>
 ∃jK:Int,∃db:SV,∃dc:SV,e=.returned (.agg #[.int .i64 jK,db.v,dc.v])/\
 alE (.cells #[.int .i64 0,.slice none 0 0,.slice none 0 0] 35) w3 λr6 w4=>
 stA prog 35 (⟨r6,0,none⟩:Addr) #[.int .i64 jK,db.v,dc.v] w4 λw5=>
 ∃bV:SV,w5.cell? ((⟨r6,0,none⟩:Addr).add 2)=some (bV.v)/\
 Br (decide (n1 > (bV.len:Int))) (
 ∃dW:SV,w5.cell? ((⟨r6,0,none⟩:Addr).add 2)=some (dW.v)/\
 alE (.cells #[.bool false,.slice none 0 0] 67) w5 λr20 w6=>
 ∃cz:SV,∃w7,(Builtin.append_ #[33,33] 33 #[dW.v,.slice (some ⟨r20,0,none⟩) 1 1]).run prog w6=.ok (cz.v) w7/\
 st1 ((⟨r6,0,none⟩:Addr).add 2) (cz.v) w7 λw8=>
 dwE w8 λw9=>
 ∃S1:World->Prop,S1 w9/\
 ∃bZ:SV,(∀w',S1 w'->w'.cell? ((⟨r6,0,none⟩:Addr).add 2)=some (bZ.v))/\
 ∃gN,(∀w',S1 w'->w'.cell? ((⟨r5,0,none⟩:Addr).add 0)=some (.bool gN))/\
 ∃bA:SV,(∀w',S1 w'->w'.cell? ((⟨r5,0,none⟩:Addr).add 1)=some (bA.v))/\
 Calls prog 102 #[.agg #[.bool gN,bA.v]] w9 λe aP=>
 ∃dJ:Bool,∃bg:SV,e=.returned (.agg #[.bool dJ,bg.v])/\
 S1 aP/\
 ∃dI,bZ.a=some dI/\0<=(IntKind.i64.wrap (n1 - 1))/\(IntKind.i64.wrap (n1 - 1))<(bZ.len:Int)/\
 stA prog 67 (dI.add ((IntKind.i64.wrap (n1 - 1)).toNat * 2)) #[.bool dJ,bg.v] aP λaQ=>
 ∃bC,aQ.cell? ((⟨r6,0,none⟩:Addr).add 0)=some (.int .i64 bC)/\
 ∃aL:SV,aQ.cell? ((⟨r6,0,none⟩:Addr).add 1)=some (aL.v)/\
 ∃aM:SV,aQ.cell? ((⟨r6,0,none⟩:Addr).add 2)=some (aM.v)/\
 zQf p0 λkN=>
 stA prog 35 kN #[.int .i64 bC,aL.v,aM.v] aQ λbB=>
 Calls prog 99 #[.pointer p0] bB λe bm=>
 e=.returned (.tuple #[])/\
 zQb prog ds bm λbF=>
 R (.returned (.tuple #[])) bF) (
 dwE w5 λbH=>
 ∃S2:World->Prop,S2 bH/\
 ∃bZ:SV,(∀w',S2 w'->w'.cell? ((⟨r6,0,none⟩:Addr).add 2)=some (bZ.v))/\
 ∃gN,(∀w',S2 w'->w'.cell? ((⟨r5,0,none⟩:Addr).add 0)=some (.bool gN))/\
 ∃bA:SV,(∀w',S2 w'->w'.cell? ((⟨r5,0,none⟩:Addr).add 1)=some (bA.v))/\
 Calls prog 102 #[.agg #[.bool gN,bA.v]] bH λe bU=>
 ∃dJ:Bool,∃bg:SV,e=.returned (.agg #[.bool dJ,bg.v])/\
 S2 bU/\
 ∃ky,bZ.a=some ky/\0<=(IntKind.i64.wrap (n1 - 1))/\(IntKind.i64.wrap (n1 - 1))<(bZ.len:Int)/\
 stA prog 67 (ky.add ((IntKind.i64.wrap (n1 - 1)).toNat * 2)) #[.bool dJ,bg.v] bU λbT=>
 ∃bC,bT.cell? ((⟨r6,0,none⟩:Addr).add 0)=some (.int .i64 bC)/\
 ∃aL:SV,bT.cell? ((⟨r6,0,none⟩:Addr).add 1)=some (aL.v)/\
 ∃aM:SV,bT.cell? ((⟨r6,0,none⟩:Addr).add 2)=some (aM.v)/\
 zQf p0 λa21=>
 stA prog 35 a21 #[.int .i64 bC,aL.v,aM.v] bT λdf=>
 Calls prog 99 #[.pointer p0] df λe dU=>
 e=.returned (.tuple #[])/\
 zQb prog ds dU λdw=>
 R (.returned (.tuple #[])) dw)
theorem F100_p:Pl prog f100 [pS 0,iS 1,aS 2 [.bool,.slice]] xJW:=λR=>
 lf
theorem yWR (p0:Option Addr) (n1:Int) (fZ:Bool) (bI:SV) (w:World) (R:Rt) (h:xJW R p0 n1 fZ bI [] w):Calls prog 100 #[.pointer p0,.int .i64 n1,.agg #[.bool fZ,bI.v]] w R:=
 plC F100_p func100 h
def F63_1(R:Rt)(p0:Option Addr)(eD:Bool)(aZ:SV)(ds:Ds)(w:World):Prop:=
 alE (.cells #[.bool eD,aZ.v] 67) w λr3 w1=>
 zQf p0 λa2=>
 ∃eI:SV,w1.cell? (a2.add 2)=some (eI.v)/\
 Br (decide ((IntKind.i64.wrap ((eI.len:Int)+1)) > 300)) (
 zQb prog ds w1 λw3=>
 R (.returned (.tuple #[.int .i64 0,.int .i64 3])) w3) (
 dwE w1 λw4=>
 zQf p0 λa5=>
 ∃cz:SV,w4.cell? (a5.add 1)=some (cz.v)/\
 zQf p0 λa6=>
 ∃cv,w4.cell? a6=some (.int .i64 cv)/\
 ∃gN,w4.cell? ((⟨r3,0,none⟩:Addr).add 0)=some (.bool gN)/\
 ∃bA:SV,w4.cell? ((⟨r3,0,none⟩:Addr).add 1)=some (bA.v)/\
 Calls prog 54 #[cz.v,.int .i64 cv,.agg #[.bool gN,bA.v]] w4 λe w7=>
 ∃mX:Int,e=.returned (.int .i64 mX)/\
 Br (mX != 0) (
 zQb prog ds w7 λw8=>
 R (.returned (.tuple #[.int .i64 0,.int .i64 mX])) w8) (
 ∃u6,w7.cell? ((⟨r3,0,none⟩:Addr).add 0)=some (.bool u6)/\
 ∃lC:SV,w7.cell? ((⟨r3,0,none⟩:Addr).add 1)=some (lC.v)/\
 Calls prog 100 #[.pointer p0,.int .i64 (IntKind.i64.wrap ((eI.len:Int)+1)),.agg #[.bool u6,lC.v]] w7 λe w9=>
 e=.returned (.tuple #[])/\
 zQb prog ds w9 λaP=>
 R (.returned (.tuple #[.int .i64 (IntKind.i64.wrap ((eI.len:Int)+1)),.int .i64 0])) aP))
theorem F63_p:Pl prog f63 [pS 0,aS 1 [.bool,.slice]] F63_1:=λR=>
 lf
theorem yYE (p0:Option Addr) (eD:Bool) (aZ:SV) (w:World) (R:Rt) (h:F63_1 R p0 eD aZ [] w):Calls prog 63 #[.pointer p0,.agg #[.bool eD,aZ.v]] w R:=
 plC F63_p func63 h
def F64_1(R:Rt)(p0:Option Addr)(n1:Int)(fZ:Bool)(bI:SV)(ds:Ds)(w:World):Prop:=
 alE (.cells #[.bool fZ,bI.v] 67) w λr5 w1=>
 Calls prog 101 #[.pointer p0,.int .i64 n1] w1 λe w2=>
 ∃dR:Bool,e=.returned (.bool dR)/\
 Br (!dR) (
 zQb prog ds w2 λw3=>
 R (.returned (.int .i64 4)) w3) (
 dwE w2 λw4=>
 zQf p0 λa5=>
 ∃dT:SV,w4.cell? (a5.add 1)=some (dT.v)/\
 zQf p0 λa6=>
 ∃jO,w4.cell? a6=some (.int .i64 jO)/\
 ∃u7,w4.cell? ((⟨r5,0,none⟩:Addr).add 0)=some (.bool u7)/\
 ∃cg:SV,w4.cell? ((⟨r5,0,none⟩:Addr).add 1)=some (cg.v)/\
 Calls prog 54 #[dT.v,.int .i64 jO,.agg #[.bool u7,cg.v]] w4 λe w7=>
 ∃iw:Int,e=.returned (.int .i64 iw)/\
 Br (iw != 0) (
 zQb prog ds w7 λw8=>
 R (.returned (.int .i64 iw)) w8) (
 ∃vc,w7.cell? ((⟨r5,0,none⟩:Addr).add 0)=some (.bool vc)/\
 ∃cC:SV,w7.cell? ((⟨r5,0,none⟩:Addr).add 1)=some (cC.v)/\
 Calls prog 100 #[.pointer p0,.int .i64 n1,.agg #[.bool vc,cC.v]] w7 λe w9=>
 e=.returned (.tuple #[])/\
 zQb prog ds w9 λaP=>
 R (.returned (.int .i64 0)) aP))
theorem F64_p:Pl prog f64 [pS 0,iS 1,aS 2 [.bool,.slice]] F64_1:=λR=>
 lf
theorem yYI (p0:Option Addr) (n1:Int) (fZ:Bool) (bI:SV) (w:World) (R:Rt) (h:F64_1 R p0 n1 fZ bI [] w):Calls prog 64 #[.pointer p0,.int .i64 n1,.agg #[.bool fZ,bI.v]] w R:=
 plC F64_p func64 h
def F65_1(R:Rt)(p0:Option Addr)(n1:Int)(b2:Bool)(ds:Ds)(w:World):Prop:=
 Calls prog 101 #[.pointer p0,.int .i64 n1] w λe w1=>
 ∃dR:Bool,e=.returned (.bool dR)/\
 Br (!dR) (
 zQb prog ds w1 λw2=>
 R (.returned (.int .i64 4)) w2) (
 zQf p0 λa3=>
 ∃dT:SV,w1.cell? (a3.add 2)=some (dT.v)/\
 ∃a4,dT.a=some a4/\0<=(IntKind.i64.wrap (n1 - 1))/\(IntKind.i64.wrap (n1 - 1))<(dT.len:Int)/\
 ∃nE,w1.cell? ((a4.add ((IntKind.i64.wrap (n1 - 1)).toNat * 2)).add 0)=some (.bool nE)/\
 ∃fI:SV,w1.cell? ((a4.add ((IntKind.i64.wrap (n1 - 1)).toNat * 2)).add 1)=some (fI.v)/\
 Calls prog 102 #[.agg #[.bool nE,fI.v]] w1 λe w5=>
 ∃vd:Bool,∃cn:SV,e=.returned (.agg #[.bool vd,cn.v])/\
 alE (.cells #[.bool false,.slice none 0 0] 67) w5 λr7 w6=>
 stA prog 67 (⟨r7,0,none⟩:Addr) #[.bool vd,cn.v] w6 λw7=>
 st1 (⟨r7,0,none⟩:Addr) (.bool b2) w7 λw8=>
 ∃nK,w8.cell? ((⟨r7,0,none⟩:Addr).add 0)=some (.bool nK)/\
 ∃bt:SV,w8.cell? ((⟨r7,0,none⟩:Addr).add 1)=some (bt.v)/\
 Calls prog 100 #[.pointer p0,.int .i64 n1,.agg #[.bool nK,bt.v]] w8 λe w9=>
 e=.returned (.tuple #[])/\
 zQb prog ds w9 λaP=>
 R (.returned (.int .i64 0)) aP)
theorem F65_p:Pl prog f65 [pS 0,iS 1,bS 2] F65_1:=λR=>
 lf
theorem xQ9 (p0:Option Addr) (n1:Int) (b2:Bool) (w:World) (R:Rt) (h:F65_1 R p0 n1 b2 [] w):Calls prog 65 #[.pointer p0,.int .i64 n1,.bool b2] w R:=
 plC F65_p func65 h
def xZG(R:Rt)(p0:Option Addr)(n1 n9:Int)(p11 p13:Option Addr)(ds:Ds)(w:World):Prop:=
 zQf p13 λa1=>
 ∃zp:SV,w.cell? (a1.add 1)=some (zp.v)/\
 zQf p11 λa2=>
 ∃nM,w.cell? (a2.add 0)=some (.int .i64 nM)/\
 ∃ve,w.cell? (a2.add 1)=some (.int .i64 ve)/\
 ∃vg,w.cell? (a2.add 2)=some (.string vg)/\
 ∃a3,zp.a=some a3/\0<=n9/\n9<(zp.len:Int)/\
 stA prog 73 (a3.add (n9.toNat * 3)) #[.int .i64 nM,.int .i64 ve,.string vg] w λw4=>
 zQf p13 λa5=>
 ∃nN,w4.cell? (a5.add 0)=some (.bool nN)/\
 ∃fQ:SV,w4.cell? (a5.add 1)=some (fQ.v)/\
 Calls prog 100 #[.pointer p0,.int .i64 n1,.agg #[.bool nN,fQ.v]] w4 λe w6=>
 e=.returned (.tuple #[])/\
 zQb prog ds w6 λw7=>
 R (.returned (.int .i64 0)) w7
def F67_2(R:Rt)(p0:Option Addr)(n1:Int)(s2:ByteArray)(iJ gv:Int)(mL:ByteArray)(ds:Ds)(w:World):Prop:=
 alE (.cells #[.int .i64 iJ,.int .i64 gv,.string mL] 73) w λr7 w8=>
 zQf p0 λa9=>
 ∃cH:SV,w8.cell? (a9.add 1)=some (cH.v)/\
 Calls prog 103 #[cH.v,.string s2] w8 λe aP=>
 ∃cZ:Int,∃vh:Bool,e=.returned (.tuple #[.int .i64 cZ,.bool vh])/\
 Calls prog 101 #[.pointer p0,.int .i64 n1] aP λe aU=>
 ∃pZ:Bool,e=.returned (.bool pZ)/\
 Br (!pZ) (
 zQb prog ds aU λaQ=>
 R (.returned (.int .i64 4)) aQ) (
 Br (!vh) (
 zQb prog ds aU λaJ=>
 R (.returned (.int .i64 4)) aJ) (
 dwE aU λbB=>
 ∃S1:World->Prop,S1 bB/\
 zQf p0 λkx=>
 ∃eR:SV,(∀w',S1 w'->w'.cell? (kx.add 1)=some (eR.v))/\
 ∃ip,eR.a=some ip/\0<=cZ/\cZ<(eR.len:Int)/\
 ∃qX,(∀w',S1 w'->w'.cell? ((ip.add (cZ.toNat * 4)).add 0)=some (.string qX))/\
 ∃qY,(∀w',S1 w'->w'.cell? ((ip.add (cZ.toNat * 4)).add 1)=some (.int .i64 qY))/\
 ∃qZ,(∀w',S1 w'->w'.cell? ((ip.add (cZ.toNat * 4)).add 2)=some (.int .i64 qZ))/\
 ∃re,(∀w',S1 w'->w'.cell? ((ip.add (cZ.toNat * 4)).add 3)=some (.bool re))/\
 zQf p0 λpK=>
 ∃n45,(∀w',S1 w'->w'.cell? pK=some (.int .i64 n45))/\
 ∃ga,(∀w',S1 w'->w'.cell? ((⟨r7,0,none⟩:Addr).add 0)=some (.int .i64 ga))/\
 ∃gb,(∀w',S1 w'->w'.cell? ((⟨r7,0,none⟩:Addr).add 1)=some (.int .i64 gb))/\
 ∃gc,(∀w',S1 w'->w'.cell? ((⟨r7,0,none⟩:Addr).add 2)=some (.string gc))/\
 (
 Calls prog 104 #[.agg #[.string qX,.int .i64 qY,.int .i64 qZ,.bool re],.int .i64 n45,.agg #[.int .i64 ga,.int .i64 gb,.string gc]] bB λe bU=>
 ∃eY:Int,∃iK:Int,∃iL:ByteArray,∃cu:Int,e=.returned (.tuple #[.agg #[.int .i64 eY,.int .i64 iK,.string iL],.int .i64 cu])/\
 alE (.cells #[.int .i64 0,.int .i64 0,.string (⟨#[]⟩:ByteArray)] 73) bU λcq cM=>
 stA prog 73 (⟨cq,0,none⟩:Addr) #[.int .i64 eY,.int .i64 iK,.string iL] cM λbT=>
 Br (cu != 0) (
 zQb prog ds bT λbX=>
 R (.returned (.int .i64 cu)) bX) (
 zQf p0 λpG=>
 ∃ka:SV,bT.cell? (pG.add 2)=some (ka.v)/\
 ∃oJ,ka.a=some oJ/\0<=(IntKind.i64.wrap (n1 - 1))/\(IntKind.i64.wrap (n1 - 1))<(ka.len:Int)/\
 ∃jL,bT.cell? ((oJ.add ((IntKind.i64.wrap (n1 - 1)).toNat * 2)).add 0)=some (.bool jL)/\
 ∃dd:SV,bT.cell? ((oJ.add ((IntKind.i64.wrap (n1 - 1)).toNat * 2)).add 1)=some (dd.v)/\
 Calls prog 102 #[.agg #[.bool jL,dd.v]] bT λe dw=>
 ∃jM:Bool,∃bw:SV,e=.returned (.agg #[.bool jM,bw.v])/\
 alE (.cells #[.bool false,.slice none 0 0] 67) dw λqa dH=>
 stA prog 67 (⟨qa,0,none⟩:Addr) #[.bool jM,bw.v] dH λfj=>
 xZG R p0 n1 cZ (some (⟨cq,0,none⟩:Addr)) (some (⟨qa,0,none⟩:Addr)) ds fj))/\(
 alE (.cells #[.int .i64 0,.int .i64 0,.string (⟨#[]⟩:ByteArray)] 73) bB λcq iq=>
 S1 iq/\
 Calls prog 104 #[.agg #[.string qX,.int .i64 qY,.int .i64 qZ,.bool re],.int .i64 n45,.agg #[.int .i64 ga,.int .i64 gb,.string gc]] iq λe eg=>
 ∃eY:Int,∃iK:Int,∃iL:ByteArray,∃cu:Int,e=.returned (.tuple #[.agg #[.int .i64 eY,.int .i64 iK,.string iL],.int .i64 cu])/\
 stA prog 73 (⟨cq,0,none⟩:Addr) #[.int .i64 eY,.int .i64 iK,.string iL] eg λfm=>
 Br (cu != 0) (
 zQb prog ds fm λir=>
 R (.returned (.int .i64 cu)) ir) (
 zQf p0 λrX=>
 ∃ka:SV,fm.cell? (rX.add 2)=some (ka.v)/\
 ∃vZ,ka.a=some vZ/\0<=(IntKind.i64.wrap (n1 - 1))/\(IntKind.i64.wrap (n1 - 1))<(ka.len:Int)/\
 ∃jL,fm.cell? ((vZ.add ((IntKind.i64.wrap (n1 - 1)).toNat * 2)).add 0)=some (.bool jL)/\
 ∃dd:SV,fm.cell? ((vZ.add ((IntKind.i64.wrap (n1 - 1)).toNat * 2)).add 1)=some (dd.v)/\
 Calls prog 102 #[.agg #[.bool jL,dd.v]] fm λe fU=>
 ∃jM:Bool,∃bw:SV,e=.returned (.agg #[.bool jM,bw.v])/\
 alE (.cells #[.bool false,.slice none 0 0] 67) fU λqa fV=>
 stA prog 67 (⟨qa,0,none⟩:Addr) #[.bool jM,bw.v] fV λiT=>
 xZG R p0 n1 cZ (some (⟨cq,0,none⟩:Addr)) (some (⟨qa,0,none⟩:Addr)) ds iT))))
theorem F67_p:Pl prog f67 [pS 0,iS 1,sS 2,aS 3 [.int .i64,.int .i64,.str]] F67_2:=λR=>
 pc 8 (rest [pS 0,iS 1,iS 9,pS 11,pS 13] (xZG R) lf)
theorem xQQ (p0:Option Addr) (n1:Int) (s2:ByteArray) (iJ gv:Int) (mL:ByteArray) (w:World) (R:Rt) (h:F67_2 R p0 n1 s2 iJ gv mL [] w):Calls prog 67 #[.pointer p0,.int .i64 n1,.string s2,.agg #[.int .i64 iJ,.int .i64 gv,.string mL]] w R:=
 plC F67_p func67 h
def F68_1(R:Rt)(p0:Option Addr)(ds:Ds)(w:World):Prop:=
 zQf p0 λa1=>
 ∃l6:SV,w.cell? (a1.add 4)=some (l6.v)/\
 Br (decide ((l6.len:Int) > 0)) (
 zQb prog ds w λw2=>
 R (.returned (.int .i64 9)) w2) (
 zQb prog ds w λw3=>
 R (.returned (.int .i64 0)) w3)
theorem F68_p:Pl prog f68 [pS 0] F68_1:=λR=>
 lf
theorem xQz (p0:Option Addr) (w:World) (R:Rt) (h:F68_1 R p0 [] w):Calls prog 68 #[.pointer p0] w R:=
 plC F68_p func68 h
def F19_1(R:Rt)(p0:Option Addr)(ds:Ds)(w:World):Prop:=
 alE (.cells #[.int .i64 0,.slice none 0 0,.slice none 0 0] 35) w λr2 w1=>
 zQf p0 λa2=>
 ∃kf,w1.cell? (a2.add 0)=some (.int .i64 kf)/\
 ∃dC:SV,w1.cell? (a2.add 1)=some (dC.v)/\
 ∃dD:SV,w1.cell? (a2.add 2)=some (dD.v)/\
 Calls prog 71 #[.agg #[.int .i64 kf,dC.v,dD.v]] w1 λe w3=>
 ∃dG:Int,∃bY:SV,∃bD:SV,e=.returned (.agg #[.int .i64 dG,bY.v,bD.v])/\
 stA prog 35 (⟨r2,0,none⟩:Addr) #[.int .i64 dG,bY.v,bD.v] w3 λw4=>
 zQb prog ds w4 λw5=>
 ∃ag,w5.cell? ((⟨r2,0,none⟩:Addr).add 0)=some (.int .i64 ag)/\
 ∃ab:SV,w5.cell? ((⟨r2,0,none⟩:Addr).add 1)=some (ab.v)/\
 ∃ae:SV,w5.cell? ((⟨r2,0,none⟩:Addr).add 2)=some (ae.v)/\
 R (.returned (.agg #[.int .i64 ag,ab.v,ae.v])) w5
theorem F19_p:Pl prog f19 [pS 0] F19_1:=λR=>
 lf
theorem yYJ (p0:Option Addr) (w:World) (R:Rt) (h:F19_1 R p0 [] w):Calls prog 19 #[.pointer p0] w R:=
 plC F19_p func19 h
def F28_1(R:Rt)(p0:Option Addr)(n1:Int)(ds:Ds)(w:World):Prop:=
 alE (.cells #[.int .i64 0,.slice none 0 0,.slice none 0 0] 35) w λr4 w1=>
 Br (decide (n1<0)) (
 stA prog 35 (⟨r4,0,none⟩:Addr) #[.int .i64 0,.slice none 0 0,.slice none 0 0] w1 λw2=>
 zQb prog ds w2 λw3=>
 ∃ag,w3.cell? ((⟨r4,0,none⟩:Addr).add 0)=some (.int .i64 ag)/\
 ∃ab:SV,w3.cell? ((⟨r4,0,none⟩:Addr).add 1)=some (ab.v)/\
 ∃ae:SV,w3.cell? ((⟨r4,0,none⟩:Addr).add 2)=some (ae.v)/\
 R (.returned (.tuple #[.agg #[.int .i64 ag,ab.v,ae.v],.int .i64 1])) w3) (
 zQf p0 λa4=>
 ∃cA:SV,w1.cell? (a4.add 3)=some (cA.v)/\
 Br (decide (n1 >= (cA.len:Int))) (
 stA prog 35 (⟨r4,0,none⟩:Addr) #[.int .i64 0,.slice none 0 0,.slice none 0 0] w1 λw5=>
 zQb prog ds w5 λw6=>
 ∃ag,w6.cell? ((⟨r4,0,none⟩:Addr).add 0)=some (.int .i64 ag)/\
 ∃ab:SV,w6.cell? ((⟨r4,0,none⟩:Addr).add 1)=some (ab.v)/\
 ∃ae:SV,w6.cell? ((⟨r4,0,none⟩:Addr).add 2)=some (ae.v)/\
 R (.returned (.tuple #[.agg #[.int .i64 ag,ab.v,ae.v],.int .i64 1])) w6) (
 zQf p0 λa7=>
 ∃cz:SV,w1.cell? (a7.add 3)=some (cz.v)/\
 ∃a8,cz.a=some a8/\0<=n1/\n1<(cz.len:Int)/\
 ∃gH,w1.cell? ((a8.add (n1.toNat * 3)).add 0)=some (.int .i64 gH)/\
 ∃bx:SV,w1.cell? ((a8.add (n1.toNat * 3)).add 1)=some (bx.v)/\
 ∃c9:SV,w1.cell? ((a8.add (n1.toNat * 3)).add 2)=some (c9.v)/\
 Calls prog 71 #[.agg #[.int .i64 gH,bx.v,c9.v]] w1 λe w9=>
 ∃j2:Int,∃fK:SV,∃lD:SV,e=.returned (.agg #[.int .i64 j2,fK.v,lD.v])/\
 stA prog 35 (⟨r4,0,none⟩:Addr) #[.int .i64 j2,fK.v,lD.v] w9 λaP=>
 zQb prog ds aP λaU=>
 ∃ag,aU.cell? ((⟨r4,0,none⟩:Addr).add 0)=some (.int .i64 ag)/\
 ∃ab:SV,aU.cell? ((⟨r4,0,none⟩:Addr).add 1)=some (ab.v)/\
 ∃ae:SV,aU.cell? ((⟨r4,0,none⟩:Addr).add 2)=some (ae.v)/\
 R (.returned (.tuple #[.agg #[.int .i64 ag,ab.v,ae.v],.int .i64 0])) aU))
theorem F28_p:Pl prog f28 [pS 0,iS 1] F28_1:=λR=>
 lf
theorem xXI (p0:Option Addr) (n1:Int) (w:World) (R:Rt) (h:F28_1 R p0 n1 [] w):Calls prog 28 #[.pointer p0,.int .i64 n1] w R:=
 plC F28_p func28 h
def F23_1(R:Rt)(p0:Option Addr)(ds:Ds)(w:World):Prop:=
 zQf p0 λa1=>
 ∃l6:SV,w.cell? (a1.add 3)=some (l6.v)/\
 zQb prog ds w λw2=>
 R (.returned (.int .i64 (IntKind.i64.wrap ((l6.len:Int) - 1)))) w2
theorem F23_p:Pl prog f23 [pS 0] F23_1:=λR=>
 lf
theorem xQX (p0:Option Addr) (w:World) (R:Rt) (h:F23_1 R p0 [] w):Calls prog 23 #[.pointer p0] w R:=
 plC F23_p func23 h
def F26_1(R:Rt)(p0:Option Addr)(ds:Ds)(w:World):Prop:=
 dwE w λw1=>
 zQf p0 λa2=>
 ∃ij,w1.cell? (a2.add 0)=some (.int .i64 ij)/\
 ∃pP:SV,w1.cell? (a2.add 1)=some (pP.v)/\
 ∃iZ:SV,w1.cell? (a2.add 2)=some (iZ.v)/\
 zQf p0 λa3=>
 ∃cA:SV,w1.cell? (a3.add 3)=some (cA.v)/\
 zQf p0 λa4=>
 ∃cN:SV,w1.cell? (a4.add 3)=some (cN.v)/\
 ∃a5,cA.a=some a5/\0<=(IntKind.i64.wrap ((cN.len:Int) - 1))/\(IntKind.i64.wrap ((cN.len:Int) - 1))<(cA.len:Int)/\
 ∃cZ,w1.cell? ((a5.add ((IntKind.i64.wrap ((cN.len:Int) - 1)).toNat * 3)).add 0)=some (.int .i64 cZ)/\
 ∃cn:SV,w1.cell? ((a5.add ((IntKind.i64.wrap ((cN.len:Int) - 1)).toNat * 3)).add 1)=some (cn.v)/\
 ∃c8:SV,w1.cell? ((a5.add ((IntKind.i64.wrap ((cN.len:Int) - 1)).toNat * 3)).add 2)=some (c8.v)/\
 Calls prog 73 #[.agg #[.int .i64 ij,pP.v,iZ.v],.agg #[.int .i64 cZ,cn.v,c8.v]] w1 λe w6=>
 ∃lE:SV,∃o7:Int,e=.returned (.tuple #[lE.v,.int .i64 o7])/\
 zQb prog ds w6 λw7=>
 R (.returned (lE.v)) w7
theorem F26_p:Pl prog f26 [pS 0] F26_1:=λR=>
 lf
theorem xXY (p0:Option Addr) (w:World) (R:Rt) (h:F26_1 R p0 [] w):Calls prog 26 #[.pointer p0] w R:=
 plC F26_p func26 h
end Go.Proofs.YtaeecpjhfmcliaaGreatDoor
/- Shallow texts of functions, printed by program, each checked by the kernel against the loaded code. No condition. -/
namespace Go.Proofs.YtaeecpjhfmcliaaGreatDoor
open Go.Sh Tryz
def F15_1(R:Rt)(p1:Option Addr)(n3:Int)(ds:Ds)(w:World):Prop:=
 Br (decide (n3 > 131072)) (
 zQb prog ds w λw1=>
 R (.returned (.bool true)) w1) (
 zQf p1 λa2=>
 ∃l53:SV,w.cell? (a2.add 5)=some (l53.v)/\
 Br (decide ((l53.len:Int) > 80)) (
 zQb prog ds w λw3=>
 R (.returned (.bool true)) w3) (
 zQf p1 λa4=>
 ∃l60:SV,w.cell? (a4.add 2)=some (l60.v)/\
 zQb prog ds w λw5=>
 R (.returned (.bool (decide ((l60.len:Int) > 60)))) w5))
def F15_2 (R:Rt) (J1:(Int × Int)->World->Prop) (p1:Option Addr) (n3 n5:Int) (ds:Ds) (w:World):Prop:=
 zQf p1 λa6=>
 ∃gf:SV,w.cell? (a6.add 5)=some (gf.v)/\
 Br (decide (n5<(gf.len:Int))) (
 zQf p1 λa7=>
 ∃mZ:SV,w.cell? (a7.add 5)=some (mZ.v)/\
 ∃a8,mZ.a=some a8/\0<=n5/\n5<(mZ.len:Int)/\
 ∃s46,w.cell? ((a8.add (n5.toNat * 6)).add 4)=some (.string s46)/\
 J1 ((IntKind.i64.wrap (n3+(s46.size:Int))),(IntKind.i64.wrap (n5+1))) w) (
 F15_1 R p1 n3 ds w)
def F15_3(R:Rt)(p1:Option Addr)(n3 n5:Int)(ds:Ds)(w:World):Prop:=
 zQA (λ(J1:(Int × Int)->World->Prop) (s:Int × Int) (w:World)=>F15_2 R J1 p1 s.1 s.2 ds w) (n3,n5) w
def F15_5(R:Rt)(p1:Option Addr)(n3:Int)(ds:Ds)(w:World):Prop:=
 F15_3 R p1 n3 0 ds w
def F15_6 (R:Rt) (J1:(Int × Int)->World->Prop) (p1:Option Addr) (n3 n4:Int) (ds:Ds) (w:World):Prop:=
 zQf p1 λa9=>
 ∃cH:SV,w.cell? (a9.add 3)=some (cH.v)/\
 Br (decide (n4<(cH.len:Int))) (
 zQf p1 λdy=>
 ∃dS:SV,w.cell? (dy.add 3)=some (dS.v)/\
 ∃dI,dS.a=some dI/\0<=n4/\n4<(dS.len:Int)/\
 ∃oo:SV,w.cell? ((dI.add (n4.toNat * 2)).add 1)=some (oo.v)/\
 Calls prog 58 #[oo.v] w λe aQ=>
 ∃sP:Int,e=.returned (.int .i64 sP)/\
 J1 ((IntKind.i64.wrap (n3+sP)),(IntKind.i64.wrap (n4+1))) aQ) (
 F15_5 R p1 n3 ds w)
def F15_7(R:Rt)(p1:Option Addr)(n3 n4:Int)(ds:Ds)(w:World):Prop:=
 zQA (λ(J1:(Int × Int)->World->Prop) (s:Int × Int) (w:World)=>F15_6 R J1 p1 s.1 s.2 ds w) (n3,n4) w
def F15_9(R:Rt)(aw:Int)(ah ai bP bQ bR:SV)(ds:Ds)(w:World):Prop:=
 alE (.cells #[.int .i64 aw,ah.v,ai.v,bP.v,bQ.v,bR.v] 41) w λr1 aJ=>
 dwE aJ λbB=>
 ∃S1:World->Prop,S1 bB/\
 ∃dG,(∀w',S1 w'->w'.cell? ((⟨r1,0,none⟩:Addr).add 0)=some (.int .i64 dG))/\
 ∃bY:SV,(∀w',S1 w'->w'.cell? ((⟨r1,0,none⟩:Addr).add 1)=some (bY.v))/\
 ∃bD:SV,(∀w',S1 w'->w'.cell? ((⟨r1,0,none⟩:Addr).add 2)=some (bD.v))/\
 ∃dY:SV,(∀w',S1 w'->w'.cell? ((⟨r1,0,none⟩:Addr).add 4)=some (dY.v))/\
 ∃bV:SV,(∀w',S1 w'->w'.cell? ((⟨r1,0,none⟩:Addr).add 3)=some (bV.v))/\
 Calls prog 57 #[.agg #[.int .i64 dG,bY.v,bD.v]] bB λe bm=>
 ∃n8:Int,e=.returned (.int .i64 n8)/\
 S1 bm/\
 Calls prog 58 #[dY.v] bm λe bF=>
 ∃dx:Int,e=.returned (.int .i64 dx)/\
 S1 bF/\
 F15_7 R (some (⟨r1,0,none⟩:Addr)) (IntKind.i64.wrap ((IntKind.i64.wrap (n8+dx))+(bV.len:Int))) 0 ds bF
theorem F15_p:Pl prog f15 [aS 0 [.int .i64,.slice,.slice,.slice,.slice,.slice]] F15_9:=λR=>
 pc 3 (rest [pS 1,iS 3,iS 4] (F15_7 R) (bk 0 (rest [pS 1,iS 3] (F15_5 R) (pc 1 (rest [pS 1,iS 3,iS 5] (F15_3 R) (bk 2 (rest [pS 1,iS 3] (F15_1 R) lf) (lp [iS 3,iS 5] [pS 1,iS 3,iS 5] (F15_2 R) zXI λJ1=>lf))))) (lp [iS 3,iS 4] [pS 1,iS 3,iS 4] (F15_6 R) zXI λJ1=>lf)))
theorem yYT (aw:Int) (ah ai bP bQ bR:SV) (w:World) (R:Rt) (h:F15_9 R aw ah ai bP bQ bR [] w):Calls prog 15 #[.agg #[.int .i64 aw,ah.v,ai.v,bP.v,bQ.v,bR.v]] w R:=
 plC F15_p func15 h
end Go.Proofs.YtaeecpjhfmcliaaGreatDoor
/- Shallow texts of functions, printed by program, each checked by the kernel against the loaded code. No condition. -/
namespace Go.Proofs.YtaeecpjhfmcliaaGreatDoor
open Go.Sh Tryz
def F62_1(R:Rt)(aw:Int)(ah ai bP bQ bR:SV)(n1:Int)(ds:Ds)(w:World):Prop:=
 alE (.cells #[.int .i64 aw,ah.v,ai.v,bP.v,bQ.v,bR.v] 41) w λr2 w1=>
 alE (.cells #[.bool false,.slice none 0 0] 67) w1 λr4 w2=>
 Br (decide (n1<0)) (
 stA prog 67 (⟨r4,0,none⟩:Addr) #[.bool false,.slice none 0 0] w2 λw3=>
 zQb prog ds w3 λw4=>
 ∃bJ,w4.cell? ((⟨r4,0,none⟩:Addr).add 0)=some (.bool bJ)/\
 ∃ab:SV,w4.cell? ((⟨r4,0,none⟩:Addr).add 1)=some (ab.v)/\
 R (.returned (.agg #[.bool bJ,ab.v])) w4) (
 ∃dY:SV,w2.cell? ((⟨r2,0,none⟩:Addr).add 3)=some (dY.v)/\
 Br (decide (n1 >= (dY.len:Int))) (
 stA prog 67 (⟨r4,0,none⟩:Addr) #[.bool false,.slice none 0 0] w2 λw5=>
 zQb prog ds w5 λw6=>
 ∃bJ,w6.cell? ((⟨r4,0,none⟩:Addr).add 0)=some (.bool bJ)/\
 ∃ab:SV,w6.cell? ((⟨r4,0,none⟩:Addr).add 1)=some (ab.v)/\
 R (.returned (.agg #[.bool bJ,ab.v])) w6) (
 ∃dT:SV,w2.cell? ((⟨r2,0,none⟩:Addr).add 3)=some (dT.v)/\
 ∃a7,dT.a=some a7/\0<=n1/\n1<(dT.len:Int)/\
 ∃vi,w2.cell? ((a7.add (n1.toNat * 2)).add 0)=some (.bool vi)/\
 ∃fA:SV,w2.cell? ((a7.add (n1.toNat * 2)).add 1)=some (fA.v)/\
 stA prog 67 (⟨r4,0,none⟩:Addr) #[.bool vi,fA.v] w2 λw8=>
 zQb prog ds w8 λw9=>
 ∃bJ,w9.cell? ((⟨r4,0,none⟩:Addr).add 0)=some (.bool bJ)/\
 ∃ab:SV,w9.cell? ((⟨r4,0,none⟩:Addr).add 1)=some (ab.v)/\
 R (.returned (.agg #[.bool bJ,ab.v])) w9))
theorem F62_p:Pl prog f62 [aS 0 [.int .i64,.slice,.slice,.slice,.slice,.slice],iS 1] F62_1:=λR=>
 lf
theorem xQS (aw:Int) (ah ai bP bQ bR:SV) (n1:Int) (w:World) (R:Rt) (h:F62_1 R aw ah ai bP bQ bR n1 [] w):Calls prog 62 #[.agg #[.int .i64 aw,ah.v,ai.v,bP.v,bQ.v,bR.v],.int .i64 n1] w R:=
 plC F62_p func62 h
def F66_1(R:Rt)(aw:Int)(ah ai bP bQ bR:SV)(n1:Int)(ds:Ds)(w:World):Prop:=
 alE (.cells #[.int .i64 aw,ah.v,ai.v,bP.v,bQ.v,bR.v] 41) w λr2 w1=>
 alE (.cells #[.int .i64 0,.int .i64 0,.string (⟨#[]⟩:ByteArray)] 73) w1 λr4 w2=>
 Br (decide (n1<0)) (
 stA prog 73 (⟨r4,0,none⟩:Addr) #[.int .i64 0,.int .i64 0,.string (⟨#[]⟩:ByteArray)] w2 λw3=>
 zQb prog ds w3 λw4=>
 ∃ag,w4.cell? ((⟨r4,0,none⟩:Addr).add 0)=some (.int .i64 ag)/\
 ∃aj,w4.cell? ((⟨r4,0,none⟩:Addr).add 1)=some (.int .i64 aj)/\
 ∃ak,w4.cell? ((⟨r4,0,none⟩:Addr).add 2)=some (.string ak)/\
 R (.returned (.agg #[.int .i64 ag,.int .i64 aj,.string ak])) w4) (
 ∃dY:SV,w2.cell? ((⟨r2,0,none⟩:Addr).add 4)=some (dY.v)/\
 Br (decide (n1 >= (dY.len:Int))) (
 stA prog 73 (⟨r4,0,none⟩:Addr) #[.int .i64 0,.int .i64 0,.string (⟨#[]⟩:ByteArray)] w2 λw5=>
 zQb prog ds w5 λw6=>
 ∃ag,w6.cell? ((⟨r4,0,none⟩:Addr).add 0)=some (.int .i64 ag)/\
 ∃aj,w6.cell? ((⟨r4,0,none⟩:Addr).add 1)=some (.int .i64 aj)/\
 ∃ak,w6.cell? ((⟨r4,0,none⟩:Addr).add 2)=some (.string ak)/\
 R (.returned (.agg #[.int .i64 ag,.int .i64 aj,.string ak])) w6) (
 ∃dT:SV,w2.cell? ((⟨r2,0,none⟩:Addr).add 4)=some (dT.v)/\
 ∃a7,dT.a=some a7/\0<=n1/\n1<(dT.len:Int)/\
 ∃dK,w2.cell? ((a7.add (n1.toNat * 3)).add 0)=some (.int .i64 dK)/\
 ∃co,w2.cell? ((a7.add (n1.toNat * 3)).add 1)=some (.int .i64 co)/\
 ∃jz,w2.cell? ((a7.add (n1.toNat * 3)).add 2)=some (.string jz)/\
 stA prog 73 (⟨r4,0,none⟩:Addr) #[.int .i64 dK,.int .i64 co,.string jz] w2 λw8=>
 zQb prog ds w8 λw9=>
 ∃ag,w9.cell? ((⟨r4,0,none⟩:Addr).add 0)=some (.int .i64 ag)/\
 ∃aj,w9.cell? ((⟨r4,0,none⟩:Addr).add 1)=some (.int .i64 aj)/\
 ∃ak,w9.cell? ((⟨r4,0,none⟩:Addr).add 2)=some (.string ak)/\
 R (.returned (.agg #[.int .i64 ag,.int .i64 aj,.string ak])) w9))
theorem F66_p:Pl prog f66 [aS 0 [.int .i64,.slice,.slice,.slice,.slice,.slice],iS 1] F66_1:=λR=>
 lf
theorem yYV (aw:Int) (ah ai bP bQ bR:SV) (n1:Int) (w:World) (R:Rt) (h:F66_1 R aw ah ai bP bQ bR n1 [] w):Calls prog 66 #[.agg #[.int .i64 aw,ah.v,ai.v,bP.v,bQ.v,bR.v],.int .i64 n1] w R:=
 plC F66_p func66 h
end Go.Proofs.YtaeecpjhfmcliaaGreatDoor
/- Shallow texts of functions, printed by program, each checked by the kernel against the loaded code. No condition. -/
namespace Go.Proofs.YtaeecpjhfmcliaaGreatDoor
open Go.Sh Tryz
def F44_1(R:Rt)(p2 p3:Option Addr)(ds:Ds)(w:World):Prop:=
 zQf p3 λa1=>
 ∃eQ,w.cell? (a1.add 0)=some (.int .i64 eQ)/\
 ∃bt:SV,w.cell? (a1.add 1)=some (bt.v)/\
 ∃cS:SV,w.cell? (a1.add 2)=some (cS.v)/\
 zQf p2 λa2=>
 stA prog 35 a2 #[.int .i64 eQ,bt.v,cS.v] w λw3=>
 zQb prog ds w3 λw4=>
 zQf p2 λa5=>
 ∃ag,w4.cell? (a5.add 0)=some (.int .i64 ag)/\
 ∃ab:SV,w4.cell? (a5.add 1)=some (ab.v)/\
 ∃ae:SV,w4.cell? (a5.add 2)=some (ae.v)/\
 R (.returned (.agg #[.int .i64 ag,ab.v,ae.v])) w4
def F44_2 (R:Rt) (J1:(Int)->World->Prop) (l0:SV) (p2 p3:Option Addr) (n4:Int) (ds:Ds) (w:World):Prop:=
 Br (decide (n4<(l0.len:Int))) (
 dwE w λw6=>
 ∃S1:World->Prop,S1 w6/\
 zQf p3 λa7=>
 ∃e7:SV,(∀w',S1 w'->w'.cell? (a7.add 2)=some (e7.v))/\
 ∃a8,l0.a=some a8/\0<=n4/\n4<(l0.len:Int)/\
 ∃iR,(∀w',S1 w'->w'.cell? (a8.add (n4.toNat * 1))=some (.int .i64 iR))/\
 Calls prog 45 #[.int .i64 iR] w6 λe w9=>
 ∃gl:Int,∃eM:Int,∃gm:ByteArray,e=.returned (.agg #[.int .i64 gl,.int .i64 eM,.string gm])/\
 S1 w9/\
 alE (.cells #[.int .i64 gl,.int .i64 eM,.string gm] 73) w9 λr21 aP=>
 S1 aP/\
 alE (.cells #[.bool false,.slice (some ⟨r21,0,none⟩) 1 1] 67) aP λr23 aU=>
 S1 aU/\
 ∃bZ:SV,∃aQ,(Builtin.append_ #[33,33] 33 #[e7.v,.slice (some ⟨r23,0,none⟩) 1 1]).run prog aU=.ok (bZ.v) aQ/\
 zQf p3 λkN=>
 st1 (kN.add 2) (bZ.v) aQ λbB=>
 J1 (IntKind.i64.wrap (n4+1)) bB) (
 F44_1 R p2 p3 ds w)
def F44_3(R:Rt)(l0:SV)(p2 p3:Option Addr)(n4:Int)(ds:Ds)(w:World):Prop:=
 zQA (λ(J1:(Int)->World->Prop) (s:Int) (w:World)=>F44_2 R J1 l0 p2 p3 s ds w) n4 w
def F44_5(R:Rt)(l0:SV)(ds:Ds)(w:World):Prop:=
 alE (.cells #[.int .i64 0,.slice none 0 0,.slice none 0 0] 35) w λr2 bm=>
 alE (.cells #[.string (⟨#[78]⟩:ByteArray),.int .i64 2,.int .i64 3,.bool false] 129) bm λr6 bF=>
 alE (.cells #[.int .i64 0,.slice none 0 0,.slice none 0 0] 35) bF λr3 bH=>
 stA prog 35 (⟨r3,0,none⟩:Addr) #[.int .i64 0,.slice (some ⟨r6,0,none⟩) 1 1,.slice none 0 0] bH λbU=>
 F44_3 R l0 (some (⟨r2,0,none⟩:Addr)) (some (⟨r3,0,none⟩:Addr)) 0 ds bU
theorem F44_p:Pl prog f44 [lS 0] F44_5:=λR=>
 pc 3 (rest [lS 0,pS 2,pS 3,iS 4] (F44_3 R) (bk 0 (rest [pS 2,pS 3] (F44_1 R) lf) (lp [iS 4] [lS 0,pS 2,pS 3,iS 4] (F44_2 R) zXI λJ1=>lf)))
theorem xQg (l0:SV) (w:World) (R:Rt) (h:F44_5 R l0 [] w):Calls prog 44 #[l0.v] w R:=
 plC F44_p func44 h
def yZ5(R:Rt)(p1:Option Addr)(b44:Bool)(ds:Ds)(w:World):Prop:=
 Br b44 (
 zQb prog ds w λw1=>
 R (.returned (.bool false)) w1) (
 Calls prog 27 #[.pointer p1,.int .i64 1] w λe w2=>
 ∃eY:Int,∃ia:SV,∃ib:SV,∃cu:Int,e=.returned (.tuple #[.agg #[.int .i64 eY,ia.v,ib.v],.int .i64 cu])/\
 alE (.cells #[.int .i64 0,.slice none 0 0,.slice none 0 0] 35) w2 λr3 w3=>
 stA prog 35 (⟨r3,0,none⟩:Addr) #[.int .i64 eY,ia.v,ib.v] w3 λw4=>
 dwE w4 λw5=>
 ∃S1:World->Prop,S1 w5/\
 Br (cu == 0) (
 Calls prog 22 #[.pointer p1] w5 λe w6=>
 ∃n54:Int,e=.returned (.int .i64 n54)/\
 S1 w6/\
 Br (n54 == 1) (
 ∃vj,(∀w',S1 w'->w'.cell? ((⟨r3,0,none⟩:Addr).add 0)=some (.int .i64 vj))/\
 ∃lF:SV,(∀w',S1 w'->w'.cell? ((⟨r3,0,none⟩:Addr).add 1)=some (lF.v))/\
 ∃lG:SV,(∀w',S1 w'->w'.cell? ((⟨r3,0,none⟩:Addr).add 2)=some (lG.v))/\
 alE (.cells #[.int .i64 5,.int .i64 2] 3) w6 λr59 w7=>
 S1 w7/\
 Calls prog 44 #[.slice (some ⟨r59,0,none⟩) 2 2] w7 λe w8=>
 ∃vk:Int,∃lH:SV,∃lI:SV,e=.returned (.agg #[.int .i64 vk,lH.v,lI.v])/\
 S1 w8/\
 Calls prog 18 #[.agg #[.int .i64 vj,lF.v,lG.v],.agg #[.int .i64 vk,lH.v,lI.v]] w8 λe w9=>
 ∃yn:Bool,e=.returned (.bool yn)/\
 S1 w9/\
 Br yn (
 ∃nM,(∀w',S1 w'->w'.cell? ((⟨r3,0,none⟩:Addr).add 0)=some (.int .i64 nM))/\
 ∃lJ:SV,(∀w',S1 w'->w'.cell? ((⟨r3,0,none⟩:Addr).add 1)=some (lJ.v))/\
 ∃lK:SV,(∀w',S1 w'->w'.cell? ((⟨r3,0,none⟩:Addr).add 2)=some (lK.v))/\
 Calls prog 14 #[.pointer p1] w9 λe aP=>
 ∃vm:Int,∃lL:SV,∃lM:SV,e=.returned (.agg #[.int .i64 vm,lL.v,lM.v])/\
 S1 aP/\
 Calls prog 18 #[.agg #[.int .i64 vm,lL.v,lM.v],.agg #[.int .i64 nM,lJ.v,lK.v]] aP λe aU=>
 ∃tn:Bool,e=.returned (.bool tn)/\
 zQb prog ds aU λaQ=>
 R (.returned (.bool tn)) aQ) (
 zQb prog ds w9 λaJ=>
 R (.returned (.bool false)) aJ)) (
 zQb prog ds w6 λbB=>
 R (.returned (.bool false)) bB)) (
 zQb prog ds w5 λbm=>
 R (.returned (.bool false)) bm))
def F10_2(R:Rt)(p1:Option Addr)(n2:Int)(ds:Ds)(w:World):Prop:=
 Br (n2 != 0) (
 yZ5 R p1 true ds w) (
 Calls prog 35 #[.pointer p1] w λe bF=>
 ∃kB:Int,e=.returned (.int .i64 kB)/\
 Br (kB != 0) (
 yZ5 R p1 true ds bF) (
 Calls prog 45 #[.int .i64 5] bF λe bH=>
 ∃gl:Int,∃eM:Int,∃gm:ByteArray,e=.returned (.agg #[.int .i64 gl,.int .i64 eM,.string gm])/\
 Calls prog 40 #[.pointer p1,.int .i64 1,.string (⟨#[78]⟩:ByteArray),.agg #[.int .i64 gl,.int .i64 eM,.string gm]] bH λe bU=>
 ∃jO:Int,e=.returned (.int .i64 jO)/\
 Br (jO != 0) (
 yZ5 R p1 true ds bU) (
 Calls prog 35 #[.pointer p1] bU λe cM=>
 ∃cv:Int,e=.returned (.int .i64 cv)/\
 Br (cv != 0) (
 yZ5 R p1 true ds cM) (
 Calls prog 45 #[.int .i64 6] cM λe bT=>
 ∃bC:Int,∃gy:Int,∃nu:ByteArray,e=.returned (.agg #[.int .i64 bC,.int .i64 gy,.string nu])/\
 Calls prog 40 #[.pointer p1,.int .i64 2,.string (⟨#[78]⟩:ByteArray),.agg #[.int .i64 bC,.int .i64 gy,.string nu]] bT λe bX=>
 ∃o1:Int,e=.returned (.int .i64 o1)/\
 Br (o1 != 0) (
 yZ5 R p1 true ds bX) (
 Calls prog 37 #[.pointer p1] bX λe df=>
 ∃io:Int,e=.returned (.int .i64 io)/\
 Br (io != 0) (
 yZ5 R p1 true ds df) (
 Calls prog 36 #[.pointer p1] df λe dU=>
 ∃od:Int,e=.returned (.int .i64 od)/\
 yZ5 R p1 (od != 0) ds dU))))))
def F10_3(R:Rt)(ds:Ds)(w:World):Prop:=
 alE (.cells #[.int .i64 1,.int .i64 2] 3) w λr6 dw=>
 Calls prog 44 #[.slice (some ⟨r6,0,none⟩) 2 2] dw λe dH=>
 ∃dG:Int,∃bY:SV,∃bD:SV,e=.returned (.agg #[.int .i64 dG,bY.v,bD.v])/\
 Calls prog 43 #[.agg #[.int .i64 dG,bY.v,bD.v]] dH λe fj=>
 ∃zq:Option Addr,∃kL:Int,e=.returned (.tuple #[.pointer zq,.int .i64 kL])/\
 F10_2 R zq kL ds fj
theorem F10_p:Pl prog f10 [] F10_3:=λR=>
 pc 2 (rest [pS 1,iS 2] (F10_2 R) (pc 1 (rest [pS 1,bS 44] (yZ5 R) lf)))
theorem xZd  (w:World) (R:Rt) (h:F10_3 R [] w):Calls prog 10 #[] w R:=
 plC F10_p func10 h
end Go.Proofs.YtaeecpjhfmcliaaGreatDoor
/- Shallow texts of functions, printed by program, each checked by the kernel against the loaded code. No condition. -/
namespace Go.Proofs.YtaeecpjhfmcliaaGreatDoor
open Go.Sh Tryz
def F17_1(R:Rt)(p0 p1:Option Addr)(dk:Int)(bI nO nP nQ nR:SV)(iJ gv oB sq:Int)(sr ss:ByteArray)(ds:Ds)(w:World):Prop:=
 alE (.cells #[.int .i64 dk,bI.v,nO.v,nP.v,nQ.v,nR.v] 41) w λr6 w1=>
 alE (.cells #[.int .i64 iJ,.int .i64 gv,.int .i64 oB,.int .i64 sq,.string sr,.string ss] 48) w1 λr7 w2=>
 ∃mG,w2.cell? (⟨r7,0,none⟩:Addr)=some (.int .i64 mG)/\
 Br (mG == 0) (
 Calls prog 35 #[.pointer p0] w2 λe w3=>
 ∃iC:Int,e=.returned (.int .i64 iC)/\
 Calls prog 59 #[.pointer p1] w3 λe w4=>
 ∃jh:Int,e=.returned (.int .i64 jh)/\
 zQb prog ds w4 λw5=>
 R (.returned (.bool (iC == jh))) w5) (
 Br (mG == 1) (
 Calls prog 36 #[.pointer p0] w2 λe w6=>
 ∃cw:Int,e=.returned (.int .i64 cw)/\
 Calls prog 60 #[.pointer p1] w6 λe w7=>
 ∃gi:Int,e=.returned (.int .i64 gi)/\
 zQb prog ds w7 λw8=>
 R (.returned (.bool (cw == gi))) w8) (
 Br (mG == 2) (
 Calls prog 37 #[.pointer p0] w2 λe w9=>
 ∃o1:Int,e=.returned (.int .i64 o1)/\
 Calls prog 61 #[.pointer p1] w9 λe aP=>
 ∃qS:Int,e=.returned (.int .i64 qS)/\
 zQb prog ds aP λaU=>
 R (.returned (.bool (o1 == qS))) aU) (
 Br (mG == 3) (
 ∃vo,w2.cell? ((⟨r6,0,none⟩:Addr).add 0)=some (.int .i64 vo)/\
 ∃lN:SV,w2.cell? ((⟨r6,0,none⟩:Addr).add 1)=some (lN.v)/\
 ∃lO:SV,w2.cell? ((⟨r6,0,none⟩:Addr).add 2)=some (lO.v)/\
 ∃lP:SV,w2.cell? ((⟨r6,0,none⟩:Addr).add 3)=some (lP.v)/\
 ∃lQ:SV,w2.cell? ((⟨r6,0,none⟩:Addr).add 4)=some (lQ.v)/\
 ∃lR:SV,w2.cell? ((⟨r6,0,none⟩:Addr).add 5)=some (lR.v)/\
 ∃od,w2.cell? ((⟨r7,0,none⟩:Addr).add 2)=some (.int .i64 od)/\
 Calls prog 62 #[.agg #[.int .i64 vo,lN.v,lO.v,lP.v,lQ.v,lR.v],.int .i64 od] w2 λe aQ=>
 ∃vp:Bool,∃lT:SV,e=.returned (.agg #[.bool vp,lT.v])/\
 Calls prog 34 #[.pointer p0,.agg #[.bool vp,lT.v]] aQ λe aJ=>
 ∃vq:Int,∃np:Int,e=.returned (.tuple #[.int .i64 vq,.int .i64 np])/\
 ∃gq,aJ.cell? ((⟨r6,0,none⟩:Addr).add 0)=some (.int .i64 gq)/\
 ∃lU:SV,aJ.cell? ((⟨r6,0,none⟩:Addr).add 1)=some (lU.v)/\
 ∃lV:SV,aJ.cell? ((⟨r6,0,none⟩:Addr).add 2)=some (lV.v)/\
 ∃lW:SV,aJ.cell? ((⟨r6,0,none⟩:Addr).add 3)=some (lW.v)/\
 ∃lX:SV,aJ.cell? ((⟨r6,0,none⟩:Addr).add 4)=some (lX.v)/\
 ∃lY:SV,aJ.cell? ((⟨r6,0,none⟩:Addr).add 5)=some (lY.v)/\
 ∃ov,aJ.cell? ((⟨r7,0,none⟩:Addr).add 2)=some (.int .i64 ov)/\
 Calls prog 62 #[.agg #[.int .i64 gq,lU.v,lV.v,lW.v,lX.v,lY.v],.int .i64 ov] aJ λe bB=>
 ∃vr:Bool,∃fR:SV,e=.returned (.agg #[.bool vr,fR.v])/\
 Calls prog 63 #[.pointer p1,.agg #[.bool vr,fR.v]] bB λe bm=>
 ∃gr:Int,∃gt:Int,e=.returned (.tuple #[.int .i64 gr,.int .i64 gt])/\
 Br (vq == gr) (
 zQb prog ds bm λbF=>
 R (.returned (.bool (np == gt))) bF) (
 zQb prog ds bm λbH=>
 R (.returned (.bool false)) bH)) (
 Br (mG == 4) (
 dwE w2 λbU=>
 ∃S1:World->Prop,S1 bU/\
 ∃xW,(∀w',S1 w'->w'.cell? ((⟨r7,0,none⟩:Addr).add 1)=some (.int .i64 xW))/\
 ∃vt,(∀w',S1 w'->w'.cell? ((⟨r6,0,none⟩:Addr).add 0)=some (.int .i64 vt))/\
 ∃fv:SV,(∀w',S1 w'->w'.cell? ((⟨r6,0,none⟩:Addr).add 1)=some (fv.v))/\
 ∃lZ:SV,(∀w',S1 w'->w'.cell? ((⟨r6,0,none⟩:Addr).add 2)=some (lZ.v))/\
 ∃mc:SV,(∀w',S1 w'->w'.cell? ((⟨r6,0,none⟩:Addr).add 3)=some (mc.v))/\
 ∃md:SV,(∀w',S1 w'->w'.cell? ((⟨r6,0,none⟩:Addr).add 4)=some (md.v))/\
 ∃me:SV,(∀w',S1 w'->w'.cell? ((⟨r6,0,none⟩:Addr).add 5)=some (me.v))/\
 ∃sk,(∀w',S1 w'->w'.cell? ((⟨r7,0,none⟩:Addr).add 2)=some (.int .i64 sk))/\
 ∃n76,(∀w',S1 w'->w'.cell? ((⟨r7,0,none⟩:Addr).add 1)=some (.int .i64 n76))/\
 ∃vu,(∀w',S1 w'->w'.cell? ((⟨r6,0,none⟩:Addr).add 0)=some (.int .i64 vu))/\
 ∃mf:SV,(∀w',S1 w'->w'.cell? ((⟨r6,0,none⟩:Addr).add 1)=some (mf.v))/\
 ∃mg:SV,(∀w',S1 w'->w'.cell? ((⟨r6,0,none⟩:Addr).add 2)=some (mg.v))/\
 ∃mh:SV,(∀w',S1 w'->w'.cell? ((⟨r6,0,none⟩:Addr).add 3)=some (mh.v))/\
 ∃mi:SV,(∀w',S1 w'->w'.cell? ((⟨r6,0,none⟩:Addr).add 4)=some (mi.v))/\
 ∃mj:SV,(∀w',S1 w'->w'.cell? ((⟨r6,0,none⟩:Addr).add 5)=some (mj.v))/\
 ∃n79,(∀w',S1 w'->w'.cell? ((⟨r7,0,none⟩:Addr).add 2)=some (.int .i64 n79))/\
 Calls prog 62 #[.agg #[.int .i64 vt,fv.v,lZ.v,mc.v,md.v,me.v],.int .i64 sk] bU λe cM=>
 ∃vv:Bool,∃ml:SV,e=.returned (.agg #[.bool vv,ml.v])/\
 S1 cM/\
 Calls prog 38 #[.pointer p0,.int .i64 xW,.agg #[.bool vv,ml.v]] cM λe bT=>
 ∃n73:Int,e=.returned (.int .i64 n73)/\
 S1 bT/\
 Calls prog 62 #[.agg #[.int .i64 vu,mf.v,mg.v,mh.v,mi.v,mj.v],.int .i64 n79] bT λe bX=>
 ∃vw:Bool,∃mm:SV,e=.returned (.agg #[.bool vw,mm.v])/\
 S1 bX/\
 Calls prog 64 #[.pointer p1,.int .i64 n76,.agg #[.bool vw,mm.v]] bX λe df=>
 ∃n81:Int,e=.returned (.int .i64 n81)/\
 zQb prog ds df λdU=>
 R (.returned (.bool (n73 == n81))) dU) (
 Br (mG == 5) (
 dwE w2 λdw=>
 ∃S2:World->Prop,S2 dw/\
 ∃n87,(∀w',S2 w'->w'.cell? ((⟨r7,0,none⟩:Addr).add 1)=some (.int .i64 n87))/\
 ∃xo,(∀w',S2 w'->w'.cell? ((⟨r7,0,none⟩:Addr).add 3)=some (.int .i64 xo))/\
 ∃n94,(∀w',S2 w'->w'.cell? ((⟨r7,0,none⟩:Addr).add 1)=some (.int .i64 n94))/\
 ∃n96,(∀w',S2 w'->w'.cell? ((⟨r7,0,none⟩:Addr).add 3)=some (.int .i64 n96))/\
 Calls prog 39 #[.pointer p0,.int .i64 n87,.bool (xo != 0)] dw λe dH=>
 ∃n91:Int,e=.returned (.int .i64 n91)/\
 S2 dH/\
 Calls prog 65 #[.pointer p1,.int .i64 n94,.bool (n96 != 0)] dH λe fj=>
 ∃n98:Int,e=.returned (.int .i64 n98)/\
 zQb prog ds fj λiq=>
 R (.returned (.bool (n91 == n98))) iq) (
 Br (mG == 6) (
 dwE w2 λeg=>
 ∃S3:World->Prop,S3 eg/\
 ∃zr,(∀w',S3 w'->w'.cell? ((⟨r7,0,none⟩:Addr).add 1)=some (.int .i64 zr))/\
 ∃zt,(∀w',S3 w'->w'.cell? ((⟨r7,0,none⟩:Addr).add 4)=some (.string zt))/\
 ∃rg,(∀w',S3 w'->w'.cell? ((⟨r6,0,none⟩:Addr).add 0)=some (.int .i64 rg))/\
 ∃i0:SV,(∀w',S3 w'->w'.cell? ((⟨r6,0,none⟩:Addr).add 1)=some (i0.v))/\
 ∃i5:SV,(∀w',S3 w'->w'.cell? ((⟨r6,0,none⟩:Addr).add 2)=some (i5.v))/\
 ∃i6:SV,(∀w',S3 w'->w'.cell? ((⟨r6,0,none⟩:Addr).add 3)=some (i6.v))/\
 ∃i7:SV,(∀w',S3 w'->w'.cell? ((⟨r6,0,none⟩:Addr).add 4)=some (i7.v))/\
 ∃i8:SV,(∀w',S3 w'->w'.cell? ((⟨r6,0,none⟩:Addr).add 5)=some (i8.v))/\
 ∃zu,(∀w',S3 w'->w'.cell? ((⟨r7,0,none⟩:Addr).add 2)=some (.int .i64 zu))/\
 ∃zv,(∀w',S3 w'->w'.cell? ((⟨r7,0,none⟩:Addr).add 1)=some (.int .i64 zv))/\
 ∃zw,(∀w',S3 w'->w'.cell? ((⟨r7,0,none⟩:Addr).add 4)=some (.string zw))/\
 ∃rh,(∀w',S3 w'->w'.cell? ((⟨r6,0,none⟩:Addr).add 0)=some (.int .i64 rh))/\
 ∃bn:SV,(∀w',S3 w'->w'.cell? ((⟨r6,0,none⟩:Addr).add 1)=some (bn.v))/\
 ∃i9:SV,(∀w',S3 w'->w'.cell? ((⟨r6,0,none⟩:Addr).add 2)=some (i9.v))/\
 ∃ja:SV,(∀w',S3 w'->w'.cell? ((⟨r6,0,none⟩:Addr).add 3)=some (ja.v))/\
 ∃jb:SV,(∀w',S3 w'->w'.cell? ((⟨r6,0,none⟩:Addr).add 4)=some (jb.v))/\
 ∃jc:SV,(∀w',S3 w'->w'.cell? ((⟨r6,0,none⟩:Addr).add 5)=some (jc.v))/\
 ∃zy,(∀w',S3 w'->w'.cell? ((⟨r7,0,none⟩:Addr).add 2)=some (.int .i64 zy))/\
 Calls prog 66 #[.agg #[.int .i64 rg,i0.v,i5.v,i6.v,i7.v,i8.v],.int .i64 zu] eg λe fm=>
 ∃ri:Int,∃rj:Int,∃rk:ByteArray,e=.returned (.agg #[.int .i64 ri,.int .i64 rj,.string rk])/\
 S3 fm/\
 Calls prog 40 #[.pointer p0,.int .i64 zr,.string zt,.agg #[.int .i64 ri,.int .i64 rj,.string rk]] fm λe ir=>
 ∃zA:Int,e=.returned (.int .i64 zA)/\
 S3 ir/\
 Calls prog 66 #[.agg #[.int .i64 rh,bn.v,i9.v,ja.v,jb.v,jc.v],.int .i64 zy] ir λe gu=>
 ∃rm:Int,∃ro:Int,∃rp:ByteArray,e=.returned (.agg #[.int .i64 rm,.int .i64 ro,.string rp])/\
 S3 gu/\
 Calls prog 67 #[.pointer p1,.int .i64 zv,.string zw,.agg #[.int .i64 rm,.int .i64 ro,.string rp]] gu λe gd=>
 ∃zB:Int,e=.returned (.int .i64 zB)/\
 zQb prog ds gd λfU=>
 R (.returned (.bool (zA == zB))) fU) (
 Calls prog 41 #[.pointer p0] w2 λe fV=>
 ∃rq:Int,e=.returned (.int .i64 rq)/\
 Calls prog 68 #[.pointer p1] fV λe iT=>
 ∃zC:Int,e=.returned (.int .i64 zC)/\
 zQb prog ds iT λpY=>
 R (.returned (.bool (rq == zC))) pY)))))))
theorem F17_p:Pl prog f17 [pS 0,pS 1,aS 2 [.int .i64,.slice,.slice,.slice,.slice,.slice],aS 3 [.int .i64,.int .i64,.int .i64,.int .i64,.str,.str]] F17_1:=λR=>
 lf
theorem xXv (p0 p1:Option Addr) (dk:Int) (bI nO nP nQ nR:SV) (iJ gv oB sq:Int) (sr ss:ByteArray) (w:World) (R:Rt) (h:F17_1 R p0 p1 dk bI nO nP nQ nR iJ gv oB sq sr ss [] w):Calls prog 17 #[.pointer p0,.pointer p1,.agg #[.int .i64 dk,bI.v,nO.v,nP.v,nQ.v,nR.v],.agg #[.int .i64 iJ,.int .i64 gv,.int .i64 oB,.int .i64 sq,.string sr,.string ss]] w R:=
 plC F17_p func17 h
def F16_1(R:Rt)(aw:Int)(ah ai bP bQ bR:SV)(ds:Ds)(w:World):Prop:=
 alE (.cells #[.int .i64 aw,ah.v,ai.v,bP.v,bQ.v,bR.v] 41) w λr1 w1=>
 ∃jK,w1.cell? ((⟨r1,0,none⟩:Addr).add 0)=some (.int .i64 jK)/\
 ∃db:SV,w1.cell? ((⟨r1,0,none⟩:Addr).add 1)=some (db.v)/\
 ∃dc:SV,w1.cell? ((⟨r1,0,none⟩:Addr).add 2)=some (dc.v)/\
 Calls prog 43 #[.agg #[.int .i64 jK,db.v,dc.v]] w1 λe w2=>
 ∃rt:Option Addr,∃ed:Int,e=.returned (.tuple #[.pointer rt,.int .i64 ed])/\
 ∃gn,w2.cell? ((⟨r1,0,none⟩:Addr).add 0)=some (.int .i64 gn)/\
 ∃cX:SV,w2.cell? ((⟨r1,0,none⟩:Addr).add 1)=some (cX.v)/\
 ∃cY:SV,w2.cell? ((⟨r1,0,none⟩:Addr).add 2)=some (cY.v)/\
 Calls prog 42 #[.agg #[.int .i64 gn,cX.v,cY.v]] w2 λe w3=>
 ∃vA:Option Addr,∃f7:Int,e=.returned (.tuple #[.pointer vA,.int .i64 f7])/\
 Br (ed != f7) (
 zQb prog ds w3 λw4=>
 R (.returned (.tuple #[.pointer none,.pointer none,.bool false])) w4) (
 ∃pZ:Bool,∃w5,(eqS .eql 24 (.tmp 25) (.const (.pointer none)) (.pointer rt) (.pointer none)).run prog w3=.ok (.bool pZ) w5/\
 Br (!(pZ == (ed != 0))) (
 zQb prog ds w5 λw6=>
 R (.returned (.tuple #[.pointer none,.pointer none,.bool false])) w6) (
 zQb prog ds w5 λw7=>
 R (.returned (.tuple #[.pointer rt,.pointer vA,.bool true])) w7))
theorem F16_p:Pl prog f16 [aS 0 [.int .i64,.slice,.slice,.slice,.slice,.slice]] F16_1:=λR=>
 lf
theorem xQ1 (aw:Int) (ah ai bP bQ bR:SV) (w:World) (R:Rt) (h:F16_1 R aw ah ai bP bQ bR [] w):Calls prog 16 #[.agg #[.int .i64 aw,ah.v,ai.v,bP.v,bQ.v,bR.v]] w R:=
 plC F16_p func16 h
end Go.Proofs.YtaeecpjhfmcliaaGreatDoor
/- Shallow texts of functions, printed by program, each checked by the kernel against the loaded code. No condition. -/
namespace Go.Proofs.YtaeecpjhfmcliaaGreatDoor
open Go.Sh Tryz
end Go.Proofs.YtaeecpjhfmcliaaGreatDoor
/- Shallow texts of functions, printed by program, each checked by the kernel against the loaded code. No condition. -/
namespace Go.Proofs.YtaeecpjhfmcliaaGreatDoor
open Go.Sh Tryz
end Go.Proofs.YtaeecpjhfmcliaaGreatDoor
/- Shallow texts of functions, printed by program, each checked by the kernel against the loaded code. No condition. -/
namespace Go.Proofs.YtaeecpjhfmcliaaGreatDoor
open Go.Sh Tryz
end Go.Proofs.YtaeecpjhfmcliaaGreatDoor
/- Shallow texts of functions, printed by program, each checked by the kernel against the loaded code. No condition. -/
namespace Go.Proofs.YtaeecpjhfmcliaaGreatDoor
open Go.Sh Tryz
def F4_1(R:Rt)(ds:Ds)(w:World):Prop:=
 Calls prog 10 #[] w λe w1=>
 ∃zD:Bool,e=.returned (.bool zD)/\
 zQb prog ds w1 λw2=>
 R (.returned (.bool zD)) w2
def F4_2 (R:Rt) (J1:(Int)->World->Prop) (p3:Option Addr) (eI:SV) (cK:Int) (ds:Ds) (w:World):Prop:=
 Br (decide (cK<(eI.len:Int))) (
 dwE w λw3=>
 ∃S1:World->Prop,S1 w3/\
 ∃a4,eI.a=some a4/\0<=cK/\cK<(eI.len:Int)/\
 ∃rq,(∀w',S1 w'->w'.cell? (a4.add (cK.toNat * 1))=some (.int .i64 rq))/\
 Br (decide (rq<0)) (
 zQb prog ds w3 λw5=>
 R (.returned (.bool false)) w5) (
 ∃a6,eI.a=some a6/\0<=cK/\cK<(eI.len:Int)/\
 ∃zE,(∀w',S1 w'->w'.cell? (a6.add (cK.toNat * 1))=some (.int .i64 zE))/\
 Calls prog 30 #[.pointer p3] w3 λe w7=>
 ∃zF:Int,e=.returned (.int .i64 zF)/\
 S1 w7/\
 Br (decide (zE > zF)) (
 zQb prog ds w7 λw8=>
 R (.returned (.bool false)) w8) (
 Br (decide (cK > 0)) (
 ∃a9,eI.a=some a9/\0<=cK/\cK<(eI.len:Int)/\
 ∃zG,(∀w',S1 w'->w'.cell? (a9.add (cK.toNat * 1))=some (.int .i64 zG))/\
 ∃dy,eI.a=some dy/\0<=(IntKind.i64.wrap (cK - 1))/\(IntKind.i64.wrap (cK - 1))<(eI.len:Int)/\
 ∃zH,(∀w',S1 w'->w'.cell? (dy.add ((IntKind.i64.wrap (cK - 1)).toNat * 1))=some (.int .i64 zH))/\
 Br (decide (zG<zH)) (
 zQb prog ds w7 λaU=>
 R (.returned (.bool false)) aU) (
 J1 (IntKind.i64.wrap (cK+1)) w7)) (
 J1 (IntKind.i64.wrap (cK+1)) w7)))) (
 F4_1 R ds w)
def F4_3(R:Rt)(p3:Option Addr)(eI:SV)(cK:Int)(ds:Ds)(w:World):Prop:=
 zQA (λ(J1:(Int)->World->Prop) (s:Int) (w:World)=>F4_2 R J1 p3 eI s ds w) cK w
def F4_5(R:Rt)(p3 p4:Option Addr)(ds:Ds)(w:World):Prop:=
 Calls prog 29 #[.pointer p3] w λe aQ=>
 ∃rv:SV,e=.returned (rv.v)/\
 Calls prog 23 #[.pointer p4] aQ λe aJ=>
 ∃zI:Int,e=.returned (.int .i64 zI)/\
 Br ((rv.len:Int) != zI) (
 zQb prog ds aJ λbB=>
 R (.returned (.bool false)) bB) (
 F4_3 R p3 rv 0 ds aJ)
def F4_6 (R:Rt) (J1:(Int)->World->Prop) (p3 p4:Option Addr) (n7:Int) (ds:Ds) (w:World):Prop:=
 Calls prog 23 #[.pointer p4] w λe bm=>
 ∃xY:Int,e=.returned (.int .i64 xY)/\
 Br (decide (n7<=(IntKind.i64.wrap (xY+1)))) (
 Calls prog 27 #[.pointer p3,.int .i64 n7] bm λe bF=>
 ∃pq:Int,∃ic:SV,∃ie:SV,∃eL:Int,e=.returned (.tuple #[.agg #[.int .i64 pq,ic.v,ie.v],.int .i64 eL])/\
 alE (.cells #[.int .i64 0,.slice none 0 0,.slice none 0 0] 35) bF λr8 bH=>
 stA prog 35 (⟨r8,0,none⟩:Addr) #[.int .i64 pq,ic.v,ie.v] bH λbU=>
 Calls prog 28 #[.pointer p4,.int .i64 n7] bU λe cM=>
 ∃pr:Int,∃ig:SV,∃ii:SV,∃vB:Int,e=.returned (.tuple #[.agg #[.int .i64 pr,ig.v,ii.v],.int .i64 vB])/\
 alE (.cells #[.int .i64 0,.slice none 0 0,.slice none 0 0] 35) cM λdu bT=>
 stA prog 35 (⟨du,0,none⟩:Addr) #[.int .i64 pr,ig.v,ii.v] bT λbX=>
 ∃vC,bX.cell? ((⟨r8,0,none⟩:Addr).add 0)=some (.int .i64 vC)/\
 ∃mn:SV,bX.cell? ((⟨r8,0,none⟩:Addr).add 1)=some (mn.v)/\
 ∃mo:SV,bX.cell? ((⟨r8,0,none⟩:Addr).add 2)=some (mo.v)/\
 ∃rx,bX.cell? ((⟨du,0,none⟩:Addr).add 0)=some (.int .i64 rx)/\
 ∃jd:SV,bX.cell? ((⟨du,0,none⟩:Addr).add 1)=some (jd.v)/\
 ∃je:SV,bX.cell? ((⟨du,0,none⟩:Addr).add 2)=some (je.v)/\
 Calls prog 18 #[.agg #[.int .i64 vC,mn.v,mo.v],.agg #[.int .i64 rx,jd.v,je.v]] bX λe df=>
 ∃zJ:Bool,e=.returned (.bool zJ)/\
 Br (!zJ) (
 zQb prog ds df λdU=>
 R (.returned (.bool false)) dU) (
 Br (eL != vB) (
 zQb prog ds df λdw=>
 R (.returned (.bool false)) dw) (
 J1 (IntKind.i64.wrap (n7+1)) df))) (
 F4_5 R p3 p4 ds bm)
def F4_7(R:Rt)(p3 p4:Option Addr)(n7:Int)(ds:Ds)(w:World):Prop:=
 zQA (λ(J1:(Int)->World->Prop) (s:Int) (w:World)=>F4_6 R J1 p3 p4 s ds w) n7 w
def F4_9(R:Rt)(p3 p4:Option Addr)(ds:Ds)(w:World):Prop:=
 F4_7 R p3 p4 (-1) ds w
def F4_10 (R:Rt) (J1:(Int)->World->Prop) (p1 p3 p4:Option Addr) (n6:Int) (ds:Ds) (w:World):Prop:=
 J1 (IntKind.i64.wrap (n6+1)) w
def xYG (R:Rt) (J1:(Int)->World->Prop) (p1 p3 p4:Option Addr) (n6:Int) (ds:Ds) (w:World):Prop:=
 dwE w λdH=>
 zQf p1 λql=>
 ∃vD,dH.cell? (ql.add 0)=some (.int .i64 vD)/\
 ∃mp:SV,dH.cell? (ql.add 1)=some (mp.v)/\
 ∃mq:SV,dH.cell? (ql.add 2)=some (mq.v)/\
 ∃mr:SV,dH.cell? (ql.add 3)=some (mr.v)/\
 ∃ms:SV,dH.cell? (ql.add 4)=some (ms.v)/\
 ∃mt:SV,dH.cell? (ql.add 5)=some (mt.v)/\
 zQf p1 λxX=>
 ∃qm:SV,dH.cell? (xX.add 5)=some (qm.v)/\
 ∃qP,qm.a=some qP/\0<=n6/\n6<(qm.len:Int)/\
 ∃vE,dH.cell? ((qP.add (n6.toNat * 6)).add 0)=some (.int .i64 vE)/\
 ∃cu,dH.cell? ((qP.add (n6.toNat * 6)).add 1)=some (.int .i64 cu)/\
 ∃gp,dH.cell? ((qP.add (n6.toNat * 6)).add 2)=some (.int .i64 gp)/\
 ∃vF,dH.cell? ((qP.add (n6.toNat * 6)).add 3)=some (.int .i64 vF)/\
 ∃vG,dH.cell? ((qP.add (n6.toNat * 6)).add 4)=some (.string vG)/\
 ∃vH,dH.cell? ((qP.add (n6.toNat * 6)).add 5)=some (.string vH)/\
 Calls prog 17 #[.pointer p3,.pointer p4,.agg #[.int .i64 vD,mp.v,mq.v,mr.v,ms.v,mt.v],.agg #[.int .i64 vE,.int .i64 cu,.int .i64 gp,.int .i64 vF,.string vG,.string vH]] dH λe fm=>
 ∃b48:Bool,e=.returned (.bool b48)/\
 Br (!b48) (
 zQb prog ds fm λir=>
 R (.returned (.bool false)) ir) (
 Calls prog 14 #[.pointer p3] fm λe gu=>
 ∃vI:Int,∃fR:SV,∃mv:SV,e=.returned (.agg #[.int .i64 vI,fR.v,mv.v])/\
 Calls prog 19 #[.pointer p4] gu λe gd=>
 ∃jJ:Int,∃mw:SV,∃fN:SV,e=.returned (.agg #[.int .i64 jJ,mw.v,fN.v])/\
 Calls prog 18 #[.agg #[.int .i64 vI,fR.v,mv.v],.agg #[.int .i64 jJ,mw.v,fN.v]] gd λe fU=>
 ∃b55:Bool,e=.returned (.bool b55)/\
 Br (!b55) (
 zQb prog ds fU λfV=>
 R (.returned (.bool false)) fV) (
 Calls prog 20 #[.pointer p3] fU λe iT=>
 ∃n60:Int,e=.returned (.int .i64 n60)/\
 Calls prog 21 #[.pointer p4] iT λe pY=>
 ∃n62:Int,e=.returned (.int .i64 n62)/\
 Br (n60 != n62) (
 zQb prog ds pY λnn=>
 R (.returned (.bool false)) nn) (
 Calls prog 22 #[.pointer p3] pY λe na=>
 ∃n67:Int,e=.returned (.int .i64 n67)/\
 Calls prog 23 #[.pointer p4] na λe jU=>
 ∃n69:Int,e=.returned (.int .i64 n69)/\
 Br (n67 != n69) (
 zQb prog ds jU λqG=>
 R (.returned (.bool false)) qG) (
 Calls prog 25 #[.pointer p3] jU λe qd=>
 ∃xy:SV,e=.returned (xy.v)/\
 Calls prog 26 #[.pointer p4] qd λe wo=>
 ∃kb:SV,e=.returned (kb.v)/\
 Calls prog 24 #[xy.v,kb.v] wo λe oV=>
 ∃b77:Bool,e=.returned (.bool b77)/\
 Br (!b77) (
 zQb prog ds oV λkz=>
 R (.returned (.bool false)) kz) (
 F4_10 R J1 p1 p3 p4 n6 ds oV)))))
def F4_12 (R:Rt) (J1:(Int)->World->Prop) (p1 p3 p4:Option Addr) (n6:Int) (ds:Ds) (w:World):Prop:=
 zQf p1 λsb=>
 ∃gf:SV,w.cell? (sb.add 5)=some (gf.v)/\
 Br (decide (n6<(gf.len:Int))) (
 xYG R J1 p1 p3 p4 n6 ds w) (
 F4_9 R p3 p4 ds w)
def F4_13(R:Rt)(p1 p3 p4:Option Addr)(n6:Int)(ds:Ds)(w:World):Prop:=
 zQA (λ(J1:(Int)->World->Prop) (s:Int) (w:World)=>F4_12 R J1 p1 p3 p4 s ds w) n6 w
def F4_15(R:Rt)(aw:Int)(ah ai bP bQ bR:SV)(ds:Ds)(w:World):Prop:=
 alE (.cells #[.int .i64 aw,ah.v,ai.v,bP.v,bQ.v,bR.v] 41) w λr1 fo=>
 ∃jE,fo.cell? ((⟨r1,0,none⟩:Addr).add 0)=some (.int .i64 jE)/\
 ∃cb:SV,fo.cell? ((⟨r1,0,none⟩:Addr).add 1)=some (cb.v)/\
 ∃cQ:SV,fo.cell? ((⟨r1,0,none⟩:Addr).add 2)=some (cQ.v)/\
 ∃mx:SV,fo.cell? ((⟨r1,0,none⟩:Addr).add 3)=some (mx.v)/\
 ∃my:SV,fo.cell? ((⟨r1,0,none⟩:Addr).add 4)=some (my.v)/\
 ∃mz:SV,fo.cell? ((⟨r1,0,none⟩:Addr).add 5)=some (mz.v)/\
 Calls prog 15 #[.agg #[.int .i64 jE,cb.v,cQ.v,mx.v,my.v,mz.v]] fo λe o9=>
 ∃iN:Bool,e=.returned (.bool iN)/\
 Br iN (
 Calls prog 10 #[] o9 λe kA=>
 ∃iQ:Bool,e=.returned (.bool iQ)/\
 zQb prog ds kA λsY=>
 R (.returned (.bool iQ)) sY) (
 ∃eO,o9.cell? ((⟨r1,0,none⟩:Addr).add 0)=some (.int .i64 eO)/\
 ∃br:SV,o9.cell? ((⟨r1,0,none⟩:Addr).add 1)=some (br.v)/\
 ∃ck:SV,o9.cell? ((⟨r1,0,none⟩:Addr).add 2)=some (ck.v)/\
 ∃mA:SV,o9.cell? ((⟨r1,0,none⟩:Addr).add 3)=some (mA.v)/\
 ∃mB:SV,o9.cell? ((⟨r1,0,none⟩:Addr).add 4)=some (mB.v)/\
 ∃mC:SV,o9.cell? ((⟨r1,0,none⟩:Addr).add 5)=some (mC.v)/\
 Calls prog 16 #[.agg #[.int .i64 eO,br.v,ck.v,mA.v,mB.v,mC.v]] o9 λe rS=>
 ∃rz:Option Addr,∃vJ:Option Addr,∃pv:Bool,e=.returned (.tuple #[.pointer rz,.pointer vJ,.bool pv])/\
 Br (!pv) (
 Br pv (
 Calls prog 10 #[] rS λe w51=>
 ∃zK:Bool,e=.returned (.bool zK)/\
 zQb prog ds w51 λw52=>
 R (.returned (.bool zK)) w52) (
 zQb prog ds rS λrO=>
 R (.returned (.bool false)) rO)) (
 ∃b27:Bool,∃qz,(eqS .eql 24 (.tmp 26) (.const (.pointer none)) (.pointer rz) (.pointer none)).run prog rS=.ok (.bool b27) qz/\
 Br b27 (
 Br pv (
 Calls prog 10 #[] qz λe qR=>
 ∃zK:Bool,e=.returned (.bool zK)/\
 zQb prog ds qR λxm=>
 R (.returned (.bool zK)) xm) (
 zQb prog ds qz λwj=>
 R (.returned (.bool false)) wj)) (
 F4_13 R (some (⟨r1,0,none⟩:Addr)) rz vJ 0 ds qz)))
theorem F4_p:Pl prog f4 [aS 0 [.int .i64,.slice,.slice,.slice,.slice,.slice]] F4_15:=λR=>
 pc 7 (rest [pS 1,pS 3,pS 4,iS 6] (F4_13 R) (bk 0 (rest [pS 3,pS 4] (F4_9 R) (pc 1 (rest [pS 3,pS 4,iS 7] (F4_7 R) (bk 2 (rest [pS 3,pS 4] (F4_5 R) (pc 4 (rest [pS 3,lS 12,iS 13] (F4_3 R) (bk 4 (rest [] (F4_1 R) lf) (lp [iS 13] [pS 3,lS 12,iS 13] (F4_2 R) zXI λJ1=>lf))))) (lp [iS 7] [pS 3,pS 4,iS 7] (F4_6 R) zXI λJ1=>lf))))) (lp [iS 6] [pS 1,pS 3,pS 4,iS 6] (F4_12 R) zXI λJ1=>pc 2 (rest [pS 1,pS 3,pS 4,iS 6] (xYG R J1) (pc 1 (rest [pS 1,pS 3,pS 4,iS 6] (F4_10 R J1) lf))))))
theorem xJu (aw:Int) (ah ai bP bQ bR:SV) (w:World) (R:Rt) (h:F4_15 R aw ah ai bP bQ bR [] w):Calls prog 4 #[.agg #[.int .i64 aw,ah.v,ai.v,bP.v,bQ.v,bR.v]] w R:=
 plC F4_p func4 h
end Go.Proofs.YtaeecpjhfmcliaaGreatDoor
