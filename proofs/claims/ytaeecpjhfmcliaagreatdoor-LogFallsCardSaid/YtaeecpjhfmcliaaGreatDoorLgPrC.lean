import Derived.Test.YtaeecpjhfmcliaaGreatDoorProg
import Derived.Test.YtaeecpjhfmcliaaGreatDoorShTwentyEight
/- Shallow texts of functions, printed by program, each checked by the kernel against the loaded code. No condition. -/
set_option maxRecDepth 100000
set_option linter.unusedVariables false
namespace Go.Proofs.YtaeecpjhfmcliaaGreatDoor
open Go.Sh Tryz
def F42_1(R:Rt)(au:Int)(ah ai:SV)(ds:Ds)(w:World):Prop:=
 alE (.cells #[.int .i64 au,ah.v,ai.v] 35) w λr1 w1=>
 ∃iO,w1.cell? ((⟨r1,0,none⟩:Addr).add 0)=some (.int .i64 iO)/\
 ∃dz:SV,w1.cell? ((⟨r1,0,none⟩:Addr).add 1)=some (dz.v)/\
 ∃cz:SV,w1.cell? ((⟨r1,0,none⟩:Addr).add 2)=some (cz.v)/\
 Calls prog 13 #[.agg #[.int .i64 iO,dz.v,cz.v]] w1 λe w2=>
 ∃n6:Int,e=.returned (.int .i64 n6)/\
 Br (n6 != 0) (
 zQb prog ds w2 λw3=>
 R (.returned (.tuple #[.pointer none,.int .i64 n6])) w3) (
 dwE w2 λw4=>
 ∃S1:World->Prop,S1 w4/\
 ∃eW,(∀w',S1 w'->w'.cell? ((⟨r1,0,none⟩:Addr).add 0)=some (.int .i64 eW))/\
 ∃bv:SV,(∀w',S1 w'->w'.cell? ((⟨r1,0,none⟩:Addr).add 1)=some (bv.v))/\
 ∃bw:SV,(∀w',S1 w'->w'.cell? ((⟨r1,0,none⟩:Addr).add 2)=some (bw.v))/\
 ∃gL,(∀w',S1 w'->w'.cell? ((⟨r1,0,none⟩:Addr).add 0)=some (.int .i64 gL))/\
 ∃dc:SV,(∀w',S1 w'->w'.cell? ((⟨r1,0,none⟩:Addr).add 1)=some (dc.v))/\
 ∃dd:SV,(∀w',S1 w'->w'.cell? ((⟨r1,0,none⟩:Addr).add 2)=some (dd.v))/\
 Calls prog 71 #[.agg #[.int .i64 eW,bv.v,bw.v]] w4 λe w5=>
 ∃jR:Int,∃de:SV,∃df:SV,e=.returned (.agg #[.int .i64 jR,de.v,df.v])/\
 S1 w5/\
 Calls prog 71 #[.agg #[.int .i64 gL,dc.v,dd.v]] w5 λe w6=>
 ∃vi:Int,∃lI:SV,∃lJ:SV,e=.returned (.agg #[.int .i64 vi,lI.v,lJ.v])/\
 alE (.cells #[.int .i64 vi,lI.v,lJ.v] 35) w6 λaL w7=>
 alE (.cells #[.int .i64 jR,de.v,df.v,.slice (some ⟨aL,0,none⟩) 1 1,.slice none 0 0] 115) w7 λzu w8=>
 zQb prog ds w8 λw9=>
 R (.returned (.tuple #[.pointer (some (⟨zu,0,none⟩:Addr)),.int .i64 0])) w9)
theorem F42_p:Pl prog f42 [aS 0 [.int .i64,.slice,.slice]] F42_1:=λR=>
 lf
theorem xZf (au:Int) (ah ai:SV) (w:World) (R:Rt) (h:F42_1 R au ah ai [] w):Calls prog 42 #[.agg #[.int .i64 au,ah.v,ai.v]] w R:=
 plC F42_p func42 h
def F99_1(R:Rt)(p0:Option Addr)(ds:Ds)(w:World):Prop:=
 dwE w λw1=>
 zQg p0 λa2=>
 ∃l5:SV,w1.cell? (a2.add 4)=some (l5.v)/\
 Br ((l5.len:Int) == 0) (
 zQg p0 λa3=>
 ∃gL,w1.cell? (a3.add 0)=some (.int .i64 gL)/\
 ∃dc:SV,w1.cell? (a3.add 1)=some (dc.v)/\
 ∃dd:SV,w1.cell? (a3.add 2)=some (dd.v)/\
 zQg p0 λa4=>
 ∃dv:SV,w1.cell? (a4.add 3)=some (dv.v)/\
 zQg p0 λa5=>
 ∃dW:SV,w1.cell? (a5.add 3)=some (dW.v)/\
 ∃a6,dv.a=some a6/\0<=(IntKind.i64.wrap ((dW.len:Int) - 1))/\(IntKind.i64.wrap ((dW.len:Int) - 1))<(dv.len:Int)/\
 ∃jL,w1.cell? ((a6.add ((IntKind.i64.wrap ((dW.len:Int) - 1)).toNat * 3)).add 0)=some (.int .i64 jL)/\
 ∃cf:SV,w1.cell? ((a6.add ((IntKind.i64.wrap ((dW.len:Int) - 1)).toNat * 3)).add 1)=some (cf.v)/\
 ∃fN:SV,w1.cell? ((a6.add ((IntKind.i64.wrap ((dW.len:Int) - 1)).toNat * 3)).add 2)=some (fN.v)/\
 Calls prog 18 #[.agg #[.int .i64 gL,dc.v,dd.v],.agg #[.int .i64 jL,cf.v,fN.v]] w1 λe w7=>
 ∃oW:Bool,e=.returned (.bool oW)/\
 Br (!oW) (
 dwE w7 λw8=>
 ∃S2:World->Prop,S2 w8/\
 zQg p0 λa9=>
 ∃im:SV,(∀w',S2 w'->w'.cell? (a9.add 3)=some (im.v))/\
 zQg p0 λeE=>
 ∃gP,(∀w',S2 w'->w'.cell? (eE.add 0)=some (.int .i64 gP))/\
 ∃cc:SV,(∀w',S2 w'->w'.cell? (eE.add 1)=some (cc.v))/\
 ∃ce:SV,(∀w',S2 w'->w'.cell? (eE.add 2)=some (ce.v))/\
 Calls prog 71 #[.agg #[.int .i64 gP,cc.v,ce.v]] w8 λe aR=>
 ∃gu:Int,∃cV:SV,∃cW:SV,e=.returned (.agg #[.int .i64 gu,cV.v,cW.v])/\
 S2 aR/\
 alE (.cells #[.int .i64 gu,cV.v,cW.v] 35) aR λr38 aM=>
 S2 aM/\
 ∃iM:SV,∃aH,(Builtin.append_ #[106,106] 106 #[im.v,.slice (some ⟨r38,0,none⟩) 1 1]).run prog aM=.ok (iM.v) aH/\
 zQg p0 λga=>
 st1 (ga.add 3) (iM.v) aH λbt=>
 zQb prog ds bt λbB=>
 R (.returned (.tuple #[])) bB) (
 zQb prog ds w7 λbG=>
 R (.returned (.tuple #[])) bG)) (
 zQb prog ds w1 λbI=>
 R (.returned (.tuple #[])) bI)
theorem F99_p:Pl prog f99 [pS 0] F99_1:=λR=>
 lf
theorem xQb (p0:Option Addr) (w:World) (R:Rt) (h:F99_1 R p0 [] w):Calls prog 99 #[.pointer p0] w R:=
 plC F99_p func99 h
def F59_1(R:Rt)(p0:Option Addr)(ds:Ds)(w:World):Prop:=
 zQg p0 λa1=>
 ∃l6:SV,w.cell? (a1.add 4)=some (l6.v)/\
 Br (decide ((l6.len:Int) >= 8)) (
 zQb prog ds w λw2=>
 R (.returned (.int .i64 3)) w2) (
 dwE w λw3=>
 ∃S1:World->Prop,S1 w3/\
 zQg p0 λa4=>
 ∃cy:SV,(∀w',S1 w'->w'.cell? (a4.add 4)=some (cy.v))/\
 zQg p0 λa5=>
 ∃gw,(∀w',S1 w'->w'.cell? (a5.add 0)=some (.int .i64 gw))/\
 ∃cX:SV,(∀w',S1 w'->w'.cell? (a5.add 1)=some (cX.v))/\
 ∃cY:SV,(∀w',S1 w'->w'.cell? (a5.add 2)=some (cY.v))/\
 Calls prog 71 #[.agg #[.int .i64 gw,cX.v,cY.v]] w3 λe w6=>
 ∃gv:Int,∃bV:SV,∃cZ:SV,e=.returned (.agg #[.int .i64 gv,bV.v,cZ.v])/\
 S1 w6/\
 alE (.cells #[.int .i64 gv,bV.v,cZ.v] 35) w6 λr19 w7=>
 S1 w7/\
 ∃dW:SV,∃w8,(Builtin.append_ #[106,106] 106 #[cy.v,.slice (some ⟨r19,0,none⟩) 1 1]).run prog w7=.ok (dW.v) w8/\
 zQg p0 λa9=>
 st1 (a9.add 4) (dW.v) w8 λaO=>
 zQb prog ds aO λaR=>
 R (.returned (.int .i64 0)) aR)
theorem F59_p:Pl prog f59 [pS 0] F59_1:=λR=>
 lf
theorem yYJ (p0:Option Addr) (w:World) (R:Rt) (h:F59_1 R p0 [] w):Calls prog 59 #[.pointer p0] w R:=
 plC F59_p func59 h
def F60_1(R:Rt)(p0:Option Addr)(ds:Ds)(w:World):Prop:=
 zQg p0 λa1=>
 ∃l6:SV,w.cell? (a1.add 4)=some (l6.v)/\
 Br ((l6.len:Int) == 0) (
 zQb prog ds w λw2=>
 R (.returned (.int .i64 9)) w2) (
 dwE w λw3=>
 zQg p0 λa4=>
 ∃cy:SV,w3.cell? (a4.add 4)=some (cy.v)/\
 zQg p0 λa5=>
 ∃dH:SV,w3.cell? (a5.add 4)=some (dH.v)/\
 0<=(IntKind.i64.wrap ((dH.len:Int) - 1))/\(IntKind.i64.wrap ((dH.len:Int) - 1)).toNat<=cy.cap/\0<=(IntKind.i64.wrap ((dH.len:Int) - 1)).toNat/\
 zQg p0 λa6=>
 st1 (a6.add 4) (.slice (if cy.cap=0 then cy.a else cy.a.map (λx=>x.add (0 * 3))) ((IntKind.i64.wrap ((dH.len:Int) - 1)).toNat - 0) (cy.cap - 0)) w3 λw7=>
 Calls prog 99 #[.pointer p0] w7 λe w8=>
 e=.returned (.tuple #[])/\
 zQb prog ds w8 λw9=>
 R (.returned (.int .i64 0)) w9)
theorem F60_p:Pl prog f60 [pS 0] F60_1:=λR=>
 lf
theorem xZi (p0:Option Addr) (w:World) (R:Rt) (h:F60_1 R p0 [] w):Calls prog 60 #[.pointer p0] w R:=
 plC F60_p func60 h
def F61_1(R:Rt)(p0:Option Addr)(ds:Ds)(w:World):Prop:=
 zQg p0 λa1=>
 ∃l6:SV,w.cell? (a1.add 4)=some (l6.v)/\
 Br ((l6.len:Int) == 0) (
 zQb prog ds w λw2=>
 R (.returned (.int .i64 9)) w2) (
 dwE w λw3=>
 zQg p0 λa4=>
 ∃cy:SV,w3.cell? (a4.add 4)=some (cy.v)/\
 zQg p0 λa5=>
 ∃dH:SV,w3.cell? (a5.add 4)=some (dH.v)/\
 ∃a6,cy.a=some a6/\0<=(IntKind.i64.wrap ((dH.len:Int) - 1))/\(IntKind.i64.wrap ((dH.len:Int) - 1))<(cy.len:Int)/\
 ∃dM,w3.cell? ((a6.add ((IntKind.i64.wrap ((dH.len:Int) - 1)).toNat * 3)).add 0)=some (.int .i64 dM)/\
 ∃c8:SV,w3.cell? ((a6.add ((IntKind.i64.wrap ((dH.len:Int) - 1)).toNat * 3)).add 1)=some (c8.v)/\
 ∃fM:SV,w3.cell? ((a6.add ((IntKind.i64.wrap ((dH.len:Int) - 1)).toNat * 3)).add 2)=some (fM.v)/\
 zQg p0 λa7=>
 stA prog 35 a7 #[.int .i64 dM,c8.v,fM.v] w3 λw8=>
 dwE w8 λw9=>
 zQg p0 λeE=>
 ∃ez:SV,w9.cell? (eE.add 4)=some (ez.v)/\
 zQg p0 λdV=>
 ∃im:SV,w9.cell? (dV.add 4)=some (im.v)/\
 0<=(IntKind.i64.wrap ((im.len:Int) - 1))/\(IntKind.i64.wrap ((im.len:Int) - 1)).toNat<=ez.cap/\0<=(IntKind.i64.wrap ((im.len:Int) - 1)).toNat/\
 zQg p0 λkF=>
 st1 (kF.add 4) (.slice (if ez.cap=0 then ez.a else ez.a.map (λx=>x.add (0 * 3))) ((IntKind.i64.wrap ((im.len:Int) - 1)).toNat - 0) (ez.cap - 0)) w9 λaH=>
 zQb prog ds aH λbo=>
 R (.returned (.int .i64 0)) bo)
theorem F61_p:Pl prog f61 [pS 0] F61_1:=λR=>
 lf
theorem xXk (p0:Option Addr) (w:World) (R:Rt) (h:F61_1 R p0 [] w):Calls prog 61 #[.pointer p0] w R:=
 plC F61_p func61 h
def xKV(R:Rt)(p0:Option Addr)(n1:Int)(ds:Ds)(w:World):Prop:=
 Br (decide (n1 >= 1)) (
 zQg p0 λa1=>
 ∃cy:SV,w.cell? (a1.add 2)=some (cy.v)/\
 zQb prog ds w λw2=>
 R (.returned (.bool (decide (n1<=(cy.len:Int))))) w2) (
 zQb prog ds w λw3=>
 R (.returned (.bool false)) w3)
theorem F101_p:Pl prog f101 [pS 0,iS 1] xKV:=λR=>
 lf
theorem yVh (p0:Option Addr) (n1:Int) (w:World) (R:Rt) (h:xKV R p0 n1 [] w):Calls prog 101 #[.pointer p0,.int .i64 n1] w R:=
 plC F101_p func101 h
def xV1(R:Rt)(p0:Option Addr)(n1:Int)(gc:Bool)(bJ:SV)(ds:Ds)(w:World):Prop:=
 alE (.cells #[.bool gc,bJ.v] 67) w λr5 w1=>
 zQg p0 λa2=>
 ∃eW,w1.cell? (a2.add 0)=some (.int .i64 eW)/\
 ∃bv:SV,w1.cell? (a2.add 1)=some (bv.v)/\
 ∃bw:SV,w1.cell? (a2.add 2)=some (bw.v)/\
 Calls prog 71 #[.agg #[.int .i64 eW,bv.v,bw.v]] w1 λe w3=>
 ∃jR:Int,∃de:SV,∃df:SV,e=.returned (.agg #[.int .i64 jR,de.v,df.v])/\
 alE (.cells #[.int .i64 0,.slice none 0 0,.slice none 0 0] 35) w3 λr6 w4=>
 stA prog 35 (⟨r6,0,none⟩:Addr) #[.int .i64 jR,de.v,df.v] w4 λw5=>
 ∃bP:SV,w5.cell? ((⟨r6,0,none⟩:Addr).add 2)=some (bP.v)/\
 Br (decide (n1 > (bP.len:Int))) (
 ∃du:SV,w5.cell? ((⟨r6,0,none⟩:Addr).add 2)=some (du.v)/\
 alE (.cells #[.bool false,.slice none 0 0] 67) w5 λr20 w6=>
 ∃cJ:SV,∃w7,(Builtin.append_ #[33,33] 33 #[du.v,.slice (some ⟨r20,0,none⟩) 1 1]).run prog w6=.ok (cJ.v) w7/\
 st1 ((⟨r6,0,none⟩:Addr).add 2) (cJ.v) w7 λw8=>
 dwE w8 λw9=>
 ∃S1:World->Prop,S1 w9/\
 ∃bU:SV,(∀w',S1 w'->w'.cell? ((⟨r6,0,none⟩:Addr).add 2)=some (bU.v))/\
 ∃gQ,(∀w',S1 w'->w'.cell? ((⟨r5,0,none⟩:Addr).add 0)=some (.bool gQ))/\
 ∃cg:SV,(∀w',S1 w'->w'.cell? ((⟨r5,0,none⟩:Addr).add 1)=some (cg.v))/\
 Calls prog 102 #[.agg #[.bool gQ,cg.v]] w9 λe aO=>
 ∃dF:Bool,∃be:SV,e=.returned (.agg #[.bool dF,be.v])/\
 S1 aO/\
 ∃dV,bU.a=some dV/\0<=(IntKind.i64.wrap (n1 - 1))/\(IntKind.i64.wrap (n1 - 1))<(bU.len:Int)/\
 stA prog 67 (dV.add ((IntKind.i64.wrap (n1 - 1)).toNat * 2)) #[.bool dF,be.v] aO λaM=>
 ∃bK,aM.cell? ((⟨r6,0,none⟩:Addr).add 0)=some (.int .i64 bK)/\
 ∃aP:SV,aM.cell? ((⟨r6,0,none⟩:Addr).add 1)=some (aP.v)/\
 ∃aQ:SV,aM.cell? ((⟨r6,0,none⟩:Addr).add 2)=some (aQ.v)/\
 zQg p0 λkV=>
 stA prog 35 kV #[.int .i64 bK,aP.v,aQ.v] aM λbo=>
 Calls prog 99 #[.pointer p0] bo λe bt=>
 e=.returned (.tuple #[])/\
 zQb prog ds bt λbB=>
 R (.returned (.tuple #[])) bB) (
 dwE w5 λbG=>
 ∃S2:World->Prop,S2 bG/\
 ∃bU:SV,(∀w',S2 w'->w'.cell? ((⟨r6,0,none⟩:Addr).add 2)=some (bU.v))/\
 ∃gQ,(∀w',S2 w'->w'.cell? ((⟨r5,0,none⟩:Addr).add 0)=some (.bool gQ))/\
 ∃cg:SV,(∀w',S2 w'->w'.cell? ((⟨r5,0,none⟩:Addr).add 1)=some (cg.v))/\
 Calls prog 102 #[.agg #[.bool gQ,cg.v]] bG λe bI=>
 ∃dF:Bool,∃be:SV,e=.returned (.agg #[.bool dF,be.v])/\
 S2 bI/\
 ∃kH,bU.a=some kH/\0<=(IntKind.i64.wrap (n1 - 1))/\(IntKind.i64.wrap (n1 - 1))<(bU.len:Int)/\
 stA prog 67 (kH.add ((IntKind.i64.wrap (n1 - 1)).toNat * 2)) #[.bool dF,be.v] bI λbO=>
 ∃bK,bO.cell? ((⟨r6,0,none⟩:Addr).add 0)=some (.int .i64 bK)/\
 ∃aP:SV,bO.cell? ((⟨r6,0,none⟩:Addr).add 1)=some (aP.v)/\
 ∃aQ:SV,bO.cell? ((⟨r6,0,none⟩:Addr).add 2)=some (aQ.v)/\
 zQg p0 λa21=>
 stA prog 35 a21 #[.int .i64 bK,aP.v,aQ.v] bO λd7=>
 Calls prog 99 #[.pointer p0] d7 λe dU=>
 e=.returned (.tuple #[])/\
 zQb prog ds dU λdD=>
 R (.returned (.tuple #[])) dD)
theorem F100_p:Pl prog f100 [pS 0,iS 1,aS 2 [.bool,.slice]] xV1:=λR=>
 lf
theorem yVT (p0:Option Addr) (n1:Int) (gc:Bool) (bJ:SV) (w:World) (R:Rt) (h:xV1 R p0 n1 gc bJ [] w):Calls prog 100 #[.pointer p0,.int .i64 n1,.agg #[.bool gc,bJ.v]] w R:=
 plC F100_p func100 h
def F63_1(R:Rt)(p0:Option Addr)(eD:Bool)(bg:SV)(ds:Ds)(w:World):Prop:=
 alE (.cells #[.bool eD,bg.v] 67) w λr3 w1=>
 zQg p0 λa2=>
 ∃io:SV,w1.cell? (a2.add 2)=some (io.v)/\
 Br (decide ((IntKind.i64.wrap ((io.len:Int)+1)) > 300)) (
 zQb prog ds w1 λw3=>
 R (.returned (.tuple #[.int .i64 0,.int .i64 3])) w3) (
 dwE w1 λw4=>
 zQg p0 λa5=>
 ∃cJ:SV,w4.cell? (a5.add 1)=some (cJ.v)/\
 zQg p0 λa6=>
 ∃cr,w4.cell? a6=some (.int .i64 cr)/\
 ∃gQ,w4.cell? ((⟨r3,0,none⟩:Addr).add 0)=some (.bool gQ)/\
 ∃cg:SV,w4.cell? ((⟨r3,0,none⟩:Addr).add 1)=some (cg.v)/\
 Calls prog 54 #[cJ.v,.int .i64 cr,.agg #[.bool gQ,cg.v]] w4 λe w7=>
 ∃kD:Int,e=.returned (.int .i64 kD)/\
 Br (kD != 0) (
 zQb prog ds w7 λw8=>
 R (.returned (.tuple #[.int .i64 0,.int .i64 kD])) w8) (
 ∃vj,w7.cell? ((⟨r3,0,none⟩:Addr).add 0)=some (.bool vj)/\
 ∃lK:SV,w7.cell? ((⟨r3,0,none⟩:Addr).add 1)=some (lK.v)/\
 Calls prog 100 #[.pointer p0,.int .i64 (IntKind.i64.wrap ((io.len:Int)+1)),.agg #[.bool vj,lK.v]] w7 λe w9=>
 e=.returned (.tuple #[])/\
 zQb prog ds w9 λaO=>
 R (.returned (.tuple #[.int .i64 (IntKind.i64.wrap ((io.len:Int)+1)),.int .i64 0])) aO))
theorem F63_p:Pl prog f63 [pS 0,aS 1 [.bool,.slice]] F63_1:=λR=>
 lf
theorem xXO (p0:Option Addr) (eD:Bool) (bg:SV) (w:World) (R:Rt) (h:F63_1 R p0 eD bg [] w):Calls prog 63 #[.pointer p0,.agg #[.bool eD,bg.v]] w R:=
 plC F63_p func63 h
def F64_1(R:Rt)(p0:Option Addr)(n1:Int)(gc:Bool)(bJ:SV)(ds:Ds)(w:World):Prop:=
 alE (.cells #[.bool gc,bJ.v] 67) w λr5 w1=>
 Calls prog 101 #[.pointer p0,.int .i64 n1] w1 λe w2=>
 ∃dS:Bool,e=.returned (.bool dS)/\
 Br (!dS) (
 zQb prog ds w2 λw3=>
 R (.returned (.int .i64 4)) w3) (
 dwE w2 λw4=>
 zQg p0 λa5=>
 ∃dv:SV,w4.cell? (a5.add 1)=some (dv.v)/\
 zQg p0 λa6=>
 ∃kE,w4.cell? a6=some (.int .i64 kE)/\
 ∃vk,w4.cell? ((⟨r5,0,none⟩:Addr).add 0)=some (.bool vk)/\
 ∃bZ:SV,w4.cell? ((⟨r5,0,none⟩:Addr).add 1)=some (bZ.v)/\
 Calls prog 54 #[dv.v,.int .i64 kE,.agg #[.bool vk,bZ.v]] w4 λe w7=>
 ∃i5:Int,e=.returned (.int .i64 i5)/\
 Br (i5 != 0) (
 zQb prog ds w7 λw8=>
 R (.returned (.int .i64 i5)) w8) (
 ∃vm,w7.cell? ((⟨r5,0,none⟩:Addr).add 0)=some (.bool vm)/\
 ∃cw:SV,w7.cell? ((⟨r5,0,none⟩:Addr).add 1)=some (cw.v)/\
 Calls prog 100 #[.pointer p0,.int .i64 n1,.agg #[.bool vm,cw.v]] w7 λe w9=>
 e=.returned (.tuple #[])/\
 zQb prog ds w9 λaO=>
 R (.returned (.int .i64 0)) aO))
theorem F64_p:Pl prog f64 [pS 0,iS 1,aS 2 [.bool,.slice]] F64_1:=λR=>
 lf
theorem xQv (p0:Option Addr) (n1:Int) (gc:Bool) (bJ:SV) (w:World) (R:Rt) (h:F64_1 R p0 n1 gc bJ [] w):Calls prog 64 #[.pointer p0,.int .i64 n1,.agg #[.bool gc,bJ.v]] w R:=
 plC F64_p func64 h
def F65_1(R:Rt)(p0:Option Addr)(n1:Int)(b2:Bool)(ds:Ds)(w:World):Prop:=
 Calls prog 101 #[.pointer p0,.int .i64 n1] w λe w1=>
 ∃dS:Bool,e=.returned (.bool dS)/\
 Br (!dS) (
 zQb prog ds w1 λw2=>
 R (.returned (.int .i64 4)) w2) (
 zQg p0 λa3=>
 ∃dv:SV,w1.cell? (a3.add 2)=some (dv.v)/\
 ∃a4,dv.a=some a4/\0<=(IntKind.i64.wrap (n1 - 1))/\(IntKind.i64.wrap (n1 - 1))<(dv.len:Int)/\
 ∃nP,w1.cell? ((a4.add ((IntKind.i64.wrap (n1 - 1)).toNat * 2)).add 0)=some (.bool nP)/\
 ∃cb:SV,w1.cell? ((a4.add ((IntKind.i64.wrap (n1 - 1)).toNat * 2)).add 1)=some (cb.v)/\
 Calls prog 102 #[.agg #[.bool nP,cb.v]] w1 λe w5=>
 ∃vo:Bool,∃c8:SV,e=.returned (.agg #[.bool vo,c8.v])/\
 alE (.cells #[.bool false,.slice none 0 0] 67) w5 λr7 w6=>
 stA prog 67 (⟨r7,0,none⟩:Addr) #[.bool vo,c8.v] w6 λw7=>
 st1 (⟨r7,0,none⟩:Addr) (.bool b2) w7 λw8=>
 ∃nW,w8.cell? ((⟨r7,0,none⟩:Addr).add 0)=some (.bool nW)/\
 ∃bx:SV,w8.cell? ((⟨r7,0,none⟩:Addr).add 1)=some (bx.v)/\
 Calls prog 100 #[.pointer p0,.int .i64 n1,.agg #[.bool nW,bx.v]] w8 λe w9=>
 e=.returned (.tuple #[])/\
 zQb prog ds w9 λaO=>
 R (.returned (.int .i64 0)) aO)
theorem F65_p:Pl prog f65 [pS 0,iS 1,bS 2] F65_1:=λR=>
 lf
theorem xQ2 (p0:Option Addr) (n1:Int) (b2:Bool) (w:World) (R:Rt) (h:F65_1 R p0 n1 b2 [] w):Calls prog 65 #[.pointer p0,.int .i64 n1,.bool b2] w R:=
 plC F65_p func65 h
def xZv(R:Rt)(p0:Option Addr)(n1 n9:Int)(p11 p13:Option Addr)(ds:Ds)(w:World):Prop:=
 zQg p13 λa1=>
 ∃zw:SV,w.cell? (a1.add 1)=some (zw.v)/\
 zQg p11 λa2=>
 ∃nY,w.cell? (a2.add 0)=some (.int .i64 nY)/\
 ∃vp,w.cell? (a2.add 1)=some (.int .i64 vp)/\
 ∃vq,w.cell? (a2.add 2)=some (.string vq)/\
 ∃a3,zw.a=some a3/\0<=n9/\n9<(zw.len:Int)/\
 stA prog 73 (a3.add (n9.toNat * 3)) #[.int .i64 nY,.int .i64 vp,.string vq] w λw4=>
 zQg p13 λa5=>
 ∃nZ,w4.cell? (a5.add 0)=some (.bool nZ)/\
 ∃fO:SV,w4.cell? (a5.add 1)=some (fO.v)/\
 Calls prog 100 #[.pointer p0,.int .i64 n1,.agg #[.bool nZ,fO.v]] w4 λe w6=>
 e=.returned (.tuple #[])/\
 zQb prog ds w6 λw7=>
 R (.returned (.int .i64 0)) w7
def F67_2(R:Rt)(p0:Option Addr)(n1:Int)(s2:ByteArray)(iW gB:Int)(mQ:ByteArray)(ds:Ds)(w:World):Prop:=
 alE (.cells #[.int .i64 iW,.int .i64 gB,.string mQ] 73) w λr7 w8=>
 zQg p0 λa9=>
 ∃dm:SV,w8.cell? (a9.add 1)=some (dm.v)/\
 Calls prog 103 #[dm.v,.string s2] w8 λe aO=>
 ∃dM:Int,∃oa:Bool,e=.returned (.tuple #[.int .i64 dM,.bool oa])/\
 Calls prog 101 #[.pointer p0,.int .i64 n1] aO λe aR=>
 ∃qA:Bool,e=.returned (.bool qA)/\
 Br (!qA) (
 zQb prog ds aR λaM=>
 R (.returned (.int .i64 4)) aM) (
 Br (!oa) (
 zQb prog ds aR λaH=>
 R (.returned (.int .i64 4)) aH) (
 dwE aR λbo=>
 ∃S1:World->Prop,S1 bo/\
 zQg p0 λjr=>
 ∃eV:SV,(∀w',S1 w'->w'.cell? (jr.add 1)=some (eV.v))/\
 ∃iJ,eV.a=some iJ/\0<=dM/\dM<(eV.len:Int)/\
 ∃rt,(∀w',S1 w'->w'.cell? ((iJ.add (dM.toNat * 4)).add 0)=some (.string rt))/\
 ∃rv,(∀w',S1 w'->w'.cell? ((iJ.add (dM.toNat * 4)).add 1)=some (.int .i64 rv))/\
 ∃rx,(∀w',S1 w'->w'.cell? ((iJ.add (dM.toNat * 4)).add 2)=some (.int .i64 rx))/\
 ∃rz,(∀w',S1 w'->w'.cell? ((iJ.add (dM.toNat * 4)).add 3)=some (.bool rz))/\
 zQg p0 λqY=>
 ∃n45,(∀w',S1 w'->w'.cell? qY=some (.int .i64 n45))/\
 ∃gg,(∀w',S1 w'->w'.cell? ((⟨r7,0,none⟩:Addr).add 0)=some (.int .i64 gg))/\
 ∃gh,(∀w',S1 w'->w'.cell? ((⟨r7,0,none⟩:Addr).add 1)=some (.int .i64 gh))/\
 ∃gi,(∀w',S1 w'->w'.cell? ((⟨r7,0,none⟩:Addr).add 2)=some (.string gi))/\
 (
 Calls prog 104 #[.agg #[.string rt,.int .i64 rv,.int .i64 rx,.bool rz],.int .i64 n45,.agg #[.int .i64 gg,.int .i64 gh,.string gi]] bo λe bI=>
 ∃eZ:Int,∃iX:Int,∃iY:ByteArray,∃cG:Int,e=.returned (.tuple #[.agg #[.int .i64 eZ,.int .i64 iX,.string iY],.int .i64 cG])/\
 alE (.cells #[.int .i64 0,.int .i64 0,.string (⟨#[]⟩:ByteArray)] 73) bI λcn cE=>
 stA prog 73 (⟨cn,0,none⟩:Addr) #[.int .i64 eZ,.int .i64 iX,.string iY] cE λbO=>
 Br (cG != 0) (
 zQb prog ds bO λcq=>
 R (.returned (.int .i64 cG)) cq) (
 zQg p0 λoN=>
 ∃kq:SV,bO.cell? (oN.add 2)=some (kq.v)/\
 ∃o2,kq.a=some o2/\0<=(IntKind.i64.wrap (n1 - 1))/\(IntKind.i64.wrap (n1 - 1))<(kq.len:Int)/\
 ∃jS,bO.cell? ((o2.add ((IntKind.i64.wrap (n1 - 1)).toNat * 2)).add 0)=some (.bool jS)/\
 ∃dg:SV,bO.cell? ((o2.add ((IntKind.i64.wrap (n1 - 1)).toNat * 2)).add 1)=some (dg.v)/\
 Calls prog 102 #[.agg #[.bool jS,dg.v]] bO λe dD=>
 ∃jT:Bool,∃bA:SV,e=.returned (.agg #[.bool jT,bA.v])/\
 alE (.cells #[.bool false,.slice none 0 0] 67) dD λnt gy=>
 stA prog 67 (⟨nt,0,none⟩:Addr) #[.bool jT,bA.v] gy λfX=>
 xZv R p0 n1 dM (some (⟨cn,0,none⟩:Addr)) (some (⟨nt,0,none⟩:Addr)) ds fX))/\(
 alE (.cells #[.int .i64 0,.int .i64 0,.string (⟨#[]⟩:ByteArray)] 73) bo λcn iy=>
 S1 iy/\
 Calls prog 104 #[.agg #[.string rt,.int .i64 rv,.int .i64 rx,.bool rz],.int .i64 n45,.agg #[.int .i64 gg,.int .i64 gh,.string gi]] iy λe eg=>
 ∃eZ:Int,∃iX:Int,∃iY:ByteArray,∃cG:Int,e=.returned (.tuple #[.agg #[.int .i64 eZ,.int .i64 iX,.string iY],.int .i64 cG])/\
 stA prog 73 (⟨cn,0,none⟩:Addr) #[.int .i64 eZ,.int .i64 iX,.string iY] eg λgb=>
 Br (cG != 0) (
 zQb prog ds gb λiK=>
 R (.returned (.int .i64 cG)) iK) (
 zQg p0 λsr=>
 ∃kq:SV,gb.cell? (sr.add 2)=some (kq.v)/\
 ∃wi,kq.a=some wi/\0<=(IntKind.i64.wrap (n1 - 1))/\(IntKind.i64.wrap (n1 - 1))<(kq.len:Int)/\
 ∃jS,gb.cell? ((wi.add ((IntKind.i64.wrap (n1 - 1)).toNat * 2)).add 0)=some (.bool jS)/\
 ∃dg:SV,gb.cell? ((wi.add ((IntKind.i64.wrap (n1 - 1)).toNat * 2)).add 1)=some (dg.v)/\
 Calls prog 102 #[.agg #[.bool jS,dg.v]] gb λe gk=>
 ∃jT:Bool,∃bA:SV,e=.returned (.agg #[.bool jT,bA.v])/\
 alE (.cells #[.bool false,.slice none 0 0] 67) gk λnt gd=>
 stA prog 67 (⟨nt,0,none⟩:Addr) #[.bool jT,bA.v] gd λjV=>
 xZv R p0 n1 dM (some (⟨cn,0,none⟩:Addr)) (some (⟨nt,0,none⟩:Addr)) ds jV))))
theorem F67_p:Pl prog f67 [pS 0,iS 1,sS 2,aS 3 [.int .i64,.int .i64,.str]] F67_2:=λR=>
 pc 8 (rest [pS 0,iS 1,iS 9,pS 11,pS 13] (xZv R) lf)
theorem xQn (p0:Option Addr) (n1:Int) (s2:ByteArray) (iW gB:Int) (mQ:ByteArray) (w:World) (R:Rt) (h:F67_2 R p0 n1 s2 iW gB mQ [] w):Calls prog 67 #[.pointer p0,.int .i64 n1,.string s2,.agg #[.int .i64 iW,.int .i64 gB,.string mQ]] w R:=
 plC F67_p func67 h
def F68_1(R:Rt)(p0:Option Addr)(ds:Ds)(w:World):Prop:=
 zQg p0 λa1=>
 ∃l6:SV,w.cell? (a1.add 4)=some (l6.v)/\
 Br (decide ((l6.len:Int) > 0)) (
 zQb prog ds w λw2=>
 R (.returned (.int .i64 9)) w2) (
 zQb prog ds w λw3=>
 R (.returned (.int .i64 0)) w3)
theorem F68_p:Pl prog f68 [pS 0] F68_1:=λR=>
 lf
theorem xQG (p0:Option Addr) (w:World) (R:Rt) (h:F68_1 R p0 [] w):Calls prog 68 #[.pointer p0] w R:=
 plC F68_p func68 h
end Go.Proofs.YtaeecpjhfmcliaaGreatDoor
/- Shallow texts of functions, printed by program, each checked by the kernel against the loaded code. No condition. -/
namespace Go.Proofs.YtaeecpjhfmcliaaGreatDoor
open Go.Sh Tryz
def F15_1(R:Rt)(p1:Option Addr)(n3:Int)(ds:Ds)(w:World):Prop:=
 Br (decide (n3 > 131072)) (
 zQb prog ds w λw1=>
 R (.returned (.bool true)) w1) (
 zQg p1 λa2=>
 ∃l53:SV,w.cell? (a2.add 5)=some (l53.v)/\
 Br (decide ((l53.len:Int) > 80)) (
 zQb prog ds w λw3=>
 R (.returned (.bool true)) w3) (
 zQg p1 λa4=>
 ∃l60:SV,w.cell? (a4.add 2)=some (l60.v)/\
 zQb prog ds w λw5=>
 R (.returned (.bool (decide ((l60.len:Int) > 60)))) w5))
def F15_2 (R:Rt) (J1:(Int × Int)->World->Prop) (p1:Option Addr) (n3 n5:Int) (ds:Ds) (w:World):Prop:=
 zQg p1 λa6=>
 ∃iz:SV,w.cell? (a6.add 5)=some (iz.v)/\
 Br (decide (n5<(iz.len:Int))) (
 zQg p1 λa7=>
 ∃kw:SV,w.cell? (a7.add 5)=some (kw.v)/\
 ∃a8,kw.a=some a8/\0<=n5/\n5<(kw.len:Int)/\
 ∃s46,w.cell? ((a8.add (n5.toNat * 6)).add 4)=some (.string s46)/\
 J1 ((IntKind.i64.wrap (n3+(s46.size:Int))),(IntKind.i64.wrap (n5+1))) w) (
 F15_1 R p1 n3 ds w)
def F15_3(R:Rt)(p1:Option Addr)(n3 n5:Int)(ds:Ds)(w:World):Prop:=
 zQA (λ(J1:(Int × Int)->World->Prop) (s:Int × Int) (w:World)=>F15_2 R J1 p1 s.1 s.2 ds w) (n3,n5) w
def F15_5(R:Rt)(p1:Option Addr)(n3:Int)(ds:Ds)(w:World):Prop:=
 F15_3 R p1 n3 0 ds w
def F15_6 (R:Rt) (J1:(Int × Int)->World->Prop) (p1:Option Addr) (n3 n4:Int) (ds:Ds) (w:World):Prop:=
 zQg p1 λa9=>
 ∃dm:SV,w.cell? (a9.add 3)=some (dm.v)/\
 Br (decide (n4<(dm.len:Int))) (
 zQg p1 λeE=>
 ∃dT:SV,w.cell? (eE.add 3)=some (dT.v)/\
 ∃dV,dT.a=some dV/\0<=n4/\n4<(dT.len:Int)/\
 ∃oG:SV,w.cell? ((dV.add (n4.toNat * 2)).add 1)=some (oG.v)/\
 Calls prog 58 #[oG.v] w λe aM=>
 ∃qL:Int,e=.returned (.int .i64 qL)/\
 J1 ((IntKind.i64.wrap (n3+qL)),(IntKind.i64.wrap (n4+1))) aM) (
 F15_5 R p1 n3 ds w)
def F15_7(R:Rt)(p1:Option Addr)(n3 n4:Int)(ds:Ds)(w:World):Prop:=
 zQA (λ(J1:(Int × Int)->World->Prop) (s:Int × Int) (w:World)=>F15_6 R J1 p1 s.1 s.2 ds w) (n3,n4) w
def F15_9(R:Rt)(au:Int)(ah ai bj bl bm:SV)(ds:Ds)(w:World):Prop:=
 alE (.cells #[.int .i64 au,ah.v,ai.v,bj.v,bl.v,bm.v] 41) w λr1 aH=>
 dwE aH λbo=>
 ∃S1:World->Prop,S1 bo/\
 ∃eH,(∀w',S1 w'->w'.cell? ((⟨r1,0,none⟩:Addr).add 0)=some (.int .i64 eH))/\
 ∃cA:SV,(∀w',S1 w'->w'.cell? ((⟨r1,0,none⟩:Addr).add 1)=some (cA.v))/\
 ∃bT:SV,(∀w',S1 w'->w'.cell? ((⟨r1,0,none⟩:Addr).add 2)=some (bT.v))/\
 ∃dX:SV,(∀w',S1 w'->w'.cell? ((⟨r1,0,none⟩:Addr).add 4)=some (dX.v))/\
 ∃bP:SV,(∀w',S1 w'->w'.cell? ((⟨r1,0,none⟩:Addr).add 3)=some (bP.v))/\
 Calls prog 57 #[.agg #[.int .i64 eH,cA.v,bT.v]] bo λe bt=>
 ∃n8:Int,e=.returned (.int .i64 n8)/\
 S1 bt/\
 Calls prog 58 #[dX.v] bt λe bB=>
 ∃cF:Int,e=.returned (.int .i64 cF)/\
 S1 bB/\
 F15_7 R (some (⟨r1,0,none⟩:Addr)) (IntKind.i64.wrap ((IntKind.i64.wrap (n8+cF))+(bP.len:Int))) 0 ds bB
theorem F15_p:Pl prog f15 [aS 0 [.int .i64,.slice,.slice,.slice,.slice,.slice]] F15_9:=λR=>
 pc 3 (rest [pS 1,iS 3,iS 4] (F15_7 R) (bk 0 (rest [pS 1,iS 3] (F15_5 R) (pc 1 (rest [pS 1,iS 3,iS 5] (F15_3 R) (bk 2 (rest [pS 1,iS 3] (F15_1 R) lf) (lp [iS 3,iS 5] [pS 1,iS 3,iS 5] (F15_2 R) zXH λJ1=>lf))))) (lp [iS 3,iS 4] [pS 1,iS 3,iS 4] (F15_6 R) zXH λJ1=>lf)))
theorem yY7 (au:Int) (ah ai bj bl bm:SV) (w:World) (R:Rt) (h:F15_9 R au ah ai bj bl bm [] w):Calls prog 15 #[.agg #[.int .i64 au,ah.v,ai.v,bj.v,bl.v,bm.v]] w R:=
 plC F15_p func15 h
end Go.Proofs.YtaeecpjhfmcliaaGreatDoor
/- Shallow texts of functions, printed by program, each checked by the kernel against the loaded code. No condition. -/
namespace Go.Proofs.YtaeecpjhfmcliaaGreatDoor
open Go.Sh Tryz
def F62_1(R:Rt)(au:Int)(ah ai bj bl bm:SV)(n1:Int)(ds:Ds)(w:World):Prop:=
 alE (.cells #[.int .i64 au,ah.v,ai.v,bj.v,bl.v,bm.v] 41) w λr2 w1=>
 alE (.cells #[.bool false,.slice none 0 0] 67) w1 λr4 w2=>
 Br (decide (n1<0)) (
 stA prog 67 (⟨r4,0,none⟩:Addr) #[.bool false,.slice none 0 0] w2 λw3=>
 zQb prog ds w3 λw4=>
 ∃bL,w4.cell? ((⟨r4,0,none⟩:Addr).add 0)=some (.bool bL)/\
 ∃ab:SV,w4.cell? ((⟨r4,0,none⟩:Addr).add 1)=some (ab.v)/\
 R (.returned (.agg #[.bool bL,ab.v])) w4) (
 ∃dX:SV,w2.cell? ((⟨r2,0,none⟩:Addr).add 3)=some (dX.v)/\
 Br (decide (n1 >= (dX.len:Int))) (
 stA prog 67 (⟨r4,0,none⟩:Addr) #[.bool false,.slice none 0 0] w2 λw5=>
 zQb prog ds w5 λw6=>
 ∃bL,w6.cell? ((⟨r4,0,none⟩:Addr).add 0)=some (.bool bL)/\
 ∃ab:SV,w6.cell? ((⟨r4,0,none⟩:Addr).add 1)=some (ab.v)/\
 R (.returned (.agg #[.bool bL,ab.v])) w6) (
 ∃dv:SV,w2.cell? ((⟨r2,0,none⟩:Addr).add 3)=some (dv.v)/\
 ∃a7,dv.a=some a7/\0<=n1/\n1<(dv.len:Int)/\
 ∃vr,w2.cell? ((a7.add (n1.toNat * 2)).add 0)=some (.bool vr)/\
 ∃fA:SV,w2.cell? ((a7.add (n1.toNat * 2)).add 1)=some (fA.v)/\
 stA prog 67 (⟨r4,0,none⟩:Addr) #[.bool vr,fA.v] w2 λw8=>
 zQb prog ds w8 λw9=>
 ∃bL,w9.cell? ((⟨r4,0,none⟩:Addr).add 0)=some (.bool bL)/\
 ∃ab:SV,w9.cell? ((⟨r4,0,none⟩:Addr).add 1)=some (ab.v)/\
 R (.returned (.agg #[.bool bL,ab.v])) w9))
theorem F62_p:Pl prog f62 [aS 0 [.int .i64,.slice,.slice,.slice,.slice,.slice],iS 1] F62_1:=λR=>
 lf
theorem xZn (au:Int) (ah ai bj bl bm:SV) (n1:Int) (w:World) (R:Rt) (h:F62_1 R au ah ai bj bl bm n1 [] w):Calls prog 62 #[.agg #[.int .i64 au,ah.v,ai.v,bj.v,bl.v,bm.v],.int .i64 n1] w R:=
 plC F62_p func62 h
def F66_1(R:Rt)(au:Int)(ah ai bj bl bm:SV)(n1:Int)(ds:Ds)(w:World):Prop:=
 alE (.cells #[.int .i64 au,ah.v,ai.v,bj.v,bl.v,bm.v] 41) w λr2 w1=>
 alE (.cells #[.int .i64 0,.int .i64 0,.string (⟨#[]⟩:ByteArray)] 73) w1 λr4 w2=>
 Br (decide (n1<0)) (
 stA prog 73 (⟨r4,0,none⟩:Addr) #[.int .i64 0,.int .i64 0,.string (⟨#[]⟩:ByteArray)] w2 λw3=>
 zQb prog ds w3 λw4=>
 ∃ag,w4.cell? ((⟨r4,0,none⟩:Addr).add 0)=some (.int .i64 ag)/\
 ∃aj,w4.cell? ((⟨r4,0,none⟩:Addr).add 1)=some (.int .i64 aj)/\
 ∃ak,w4.cell? ((⟨r4,0,none⟩:Addr).add 2)=some (.string ak)/\
 R (.returned (.agg #[.int .i64 ag,.int .i64 aj,.string ak])) w4) (
 ∃dX:SV,w2.cell? ((⟨r2,0,none⟩:Addr).add 4)=some (dX.v)/\
 Br (decide (n1 >= (dX.len:Int))) (
 stA prog 73 (⟨r4,0,none⟩:Addr) #[.int .i64 0,.int .i64 0,.string (⟨#[]⟩:ByteArray)] w2 λw5=>
 zQb prog ds w5 λw6=>
 ∃ag,w6.cell? ((⟨r4,0,none⟩:Addr).add 0)=some (.int .i64 ag)/\
 ∃aj,w6.cell? ((⟨r4,0,none⟩:Addr).add 1)=some (.int .i64 aj)/\
 ∃ak,w6.cell? ((⟨r4,0,none⟩:Addr).add 2)=some (.string ak)/\
 R (.returned (.agg #[.int .i64 ag,.int .i64 aj,.string ak])) w6) (
 ∃dv:SV,w2.cell? ((⟨r2,0,none⟩:Addr).add 4)=some (dv.v)/\
 ∃a7,dv.a=some a7/\0<=n1/\n1<(dv.len:Int)/\
 ∃dG,w2.cell? ((a7.add (n1.toNat * 3)).add 0)=some (.int .i64 dG)/\
 ∃bQ,w2.cell? ((a7.add (n1.toNat * 3)).add 1)=some (.int .i64 bQ)/\
 ∃jE,w2.cell? ((a7.add (n1.toNat * 3)).add 2)=some (.string jE)/\
 stA prog 73 (⟨r4,0,none⟩:Addr) #[.int .i64 dG,.int .i64 bQ,.string jE] w2 λw8=>
 zQb prog ds w8 λw9=>
 ∃ag,w9.cell? ((⟨r4,0,none⟩:Addr).add 0)=some (.int .i64 ag)/\
 ∃aj,w9.cell? ((⟨r4,0,none⟩:Addr).add 1)=some (.int .i64 aj)/\
 ∃ak,w9.cell? ((⟨r4,0,none⟩:Addr).add 2)=some (.string ak)/\
 R (.returned (.agg #[.int .i64 ag,.int .i64 aj,.string ak])) w9))
theorem F66_p:Pl prog f66 [aS 0 [.int .i64,.slice,.slice,.slice,.slice,.slice],iS 1] F66_1:=λR=>
 lf
theorem xZe (au:Int) (ah ai bj bl bm:SV) (n1:Int) (w:World) (R:Rt) (h:F66_1 R au ah ai bj bl bm n1 [] w):Calls prog 66 #[.agg #[.int .i64 au,ah.v,ai.v,bj.v,bl.v,bm.v],.int .i64 n1] w R:=
 plC F66_p func66 h
end Go.Proofs.YtaeecpjhfmcliaaGreatDoor
/- Shallow texts of functions, printed by program, each checked by the kernel against the loaded code. No condition. -/
namespace Go.Proofs.YtaeecpjhfmcliaaGreatDoor
open Go.Sh Tryz
def F44_1(R:Rt)(p2 p3:Option Addr)(ds:Ds)(w:World):Prop:=
 zQg p3 λa1=>
 ∃eO,w.cell? (a1.add 0)=some (.int .i64 eO)/\
 ∃bx:SV,w.cell? (a1.add 1)=some (bx.v)/\
 ∃cQ:SV,w.cell? (a1.add 2)=some (cQ.v)/\
 zQg p2 λa2=>
 stA prog 35 a2 #[.int .i64 eO,bx.v,cQ.v] w λw3=>
 zQb prog ds w3 λw4=>
 zQg p2 λa5=>
 ∃ag,w4.cell? (a5.add 0)=some (.int .i64 ag)/\
 ∃ab:SV,w4.cell? (a5.add 1)=some (ab.v)/\
 ∃ae:SV,w4.cell? (a5.add 2)=some (ae.v)/\
 R (.returned (.agg #[.int .i64 ag,ab.v,ae.v])) w4
def F44_2 (R:Rt) (J1:(Int)->World->Prop) (l0:SV) (p2 p3:Option Addr) (n4:Int) (ds:Ds) (w:World):Prop:=
 Br (decide (n4<(l0.len:Int))) (
 dwE w λw6=>
 ∃S1:World->Prop,S1 w6/\
 zQg p3 λa7=>
 ∃fe:SV,(∀w',S1 w'->w'.cell? (a7.add 2)=some (fe.v))/\
 ∃a8,l0.a=some a8/\0<=n4/\n4<(l0.len:Int)/\
 ∃jb,(∀w',S1 w'->w'.cell? (a8.add (n4.toNat * 1))=some (.int .i64 jb))/\
 Calls prog 45 #[.int .i64 jb] w6 λe w9=>
 ∃eL:Int,∃eM:Int,∃gt:ByteArray,e=.returned (.agg #[.int .i64 eL,.int .i64 eM,.string gt])/\
 S1 w9/\
 alE (.cells #[.int .i64 eL,.int .i64 eM,.string gt] 73) w9 λr21 aO=>
 S1 aO/\
 alE (.cells #[.bool false,.slice (some ⟨r21,0,none⟩) 1 1] 67) aO λr23 aR=>
 S1 aR/\
 ∃bU:SV,∃aM,(Builtin.append_ #[33,33] 33 #[fe.v,.slice (some ⟨r23,0,none⟩) 1 1]).run prog aR=.ok (bU.v) aM/\
 zQg p3 λkV=>
 st1 (kV.add 2) (bU.v) aM λbo=>
 J1 (IntKind.i64.wrap (n4+1)) bo) (
 F44_1 R p2 p3 ds w)
def F44_3(R:Rt)(l0:SV)(p2 p3:Option Addr)(n4:Int)(ds:Ds)(w:World):Prop:=
 zQA (λ(J1:(Int)->World->Prop) (s:Int) (w:World)=>F44_2 R J1 l0 p2 p3 s ds w) n4 w
def F44_5(R:Rt)(l0:SV)(ds:Ds)(w:World):Prop:=
 alE (.cells #[.int .i64 0,.slice none 0 0,.slice none 0 0] 35) w λr2 bt=>
 alE (.cells #[.string (⟨#[78]⟩:ByteArray),.int .i64 2,.int .i64 3,.bool false] 129) bt λr6 bB=>
 alE (.cells #[.int .i64 0,.slice none 0 0,.slice none 0 0] 35) bB λr3 bG=>
 stA prog 35 (⟨r3,0,none⟩:Addr) #[.int .i64 0,.slice (some ⟨r6,0,none⟩) 1 1,.slice none 0 0] bG λbI=>
 F44_3 R l0 (some (⟨r2,0,none⟩:Addr)) (some (⟨r3,0,none⟩:Addr)) 0 ds bI
theorem F44_p:Pl prog f44 [lS 0] F44_5:=λR=>
 pc 3 (rest [lS 0,pS 2,pS 3,iS 4] (F44_3 R) (bk 0 (rest [pS 2,pS 3] (F44_1 R) lf) (lp [iS 4] [lS 0,pS 2,pS 3,iS 4] (F44_2 R) zXH λJ1=>lf)))
theorem yYr (l0:SV) (w:World) (R:Rt) (h:F44_5 R l0 [] w):Calls prog 44 #[l0.v] w R:=
 plC F44_p func44 h
def yZv(R:Rt)(p1:Option Addr)(b44:Bool)(ds:Ds)(w:World):Prop:=
 Br b44 (
 zQb prog ds w λw1=>
 R (.returned (.bool false)) w1) (
 Calls prog 27 #[.pointer p1,.int .i64 1] w λe w2=>
 ∃eZ:Int,∃ig:SV,∃ii:SV,∃cG:Int,e=.returned (.tuple #[.agg #[.int .i64 eZ,ig.v,ii.v],.int .i64 cG])/\
 alE (.cells #[.int .i64 0,.slice none 0 0,.slice none 0 0] 35) w2 λr3 w3=>
 stA prog 35 (⟨r3,0,none⟩:Addr) #[.int .i64 eZ,ig.v,ii.v] w3 λw4=>
 dwE w4 λw5=>
 ∃S1:World->Prop,S1 w5/\
 Br (cG == 0) (
 Calls prog 22 #[.pointer p1] w5 λe w6=>
 ∃n54:Int,e=.returned (.int .i64 n54)/\
 S1 w6/\
 Br (n54 == 1) (
 ∃ob,(∀w',S1 w'->w'.cell? ((⟨r3,0,none⟩:Addr).add 0)=some (.int .i64 ob))/\
 ∃fP:SV,(∀w',S1 w'->w'.cell? ((⟨r3,0,none⟩:Addr).add 1)=some (fP.v))/\
 ∃fQ:SV,(∀w',S1 w'->w'.cell? ((⟨r3,0,none⟩:Addr).add 2)=some (fQ.v))/\
 alE (.cells #[.int .i64 5,.int .i64 2] 3) w6 λr59 w7=>
 S1 w7/\
 Calls prog 44 #[.slice (some ⟨r59,0,none⟩) 2 2] w7 λe w8=>
 ∃vt:Int,∃lL:SV,∃lM:SV,e=.returned (.agg #[.int .i64 vt,lL.v,lM.v])/\
 S1 w8/\
 Calls prog 18 #[.agg #[.int .i64 ob,fP.v,fQ.v],.agg #[.int .i64 vt,lL.v,lM.v]] w8 λe w9=>
 ∃yu:Bool,e=.returned (.bool yu)/\
 S1 w9/\
 Br yu (
 ∃nY,(∀w',S1 w'->w'.cell? ((⟨r3,0,none⟩:Addr).add 0)=some (.int .i64 nY))/\
 ∃lN:SV,(∀w',S1 w'->w'.cell? ((⟨r3,0,none⟩:Addr).add 1)=some (lN.v))/\
 ∃lO:SV,(∀w',S1 w'->w'.cell? ((⟨r3,0,none⟩:Addr).add 2)=some (lO.v))/\
 Calls prog 14 #[.pointer p1] w9 λe aO=>
 ∃vu:Int,∃lP:SV,∃lQ:SV,e=.returned (.agg #[.int .i64 vu,lP.v,lQ.v])/\
 S1 aO/\
 Calls prog 18 #[.agg #[.int .i64 vu,lP.v,lQ.v],.agg #[.int .i64 nY,lN.v,lO.v]] aO λe aR=>
 ∃qU:Bool,e=.returned (.bool qU)/\
 zQb prog ds aR λaM=>
 R (.returned (.bool qU)) aM) (
 zQb prog ds w9 λaH=>
 R (.returned (.bool false)) aH)) (
 zQb prog ds w6 λbo=>
 R (.returned (.bool false)) bo)) (
 zQb prog ds w5 λbt=>
 R (.returned (.bool false)) bt))
def F10_2(R:Rt)(p1:Option Addr)(n2:Int)(ds:Ds)(w:World):Prop:=
 Br (n2 != 0) (
 yZv R p1 true ds w) (
 Calls prog 35 #[.pointer p1] w λe bB=>
 ∃kJ:Int,e=.returned (.int .i64 kJ)/\
 Br (kJ != 0) (
 yZv R p1 true ds bB) (
 Calls prog 45 #[.int .i64 5] bB λe bG=>
 ∃eL:Int,∃eM:Int,∃gt:ByteArray,e=.returned (.agg #[.int .i64 eL,.int .i64 eM,.string gt])/\
 Calls prog 40 #[.pointer p1,.int .i64 1,.string (⟨#[78]⟩:ByteArray),.agg #[.int .i64 eL,.int .i64 eM,.string gt]] bG λe bI=>
 ∃kE:Int,e=.returned (.int .i64 kE)/\
 Br (kE != 0) (
 yZv R p1 true ds bI) (
 Calls prog 35 #[.pointer p1] bI λe cE=>
 ∃cr:Int,e=.returned (.int .i64 cr)/\
 Br (cr != 0) (
 yZv R p1 true ds cE) (
 Calls prog 45 #[.int .i64 6] cE λe bO=>
 ∃bK:Int,∃gD:Int,∃nD:ByteArray,e=.returned (.agg #[.int .i64 bK,.int .i64 gD,.string nD])/\
 Calls prog 40 #[.pointer p1,.int .i64 2,.string (⟨#[78]⟩:ByteArray),.agg #[.int .i64 bK,.int .i64 gD,.string nD]] bO λe cq=>
 ∃pq:Int,e=.returned (.int .i64 pq)/\
 Br (pq != 0) (
 yZv R p1 true ds cq) (
 Calls prog 37 #[.pointer p1] cq λe d7=>
 ∃iv:Int,e=.returned (.int .i64 iv)/\
 Br (iv != 0) (
 yZv R p1 true ds d7) (
 Calls prog 36 #[.pointer p1] d7 λe dU=>
 ∃oD:Int,e=.returned (.int .i64 oD)/\
 yZv R p1 (oD != 0) ds dU))))))
def F10_3(R:Rt)(ds:Ds)(w:World):Prop:=
 alE (.cells #[.int .i64 1,.int .i64 2] 3) w λr6 dD=>
 Calls prog 44 #[.slice (some ⟨r6,0,none⟩) 2 2] dD λe gy=>
 ∃eH:Int,∃cA:SV,∃bT:SV,e=.returned (.agg #[.int .i64 eH,cA.v,bT.v])/\
 Calls prog 43 #[.agg #[.int .i64 eH,cA.v,bT.v]] gy λe fX=>
 ∃zy:Option Addr,∃kT:Int,e=.returned (.tuple #[.pointer zy,.int .i64 kT])/\
 F10_2 R zy kT ds fX
theorem F10_p:Pl prog f10 [] F10_3:=λR=>
 pc 2 (rest [pS 1,iS 2] (F10_2 R) (pc 1 (rest [pS 1,bS 44] (yZv R) lf)))
theorem xQX  (w:World) (R:Rt) (h:F10_3 R [] w):Calls prog 10 #[] w R:=
 plC F10_p func10 h
end Go.Proofs.YtaeecpjhfmcliaaGreatDoor
/- Shallow texts of functions, printed by program, each checked by the kernel against the loaded code. No condition. -/
namespace Go.Proofs.YtaeecpjhfmcliaaGreatDoor
open Go.Sh Tryz
def F17_1(R:Rt)(p0 p1:Option Addr)(dp:Int)(bJ oc od oe og:SV)(iW gB oU sJ:Int)(sK sL:ByteArray)(ds:Ds)(w:World):Prop:=
 alE (.cells #[.int .i64 dp,bJ.v,oc.v,od.v,oe.v,og.v] 41) w λr6 w1=>
 alE (.cells #[.int .i64 iW,.int .i64 gB,.int .i64 oU,.int .i64 sJ,.string sK,.string sL] 48) w1 λr7 w2=>
 ∃kG,w2.cell? (⟨r7,0,none⟩:Addr)=some (.int .i64 kG)/\
 Br (kG == 0) (
 Calls prog 35 #[.pointer p0] w2 λe w3=>
 ∃iI:Int,e=.returned (.int .i64 iI)/\
 Calls prog 59 #[.pointer p1] w3 λe w4=>
 ∃j9:Int,e=.returned (.int .i64 j9)/\
 zQb prog ds w4 λw5=>
 R (.returned (.bool (iI == j9))) w5) (
 Br (kG == 1) (
 Calls prog 36 #[.pointer p0] w2 λe w6=>
 ∃ck:Int,e=.returned (.int .i64 ck)/\
 Calls prog 60 #[.pointer p1] w6 λe w7=>
 ∃gn:Int,e=.returned (.int .i64 gn)/\
 zQb prog ds w7 λw8=>
 R (.returned (.bool (ck == gn))) w8) (
 Br (kG == 2) (
 Calls prog 37 #[.pointer p0] w2 λe w9=>
 ∃pq:Int,e=.returned (.int .i64 pq)/\
 Calls prog 61 #[.pointer p1] w9 λe aO=>
 ∃rk:Int,e=.returned (.int .i64 rk)/\
 zQb prog ds aO λaR=>
 R (.returned (.bool (pq == rk))) aR) (
 Br (kG == 3) (
 ∃vv,w2.cell? ((⟨r6,0,none⟩:Addr).add 0)=some (.int .i64 vv)/\
 ∃lR:SV,w2.cell? ((⟨r6,0,none⟩:Addr).add 1)=some (lR.v)/\
 ∃lT:SV,w2.cell? ((⟨r6,0,none⟩:Addr).add 2)=some (lT.v)/\
 ∃lU:SV,w2.cell? ((⟨r6,0,none⟩:Addr).add 3)=some (lU.v)/\
 ∃lV:SV,w2.cell? ((⟨r6,0,none⟩:Addr).add 4)=some (lV.v)/\
 ∃lW:SV,w2.cell? ((⟨r6,0,none⟩:Addr).add 5)=some (lW.v)/\
 ∃oD,w2.cell? ((⟨r7,0,none⟩:Addr).add 2)=some (.int .i64 oD)/\
 Calls prog 62 #[.agg #[.int .i64 vv,lR.v,lT.v,lU.v,lV.v,lW.v],.int .i64 oD] w2 λe aM=>
 ∃vw:Bool,∃lX:SV,e=.returned (.agg #[.bool vw,lX.v])/\
 Calls prog 34 #[.pointer p0,.agg #[.bool vw,lX.v]] aM λe aH=>
 ∃vA:Int,∃nu:Int,e=.returned (.tuple #[.int .i64 vA,.int .i64 nu])/\
 ∃gx,aH.cell? ((⟨r6,0,none⟩:Addr).add 0)=some (.int .i64 gx)/\
 ∃lY:SV,aH.cell? ((⟨r6,0,none⟩:Addr).add 1)=some (lY.v)/\
 ∃lZ:SV,aH.cell? ((⟨r6,0,none⟩:Addr).add 2)=some (lZ.v)/\
 ∃mc:SV,aH.cell? ((⟨r6,0,none⟩:Addr).add 3)=some (mc.v)/\
 ∃md:SV,aH.cell? ((⟨r6,0,none⟩:Addr).add 4)=some (md.v)/\
 ∃me:SV,aH.cell? ((⟨r6,0,none⟩:Addr).add 5)=some (me.v)/\
 ∃oM,aH.cell? ((⟨r7,0,none⟩:Addr).add 2)=some (.int .i64 oM)/\
 Calls prog 62 #[.agg #[.int .i64 gx,lY.v,lZ.v,mc.v,md.v,me.v],.int .i64 oM] aH λe bo=>
 ∃vB:Bool,∃mf:SV,e=.returned (.agg #[.bool vB,mf.v])/\
 Calls prog 63 #[.pointer p1,.agg #[.bool vB,mf.v]] bo λe bt=>
 ∃eQ:Int,∃eR:Int,e=.returned (.tuple #[.int .i64 eQ,.int .i64 eR])/\
 Br (vA == eQ) (
 zQb prog ds bt λbB=>
 R (.returned (.bool (nu == eR))) bB) (
 zQb prog ds bt λbG=>
 R (.returned (.bool false)) bG)) (
 Br (kG == 4) (
 dwE w2 λbI=>
 ∃S1:World->Prop,S1 bI/\
 ∃x8,(∀w',S1 w'->w'.cell? ((⟨r7,0,none⟩:Addr).add 1)=some (.int .i64 x8))/\
 ∃vC,(∀w',S1 w'->w'.cell? ((⟨r6,0,none⟩:Addr).add 0)=some (.int .i64 vC))/\
 ∃mg:SV,(∀w',S1 w'->w'.cell? ((⟨r6,0,none⟩:Addr).add 1)=some (mg.v))/\
 ∃mh:SV,(∀w',S1 w'->w'.cell? ((⟨r6,0,none⟩:Addr).add 2)=some (mh.v))/\
 ∃mi:SV,(∀w',S1 w'->w'.cell? ((⟨r6,0,none⟩:Addr).add 3)=some (mi.v))/\
 ∃mj:SV,(∀w',S1 w'->w'.cell? ((⟨r6,0,none⟩:Addr).add 4)=some (mj.v))/\
 ∃ml:SV,(∀w',S1 w'->w'.cell? ((⟨r6,0,none⟩:Addr).add 5)=some (ml.v))/\
 ∃sE,(∀w',S1 w'->w'.cell? ((⟨r7,0,none⟩:Addr).add 2)=some (.int .i64 sE))/\
 ∃n76,(∀w',S1 w'->w'.cell? ((⟨r7,0,none⟩:Addr).add 1)=some (.int .i64 n76))/\
 ∃vD,(∀w',S1 w'->w'.cell? ((⟨r6,0,none⟩:Addr).add 0)=some (.int .i64 vD))/\
 ∃mm:SV,(∀w',S1 w'->w'.cell? ((⟨r6,0,none⟩:Addr).add 1)=some (mm.v))/\
 ∃mn:SV,(∀w',S1 w'->w'.cell? ((⟨r6,0,none⟩:Addr).add 2)=some (mn.v))/\
 ∃mo:SV,(∀w',S1 w'->w'.cell? ((⟨r6,0,none⟩:Addr).add 3)=some (mo.v))/\
 ∃mp:SV,(∀w',S1 w'->w'.cell? ((⟨r6,0,none⟩:Addr).add 4)=some (mp.v))/\
 ∃mq:SV,(∀w',S1 w'->w'.cell? ((⟨r6,0,none⟩:Addr).add 5)=some (mq.v))/\
 ∃n79,(∀w',S1 w'->w'.cell? ((⟨r7,0,none⟩:Addr).add 2)=some (.int .i64 n79))/\
 Calls prog 62 #[.agg #[.int .i64 vC,mg.v,mh.v,mi.v,mj.v,ml.v],.int .i64 sE] bI λe cE=>
 ∃vE:Bool,∃mr:SV,e=.returned (.agg #[.bool vE,mr.v])/\
 S1 cE/\
 Calls prog 38 #[.pointer p0,.int .i64 x8,.agg #[.bool vE,mr.v]] cE λe bO=>
 ∃n73:Int,e=.returned (.int .i64 n73)/\
 S1 bO/\
 Calls prog 62 #[.agg #[.int .i64 vD,mm.v,mn.v,mo.v,mp.v,mq.v],.int .i64 n79] bO λe cq=>
 ∃vF:Bool,∃ms:SV,e=.returned (.agg #[.bool vF,ms.v])/\
 S1 cq/\
 Calls prog 64 #[.pointer p1,.int .i64 n76,.agg #[.bool vF,ms.v]] cq λe d7=>
 ∃n81:Int,e=.returned (.int .i64 n81)/\
 zQb prog ds d7 λdU=>
 R (.returned (.bool (n73 == n81))) dU) (
 Br (kG == 5) (
 dwE w2 λdD=>
 ∃S2:World->Prop,S2 dD/\
 ∃n87,(∀w',S2 w'->w'.cell? ((⟨r7,0,none⟩:Addr).add 1)=some (.int .i64 n87))/\
 ∃xt,(∀w',S2 w'->w'.cell? ((⟨r7,0,none⟩:Addr).add 3)=some (.int .i64 xt))/\
 ∃n94,(∀w',S2 w'->w'.cell? ((⟨r7,0,none⟩:Addr).add 1)=some (.int .i64 n94))/\
 ∃n96,(∀w',S2 w'->w'.cell? ((⟨r7,0,none⟩:Addr).add 3)=some (.int .i64 n96))/\
 Calls prog 39 #[.pointer p0,.int .i64 n87,.bool (xt != 0)] dD λe gy=>
 ∃n91:Int,e=.returned (.int .i64 n91)/\
 S2 gy/\
 Calls prog 65 #[.pointer p1,.int .i64 n94,.bool (n96 != 0)] gy λe fX=>
 ∃n98:Int,e=.returned (.int .i64 n98)/\
 zQb prog ds fX λiy=>
 R (.returned (.bool (n91 == n98))) iy) (
 Br (kG == 6) (
 dwE w2 λeg=>
 ∃S3:World->Prop,S3 eg/\
 ∃zA,(∀w',S3 w'->w'.cell? ((⟨r7,0,none⟩:Addr).add 1)=some (.int .i64 zA))/\
 ∃zB,(∀w',S3 w'->w'.cell? ((⟨r7,0,none⟩:Addr).add 4)=some (.string zB))/\
 ∃rA,(∀w',S3 w'->w'.cell? ((⟨r6,0,none⟩:Addr).add 0)=some (.int .i64 rA))/\
 ∃jf:SV,(∀w',S3 w'->w'.cell? ((⟨r6,0,none⟩:Addr).add 1)=some (jf.v))/\
 ∃jg:SV,(∀w',S3 w'->w'.cell? ((⟨r6,0,none⟩:Addr).add 2)=some (jg.v))/\
 ∃jh:SV,(∀w',S3 w'->w'.cell? ((⟨r6,0,none⟩:Addr).add 3)=some (jh.v))/\
 ∃ji:SV,(∀w',S3 w'->w'.cell? ((⟨r6,0,none⟩:Addr).add 4)=some (ji.v))/\
 ∃jj:SV,(∀w',S3 w'->w'.cell? ((⟨r6,0,none⟩:Addr).add 5)=some (jj.v))/\
 ∃zC,(∀w',S3 w'->w'.cell? ((⟨r7,0,none⟩:Addr).add 2)=some (.int .i64 zC))/\
 ∃zD,(∀w',S3 w'->w'.cell? ((⟨r7,0,none⟩:Addr).add 1)=some (.int .i64 zD))/\
 ∃zE,(∀w',S3 w'->w'.cell? ((⟨r7,0,none⟩:Addr).add 4)=some (.string zE))/\
 ∃rB,(∀w',S3 w'->w'.cell? ((⟨r6,0,none⟩:Addr).add 0)=some (.int .i64 rB))/\
 ∃bq:SV,(∀w',S3 w'->w'.cell? ((⟨r6,0,none⟩:Addr).add 1)=some (bq.v))/\
 ∃jk:SV,(∀w',S3 w'->w'.cell? ((⟨r6,0,none⟩:Addr).add 2)=some (jk.v))/\
 ∃jl:SV,(∀w',S3 w'->w'.cell? ((⟨r6,0,none⟩:Addr).add 3)=some (jl.v))/\
 ∃jm:SV,(∀w',S3 w'->w'.cell? ((⟨r6,0,none⟩:Addr).add 4)=some (jm.v))/\
 ∃jn:SV,(∀w',S3 w'->w'.cell? ((⟨r6,0,none⟩:Addr).add 5)=some (jn.v))/\
 ∃zF,(∀w',S3 w'->w'.cell? ((⟨r7,0,none⟩:Addr).add 2)=some (.int .i64 zF))/\
 Calls prog 66 #[.agg #[.int .i64 rA,jf.v,jg.v,jh.v,ji.v,jj.v],.int .i64 zC] eg λe gb=>
 ∃rC:Int,∃rD:Int,∃rE:ByteArray,e=.returned (.agg #[.int .i64 rC,.int .i64 rD,.string rE])/\
 S3 gb/\
 Calls prog 40 #[.pointer p0,.int .i64 zA,.string zB,.agg #[.int .i64 rC,.int .i64 rD,.string rE]] gb λe iK=>
 ∃zG:Int,e=.returned (.int .i64 zG)/\
 S3 iK/\
 Calls prog 66 #[.agg #[.int .i64 rB,bq.v,jk.v,jl.v,jm.v,jn.v],.int .i64 zF] iK λe il=>
 ∃rF:Int,∃rG:Int,∃rH:ByteArray,e=.returned (.agg #[.int .i64 rF,.int .i64 rG,.string rH])/\
 S3 il/\
 Calls prog 67 #[.pointer p1,.int .i64 zD,.string zE,.agg #[.int .i64 rF,.int .i64 rG,.string rH]] il λe gz=>
 ∃zH:Int,e=.returned (.int .i64 zH)/\
 zQb prog ds gz λgk=>
 R (.returned (.bool (zG == zH))) gk) (
 Calls prog 41 #[.pointer p0] w2 λe gd=>
 ∃zI:Int,e=.returned (.int .i64 zI)/\
 Calls prog 68 #[.pointer p1] gd λe jV=>
 ∃zJ:Int,e=.returned (.int .i64 zJ)/\
 zQb prog ds jV λsA=>
 R (.returned (.bool (zI == zJ))) sA)))))))
theorem F17_p:Pl prog f17 [pS 0,pS 1,aS 2 [.int .i64,.slice,.slice,.slice,.slice,.slice],aS 3 [.int .i64,.int .i64,.int .i64,.int .i64,.str,.str]] F17_1:=λR=>
 lf
theorem yYw (p0 p1:Option Addr) (dp:Int) (bJ oc od oe og:SV) (iW gB oU sJ:Int) (sK sL:ByteArray) (w:World) (R:Rt) (h:F17_1 R p0 p1 dp bJ oc od oe og iW gB oU sJ sK sL [] w):Calls prog 17 #[.pointer p0,.pointer p1,.agg #[.int .i64 dp,bJ.v,oc.v,od.v,oe.v,og.v],.agg #[.int .i64 iW,.int .i64 gB,.int .i64 oU,.int .i64 sJ,.string sK,.string sL]] w R:=
 plC F17_p func17 h
def F16_1(R:Rt)(au:Int)(ah ai bj bl bm:SV)(ds:Ds)(w:World):Prop:=
 alE (.cells #[.int .i64 au,ah.v,ai.v,bj.v,bl.v,bm.v] 41) w λr1 w1=>
 ∃jR,w1.cell? ((⟨r1,0,none⟩:Addr).add 0)=some (.int .i64 jR)/\
 ∃de:SV,w1.cell? ((⟨r1,0,none⟩:Addr).add 1)=some (de.v)/\
 ∃df:SV,w1.cell? ((⟨r1,0,none⟩:Addr).add 2)=some (df.v)/\
 Calls prog 43 #[.agg #[.int .i64 jR,de.v,df.v]] w1 λe w2=>
 ∃rI:Option Addr,∃ed:Int,e=.returned (.tuple #[.pointer rI,.int .i64 ed])/\
 ∃gw,w2.cell? ((⟨r1,0,none⟩:Addr).add 0)=some (.int .i64 gw)/\
 ∃cX:SV,w2.cell? ((⟨r1,0,none⟩:Addr).add 1)=some (cX.v)/\
 ∃cY:SV,w2.cell? ((⟨r1,0,none⟩:Addr).add 2)=some (cY.v)/\
 Calls prog 42 #[.agg #[.int .i64 gw,cX.v,cY.v]] w2 λe w3=>
 ∃vG:Option Addr,∃gf:Int,e=.returned (.tuple #[.pointer vG,.int .i64 gf])/\
 Br (ed != gf) (
 zQb prog ds w3 λw4=>
 R (.returned (.tuple #[.pointer none,.pointer none,.bool false])) w4) (
 ∃qA:Bool,∃w5,(eqS .eql 24 (.tmp 25) (.const (.pointer none)) (.pointer rI) (.pointer none)).run prog w3=.ok (.bool qA) w5/\
 Br (!(qA == (ed != 0))) (
 zQb prog ds w5 λw6=>
 R (.returned (.tuple #[.pointer none,.pointer none,.bool false])) w6) (
 zQb prog ds w5 λw7=>
 R (.returned (.tuple #[.pointer rI,.pointer vG,.bool true])) w7))
theorem F16_p:Pl prog f16 [aS 0 [.int .i64,.slice,.slice,.slice,.slice,.slice]] F16_1:=λR=>
 lf
theorem xQK (au:Int) (ah ai bj bl bm:SV) (w:World) (R:Rt) (h:F16_1 R au ah ai bj bl bm [] w):Calls prog 16 #[.agg #[.int .i64 au,ah.v,ai.v,bj.v,bl.v,bm.v]] w R:=
 plC F16_p func16 h
def F31_1(R:Rt)(p4:Option Addr)(ds:Ds)(w:World):Prop:=
 zQb prog ds w λw1=>
 R (.returned (.tuple #[.pointer p4,.bool true])) w1
def F31_2 (R:Rt) (J1:(Int)->World->Prop) (p1 p4 p5:Option Addr) (n7:Int) (ds:Ds) (w:World):Prop:=
 zQg p1 λa2=>
 ∃gl:SV,w.cell? (a2.add 5)=some (gl.v)/\
 Br (decide (n7<(gl.len:Int))) (
 dwE w λw3=>
 zQg p1 λa4=>
 ∃dL,w3.cell? (a4.add 0)=some (.int .i64 dL)/\
 ∃bh:SV,w3.cell? (a4.add 1)=some (bh.v)/\
 ∃bi:SV,w3.cell? (a4.add 2)=some (bi.v)/\
 ∃mt:SV,w3.cell? (a4.add 3)=some (mt.v)/\
 ∃mv:SV,w3.cell? (a4.add 4)=some (mv.v)/\
 ∃mw:SV,w3.cell? (a4.add 5)=some (mw.v)/\
 zQg p1 λa5=>
 ∃im:SV,w3.cell? (a5.add 5)=some (im.v)/\
 ∃a6,im.a=some a6/\0<=n7/\n7<(im.len:Int)/\
 ∃nT,w3.cell? ((a6.add (n7.toNat * 6)).add 0)=some (.int .i64 nT)/\
 ∃nR,w3.cell? ((a6.add (n7.toNat * 6)).add 1)=some (.int .i64 nR)/\
 ∃vH,w3.cell? ((a6.add (n7.toNat * 6)).add 2)=some (.int .i64 vH)/\
 ∃vI,w3.cell? ((a6.add (n7.toNat * 6)).add 3)=some (.int .i64 vI)/\
 ∃vJ,w3.cell? ((a6.add (n7.toNat * 6)).add 4)=some (.string vJ)/\
 ∃vK,w3.cell? ((a6.add (n7.toNat * 6)).add 5)=some (.string vK)/\
 Calls prog 17 #[.pointer p4,.pointer p5,.agg #[.int .i64 dL,bh.v,bi.v,mt.v,mv.v,mw.v],.agg #[.int .i64 nT,.int .i64 nR,.int .i64 vH,.int .i64 vI,.string vJ,.string vK]] w3 λe w7=>
 ∃b36:Bool,e=.returned (.bool b36)/\
 Br (!b36) (
 zQb prog ds w7 λw8=>
 R (.returned (.tuple #[.pointer none,.bool false])) w8) (
 J1 (IntKind.i64.wrap (n7+1)) w7)) (
 F31_1 R p4 ds w)
def F31_3(R:Rt)(p1 p4 p5:Option Addr)(n7:Int)(ds:Ds)(w:World):Prop:=
 zQA (λ(J1:(Int)->World->Prop) (s:Int) (w:World)=>F31_2 R J1 p1 p4 p5 s ds w) n7 w
def F31_5(R:Rt)(au:Int)(ah ai bj bl bm:SV)(ds:Ds)(w:World):Prop:=
 alE (.cells #[.int .i64 au,ah.v,ai.v,bj.v,bl.v,bm.v] 41) w λr1 w9=>
 ∃ip,w9.cell? ((⟨r1,0,none⟩:Addr).add 0)=some (.int .i64 ip)/\
 ∃qk:SV,w9.cell? ((⟨r1,0,none⟩:Addr).add 1)=some (qk.v)/\
 ∃je:SV,w9.cell? ((⟨r1,0,none⟩:Addr).add 2)=some (je.v)/\
 ∃ql:SV,w9.cell? ((⟨r1,0,none⟩:Addr).add 3)=some (ql.v)/\
 ∃qm:SV,w9.cell? ((⟨r1,0,none⟩:Addr).add 4)=some (qm.v)/\
 ∃qn:SV,w9.cell? ((⟨r1,0,none⟩:Addr).add 5)=some (qn.v)/\
 Calls prog 16 #[.agg #[.int .i64 ip,qk.v,je.v,ql.v,qm.v,qn.v]] w9 λe aO=>
 ∃rJ:Option Addr,∃vL:Option Addr,∃pL:Bool,e=.returned (.tuple #[.pointer rJ,.pointer vL,.bool pL])/\
 Br (!pL) (
 zQb prog ds aO λaR=>
 R (.returned (.tuple #[.pointer none,.bool pL])) aR) (
 ∃nc:Bool,∃aM,(eqS .eql 24 (.tmp 17) (.const (.pointer none)) (.pointer rJ) (.pointer none)).run prog aO=.ok (.bool nc) aM/\
 Br nc (
 zQb prog ds aM λaH=>
 R (.returned (.tuple #[.pointer none,.bool pL])) aH) (
 F31_3 R (some (⟨r1,0,none⟩:Addr)) rJ vL 0 ds aM))
theorem F31_p:Pl prog f31 [aS 0 [.int .i64,.slice,.slice,.slice,.slice,.slice]] F31_5:=λR=>
 pc 5 (rest [pS 1,pS 4,pS 5,iS 7] (F31_3 R) (bk 0 (rest [pS 4] (F31_1 R) lf) (lp [iS 7] [pS 1,pS 4,pS 5,iS 7] (F31_2 R) zXH λJ1=>lf)))
theorem xQI (au:Int) (ah ai bj bl bm:SV) (w:World) (R:Rt) (h:F31_5 R au ah ai bj bl bm [] w):Calls prog 31 #[.agg #[.int .i64 au,ah.v,ai.v,bj.v,bl.v,bm.v]] w R:=
 plC F31_p func31 h
end Go.Proofs.YtaeecpjhfmcliaaGreatDoor
/- Shallow texts of functions, printed by program, each checked by the kernel against the loaded code. No condition. -/
namespace Go.Proofs.YtaeecpjhfmcliaaGreatDoor
open Go.Sh Tryz
def xY0(R:Rt)(n5:Int)(ds:Ds)(w:World):Prop:=
 zQb prog ds w λw1=>
 R (.returned (.int .i64 n5)) w1
def F75_2 (R:Rt) (J1:(Int)->World->Prop) (l0:SV) (n1 n5:Int) (ds:Ds) (w:World):Prop:=
 Br (decide (n5<(l0.len:Int))) (
 ∃a2,l0.a=some a2/\0<=n5/\n5<(l0.len:Int)/\
 ∃kG,w.cell? (a2.add (n5.toNat * 1))=some (.int .i64 kG)/\
 Br (decide (kG<=n1)) (
 J1 (IntKind.i64.wrap (n5+1)) w) (
 xY0 R n5 ds w)) (
 xY0 R n5 ds w)
def F75_3(R:Rt)(l0:SV)(n1 n5:Int)(ds:Ds)(w:World):Prop:=
 zQA (λ(J1:(Int)->World->Prop) (s:Int) (w:World)=>F75_2 R J1 l0 n1 s ds w) n5 w
def F75_5(R:Rt)(l0:SV)(n1:Int)(ds:Ds)(w:World):Prop:=
 F75_3 R l0 n1 0 ds w
theorem F75_p:Pl prog f75 [lS 0,iS 1] F75_5:=λR=>
 pc 2 (rest [lS 0,iS 1,iS 5] (F75_3 R) (bk 0 (rest [iS 5] (xY0 R) lf) (lp [iS 5] [lS 0,iS 1,iS 5] (F75_2 R) zXH λJ1=>lf)))
theorem yYD (l0:SV) (n1:Int) (w:World) (R:Rt) (h:F75_5 R l0 n1 [] w):Calls prog 75 #[l0.v,.int .i64 n1] w R:=
 plC F75_p func75 h
def kQc(R:Rt)(ds:Ds)(w:World):Prop:=
 zQb prog ds w λw1=>
 R (.returned (.int .i64 (-1))) w1
def F32_2 (R:Rt) (J1:(Int)->World->Prop) (p0:Option Addr) (l1:SV) (n2:Int) (p12:Option Addr) (dR:Int) (ds:Ds) (w:World):Prop:=
 Calls prog 75 #[l1.v,.int .i64 n2] w λe w2=>
 ∃gj:Int,e=.returned (.int .i64 gj)/\
 Br (decide (dR<=(IntKind.i64.wrap (gj+1)))) (
 Br (decide (dR<=(l1.len:Int))) (
 Calls prog 27 #[.pointer p0,.int .i64 dR] w2 λe w3=>
 ∃pM:Int,∃ij:SV,∃ik:SV,∃kz:Int,e=.returned (.tuple #[.agg #[.int .i64 pM,ij.v,ik.v],.int .i64 kz])/\
 alE (.cells #[.int .i64 0,.slice none 0 0,.slice none 0 0] 35) w3 λaL w4=>
 stA prog 35 (⟨aL,0,none⟩:Addr) #[.int .i64 pM,ij.v,ik.v] w4 λw5=>
 dwE w5 λw6=>
 ∃S1:World->Prop,S1 w6/\
 ∃iB,(∀w',S1 w'->w'.cell? ((⟨aL,0,none⟩:Addr).add 0)=some (.int .i64 iB))/\
 ∃mx:SV,(∀w',S1 w'->w'.cell? ((⟨aL,0,none⟩:Addr).add 1)=some (mx.v))/\
 ∃my:SV,(∀w',S1 w'->w'.cell? ((⟨aL,0,none⟩:Addr).add 2)=some (my.v))/\
 Calls prog 14 #[.pointer p12] w6 λe w7=>
 ∃ob:Int,∃fP:SV,∃fQ:SV,e=.returned (.agg #[.int .i64 ob,fP.v,fQ.v])/\
 S1 w7/\
 Calls prog 18 #[.agg #[.int .i64 ob,fP.v,fQ.v],.agg #[.int .i64 iB,mx.v,my.v]] w7 λe w8=>
 ∃b60:Bool,e=.returned (.bool b60)/\
 Br b60 (
 zQb prog ds w8 λw9=>
 R (.returned (.int .i64 dR)) w9) (
 J1 (IntKind.i64.wrap (dR+1)) w8)) (
 kQc R ds w2)) (
 kQc R ds w2)
def F32_3(R:Rt)(p0:Option Addr)(l1:SV)(n2:Int)(p12:Option Addr)(dR:Int)(ds:Ds)(w:World):Prop:=
 zQA (λ(J1:(Int)->World->Prop) (s:Int) (w:World)=>F32_2 R J1 p0 l1 n2 p12 s ds w) dR w
def F32_5(R:Rt)(p0:Option Addr)(l1:SV)(n2 n3:Int)(ds:Ds)(w:World):Prop:=
 Calls prog 33 #[.pointer p0,.int .i64 n2,.int .i64 n3] w λe aO=>
 ∃mz:SV,∃cb:SV,∃nG:Int,e=.returned (.tuple #[mz.v,cb.v,.int .i64 nG])/\
 Br (nG != 0) (
 zQb prog ds aO λaR=>
 R (.returned (.int .i64 (-1))) aR) (
 Calls prog 11 #[mz.v,cb.v] aO λe aM=>
 ∃vM:Option Addr,∃jJ:Int,e=.returned (.tuple #[.pointer vM,.int .i64 jJ])/\
 Br (jJ != 0) (
 zQb prog ds aM λaH=>
 R (.returned (.int .i64 (-1))) aH) (
 Calls prog 75 #[l1.v,.int .i64 n2] aM λe bo=>
 ∃i6:Int,e=.returned (.int .i64 i6)/\
 F32_3 R p0 l1 n2 vM i6 ds bo))
theorem F32_p:Pl prog f32 [pS 0,lS 1,iS 2,iS 3] F32_5:=λR=>
 pc 8 (rest [pS 0,lS 1,iS 2,pS 12,iS 13] (F32_3 R) (bk 0 (rest [] (kQc R) lf) (lp [iS 13] [pS 0,lS 1,iS 2,pS 12,iS 13] (F32_2 R) zXH λJ1=>lf)))
theorem xQV (p0:Option Addr) (l1:SV) (n2 n3:Int) (w:World) (R:Rt) (h:F32_5 R p0 l1 n2 n3 [] w):Calls prog 32 #[.pointer p0,l1.v,.int .i64 n2,.int .i64 n3] w R:=
 plC F32_p func32 h
end Go.Proofs.YtaeecpjhfmcliaaGreatDoor
/- Shallow texts of functions, printed by program, each checked by the kernel against the loaded code. No condition. -/
namespace Go.Proofs.YtaeecpjhfmcliaaGreatDoor
open Go.Sh Tryz
end Go.Proofs.YtaeecpjhfmcliaaGreatDoor
/- Shallow texts of functions, printed by program, each checked by the kernel against the loaded code. No condition. -/
namespace Go.Proofs.YtaeecpjhfmcliaaGreatDoor
open Go.Sh Tryz
def F6_1(R:Rt)(n1 n2:Int)(p7:Option Addr)(si:Bool)(ds:Ds)(w:World):Prop:=
 Br si (
 Calls prog 33 #[.pointer p7,.int .i64 n1,.int .i64 n2] w λe w1=>
 ∃pN:SV,∃pO:SV,∃nC:Int,e=.returned (.tuple #[pN.v,pO.v,.int .i64 nC])/\
 Br (nC == 1) (
 Br ((IntKind.i64.wrap ((pN.len:Int)+(pO.len:Int))) == 0) (
 Calls prog 10 #[] w1 λe w2=>
 ∃zK:Bool,e=.returned (.bool zK)/\
 zQb prog ds w2 λw3=>
 R (.returned (.bool zK)) w3) (
 zQb prog ds w1 λw4=>
 R (.returned (.bool false)) w4)) (
 zQb prog ds w1 λw5=>
 R (.returned (.bool false)) w5)) (
 Calls prog 29 #[.pointer p7] w λe w6=>
 ∃qd:SV,e=.returned (qd.v)/\
 Calls prog 32 #[.pointer p7,qd.v,.int .i64 n1,.int .i64 n2] w6 λe w7=>
 ∃n64:Int,e=.returned (.int .i64 n64)/\
 Br (decide (n64 >= 0)) (
 Calls prog 10 #[] w7 λe w8=>
 ∃qU:Bool,e=.returned (.bool qU)/\
 zQb prog ds w8 λw9=>
 R (.returned (.bool qU)) w9) (
 zQb prog ds w7 λaO=>
 R (.returned (.bool false)) aO))
def F6_2(R:Rt)(au:Int)(ah ai bj bl bm:SV)(n1 n2:Int)(ds:Ds)(w:World):Prop:=
 alE (.cells #[.int .i64 au,ah.v,ai.v,bj.v,bl.v,bm.v] 41) w λr3 aR=>
 ∃gL,aR.cell? ((⟨r3,0,none⟩:Addr).add 0)=some (.int .i64 gL)/\
 ∃dc:SV,aR.cell? ((⟨r3,0,none⟩:Addr).add 1)=some (dc.v)/\
 ∃dd:SV,aR.cell? ((⟨r3,0,none⟩:Addr).add 2)=some (dd.v)/\
 ∃mA:SV,aR.cell? ((⟨r3,0,none⟩:Addr).add 3)=some (mA.v)/\
 ∃mB:SV,aR.cell? ((⟨r3,0,none⟩:Addr).add 4)=some (mB.v)/\
 ∃mC:SV,aR.cell? ((⟨r3,0,none⟩:Addr).add 5)=some (mC.v)/\
 Calls prog 15 #[.agg #[.int .i64 gL,dc.v,dd.v,mA.v,mB.v,mC.v]] aR λe aM=>
 ∃jX:Bool,e=.returned (.bool jX)/\
 Br jX (
 Calls prog 10 #[] aM λe aH=>
 ∃gS:Bool,e=.returned (.bool gS)/\
 zQb prog ds aH λbo=>
 R (.returned (.bool gS)) bo) (
 ∃fJ,aM.cell? ((⟨r3,0,none⟩:Addr).add 0)=some (.int .i64 fJ)/\
 ∃c9:SV,aM.cell? ((⟨r3,0,none⟩:Addr).add 1)=some (c9.v)/\
 ∃db:SV,aM.cell? ((⟨r3,0,none⟩:Addr).add 2)=some (db.v)/\
 ∃fR:SV,aM.cell? ((⟨r3,0,none⟩:Addr).add 3)=some (fR.v)/\
 ∃fS:SV,aM.cell? ((⟨r3,0,none⟩:Addr).add 4)=some (fS.v)/\
 ∃fT:SV,aM.cell? ((⟨r3,0,none⟩:Addr).add 5)=some (fT.v)/\
 Calls prog 31 #[.agg #[.int .i64 fJ,c9.v,db.v,fR.v,fS.v,fT.v]] aM λe bt=>
 ∃mD:Option Addr,∃vN:Bool,e=.returned (.tuple #[.pointer mD,.bool vN])/\
 ∃rg:Bool,∃bB,(eqS .eql 24 (.tmp 20) (.const (.pointer none)) (.pointer mD) (.pointer none)).run prog bt=.ok (.bool rg) bB/\
 Br rg (
 Br vN (
 Calls prog 10 #[] bB λe bG=>
 ∃qC:Bool,e=.returned (.bool qC)/\
 zQb prog ds bG λbI=>
 R (.returned (.bool qC)) bI) (
 zQb prog ds bB λcE=>
 R (.returned (.bool false)) cE)) (
 Br (decide (n1<0)) (
 F6_1 R n1 n2 mD true ds bB) (
 Calls prog 30 #[.pointer mD] bB λe bO=>
 ∃qL:Int,e=.returned (.int .i64 qL)/\
 Br (decide (n1 > qL)) (
 F6_1 R n1 n2 mD true ds bO) (
 F6_1 R n1 n2 mD (decide (n2<0)) ds bO))))
theorem F6_p:Pl prog f6 [aS 0 [.int .i64,.slice,.slice,.slice,.slice,.slice],iS 1,iS 2] F6_2:=λR=>
 pc 7 (rest [iS 1,iS 2,pS 7,bS 37] (F6_1 R) lf)
theorem xJl (au:Int) (ah ai bj bl bm:SV) (n1 n2:Int) (w:World) (R:Rt) (h:F6_2 R au ah ai bj bl bm n1 n2 [] w):Calls prog 6 #[.agg #[.int .i64 au,ah.v,ai.v,bj.v,bl.v,bm.v],.int .i64 n1,.int .i64 n2] w R:=
 plC F6_p func6 h
end Go.Proofs.YtaeecpjhfmcliaaGreatDoor
/- Shallow texts of functions, printed by program, each checked by the kernel against the loaded code. No condition. -/
namespace Go.Proofs.YtaeecpjhfmcliaaGreatDoor
open Go.Sh Tryz
def F5_1(R:Rt)(p5:Option Addr)(l7:SV)(n8:Int)(ds:Ds)(w:World):Prop:=
 Calls prog 32 #[.pointer p5,l7.v,.int .i64 n8,.int .i64 0] w λe w1=>
 ∃kv:Int,e=.returned (.int .i64 kv)/\
 Br (kv == (l7.len:Int)) (
 Calls prog 10 #[] w1 λe w2=>
 ∃b75:Bool,e=.returned (.bool b75)/\
 zQb prog ds w2 λw3=>
 R (.returned (.bool b75)) w3) (
 zQb prog ds w1 λw4=>
 R (.returned (.bool false)) w4)
def F5_2 (R:Rt) (J1:(Int × Int)->World->Prop) (n1:Int) (p5:Option Addr) (l7:SV) (n8 n9 fY cF:Int) (ds:Ds) (w:World):Prop:=
 J1 (n9,(IntKind.i64.wrap (cF+fY))) w
def F5_3 (R:Rt) (J1:(Int × Int)->World->Prop) (J2:(Int × Int)->World->Prop) (n1:Int) (p5:Option Addr) (l7:SV) (n8 n9 fY cF:Int) (oH:SV) (qx i7:Int) (ds:Ds) (w:World):Prop:=
 Br (decide (i7<qx)) (
 ∃a5,oH.a=some a5/\0<=i7/\i7<(oH.len:Int)/\
 ∃n56,w.cell? (a5.add (i7.toNat * 1))=some (.int .i64 n56)/\
 Calls prog 32 #[.pointer p5,l7.v,.int .i64 cF,.int .i64 n56] w λe w6=>
 ∃n61:Int,e=.returned (.int .i64 n61)/\
 Br (decide (n61<n9)) (
 zQb prog ds w6 λw7=>
 R (.returned (.bool false)) w7) (
 J2 (n61,(IntKind.i64.wrap (i7+1))) w6)) (
 F5_2 R J1 n1 p5 l7 n8 n9 fY cF ds w)
def F5_4 (R:Rt) (J1:(Int × Int)->World->Prop) (n1:Int) (p5:Option Addr) (l7:SV) (n8 n9 fY cF:Int) (oH:SV) (qx i7:Int) (ds:Ds) (w:World):Prop:=
 zQA (λ(J2:(Int × Int)->World->Prop) (s:Int × Int) (w:World)=>F5_3 R J1 J2 n1 p5 l7 n8 s.1 fY cF oH qx s.2 ds w) (n9,i7) w
def F5_6 (R:Rt) (J1:(Int × Int)->World->Prop) (n1:Int) (p5:Option Addr) (l7:SV) (n8 n9 fY cF:Int) (ds:Ds) (w:World):Prop:=
 ∃n44:Int,∃w8,(Builtin.max_ #[3,3] 3 #[.int .i64 n1,.int .i64 0]).run prog w=.ok (.int .i64 n44) w8/\
 Br (decide (n1<0)) (
 IntKind.i64=IntKind.i64/\(7:Int) ≠ 0/\
 ∃iE:Int,∃w9,(Builtin.min_ #[3,3] 3 #[.int .i64 (cF.tmod 7),.int .i64 1099511627776]).run prog w8=.ok (.int .i64 iE) w9/\
 alE (.cells #[.int .i64 0,.int .i64 iE] 3) w9 λzL aO=>
 F5_4 R J1 n1 p5 l7 n8 n9 fY cF ⟨(some ⟨zL,0,none⟩),2,2⟩ (2:Int) 0 ds aO) (
 ∃iE:Int,∃aR,(Builtin.min_ #[3,3] 3 #[.int .i64 n44,.int .i64 1099511627776]).run prog w8=.ok (.int .i64 iE) aR/\
 alE (.cells #[.int .i64 0,.int .i64 iE] 3) aR λzL aM=>
 F5_4 R J1 n1 p5 l7 n8 n9 fY cF ⟨(some ⟨zL,0,none⟩),2,2⟩ (2:Int) 0 ds aM)
def F5_8 (R:Rt) (J1:(Int × Int)->World->Prop) (n1:Int) (p5:Option Addr) (l7:SV) (n8 n9 fY cF:Int) (ds:Ds) (w:World):Prop:=
 Br (decide (cF<=n8)) (
 F5_6 R J1 n1 p5 l7 n8 n9 fY cF ds w) (
 F5_1 R p5 l7 n8 ds w)
def F5_9(R:Rt)(n1:Int)(p5:Option Addr)(l7:SV)(n8 n9 fY cF:Int)(ds:Ds)(w:World):Prop:=
 zQA (λ(J1:(Int × Int)->World->Prop) (s:Int × Int) (w:World)=>F5_8 R J1 n1 p5 l7 n8 s.1 fY s.2 ds w) (n9,cF) w
def F5_11(R:Rt)(au:Int)(ah ai bj bl bm:SV)(n1:Int)(ds:Ds)(w:World):Prop:=
 alE (.cells #[.int .i64 au,ah.v,ai.v,bj.v,bl.v,bm.v] 41) w λr2 aH=>
 ∃fJ,aH.cell? ((⟨r2,0,none⟩:Addr).add 0)=some (.int .i64 fJ)/\
 ∃c9:SV,aH.cell? ((⟨r2,0,none⟩:Addr).add 1)=some (c9.v)/\
 ∃db:SV,aH.cell? ((⟨r2,0,none⟩:Addr).add 2)=some (db.v)/\
 ∃fR:SV,aH.cell? ((⟨r2,0,none⟩:Addr).add 3)=some (fR.v)/\
 ∃fS:SV,aH.cell? ((⟨r2,0,none⟩:Addr).add 4)=some (fS.v)/\
 ∃fT:SV,aH.cell? ((⟨r2,0,none⟩:Addr).add 5)=some (fT.v)/\
 Calls prog 15 #[.agg #[.int .i64 fJ,c9.v,db.v,fR.v,fS.v,fT.v]] aH λe bo=>
 ∃qw:Bool,e=.returned (.bool qw)/\
 Br qw (
 Calls prog 10 #[] bo λe bt=>
 ∃nc:Bool,e=.returned (.bool nc)/\
 zQb prog ds bt λbB=>
 R (.returned (.bool nc)) bB) (
 ∃eL,bo.cell? ((⟨r2,0,none⟩:Addr).add 0)=some (.int .i64 eL)/\
 ∃cb:SV,bo.cell? ((⟨r2,0,none⟩:Addr).add 1)=some (cb.v)/\
 ∃mE:SV,bo.cell? ((⟨r2,0,none⟩:Addr).add 2)=some (mE.v)/\
 ∃mF:SV,bo.cell? ((⟨r2,0,none⟩:Addr).add 3)=some (mF.v)/\
 ∃mG:SV,bo.cell? ((⟨r2,0,none⟩:Addr).add 4)=some (mG.v)/\
 ∃mH:SV,bo.cell? ((⟨r2,0,none⟩:Addr).add 5)=some (mH.v)/\
 Calls prog 31 #[.agg #[.int .i64 eL,cb.v,mE.v,mF.v,mG.v,mH.v]] bo λe bG=>
 ∃om:Option Addr,∃oa:Bool,e=.returned (.tuple #[.pointer om,.bool oa])/\
 ∃oW:Bool,∃bI,(eqS .eql 24 (.tmp 24) (.const (.pointer none)) (.pointer om) (.pointer none)).run prog bG=.ok (.bool oW) bI/\
 Br oW (
 Br oa (
 Calls prog 10 #[] bI λe cE=>
 ∃b28:Bool,e=.returned (.bool b28)/\
 zQb prog ds cE λbO=>
 R (.returned (.bool b28)) bO) (
 zQb prog ds bI λcq=>
 R (.returned (.bool false)) cq)) (
 Calls prog 29 #[.pointer om] bI λe d7=>
 ∃iP:SV,e=.returned (iP.v)/\
 Calls prog 30 #[.pointer om] d7 λe dU=>
 ∃oK:Int,e=.returned (.int .i64 oK)/\
 IntKind.i64=IntKind.i64/\(120:Int) ≠ 0/\
 F5_9 R n1 om iP oK 0 (IntKind.i64.wrap ((IntKind.i64.wrap (oK.tdiv 120))+1)) 0 ds dU))
theorem F5_p:Pl prog f5 [aS 0 [.int .i64,.slice,.slice,.slice,.slice,.slice],iS 1] F5_11:=λR=>
 pc 9 (rest [iS 1,pS 5,lS 7,iS 8,iS 9,iS 10,iS 11] (F5_9 R) (bk 0 (rest [pS 5,lS 7,iS 8] (F5_1 R) lf) (lp [iS 9,iS 11] [iS 1,pS 5,lS 7,iS 8,iS 9,iS 10,iS 11] (F5_8 R) zXH λJ1=>pc 2 (rest [iS 1,pS 5,lS 7,iS 8,iS 9,iS 10,iS 11] (F5_6 R J1) (bk 1 (rest [iS 1,pS 5,lS 7,iS 8,iS 9,iS 10,iS 11] (F5_2 R J1) lf) (pc 4 (rest [iS 1,pS 5,lS 7,iS 8,iS 9,iS 10,iS 11,lS 51,iS 52,iS 53] (F5_4 R J1) (bk 2 zXH (lp [iS 9,iS 53] [iS 1,pS 5,lS 7,iS 8,iS 9,iS 10,iS 11,lS 51,iS 52,iS 53] (F5_3 R J1) zXH λJ2=>lf)))))))))
theorem xZy (au:Int) (ah ai bj bl bm:SV) (n1:Int) (w:World) (R:Rt) (h:F5_11 R au ah ai bj bl bm n1 [] w):Calls prog 5 #[.agg #[.int .i64 au,ah.v,ai.v,bj.v,bl.v,bm.v],.int .i64 n1] w R:=
 plC F5_p func5 h
end Go.Proofs.YtaeecpjhfmcliaaGreatDoor
