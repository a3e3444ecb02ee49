import Derived.Test.YtaeecpjhfmcliaaGreatDoorProg
import Derived.Test.YtaeecpjhfmcliaaGreatDoorShTwentyEight
/- Shallow texts of functions, printed by program, each checked by the kernel against the loaded code. No condition. -/
set_option maxRecDepth 100000
set_option linter.unusedVariables false
namespace Go.Proofs.YtaeecpjhfmcliaaGreatDoor
open Go.Sh Tryz
def F42_1(R:Rt)(ax:Int)(ah ai:SV)(ds:Ds)(w:World):Prop:=
 alE (.cells #[.int .i64 ax,ah.v,ai.v] 35) w λr1 w1=>
 ∃iK,w1.cell? ((⟨r1,0,none⟩:Addr).add 0)=some (.int .i64 iK)/\
 ∃dA:SV,w1.cell? ((⟨r1,0,none⟩:Addr).add 1)=some (dA.v)/\
 ∃cE:SV,w1.cell? ((⟨r1,0,none⟩:Addr).add 2)=some (cE.v)/\
 Calls prog 13 #[.agg #[.int .i64 iK,dA.v,cE.v]] w1 λe w2=>
 ∃n6:Int,e=.returned (.int .i64 n6)/\
 Br (n6 != 0) (
 zQb prog ds w2 λw3=>
 R (.returned (.tuple #[.pointer none,.int .i64 n6])) w3) (
 dwE w2 λw4=>
 ∃S1:World->Prop,S1 w4/\
 ∃eX,(∀w',S1 w'->w'.cell? ((⟨r1,0,none⟩:Addr).add 0)=some (.int .i64 eX))/\
 ∃bv:SV,(∀w',S1 w'->w'.cell? ((⟨r1,0,none⟩:Addr).add 1)=some (bv.v))/\
 ∃bw:SV,(∀w',S1 w'->w'.cell? ((⟨r1,0,none⟩:Addr).add 2)=some (bw.v))/\
 ∃jV,(∀w',S1 w'->w'.cell? ((⟨r1,0,none⟩:Addr).add 0)=some (.int .i64 jV))/\
 ∃fO:SV,(∀w',S1 w'->w'.cell? ((⟨r1,0,none⟩:Addr).add 1)=some (fO.v))/\
 ∃fP:SV,(∀w',S1 w'->w'.cell? ((⟨r1,0,none⟩:Addr).add 2)=some (fP.v))/\
 Calls prog 71 #[.agg #[.int .i64 eX,bv.v,bw.v]] w4 λe w5=>
 ∃j0:Int,∃dc:SV,∃dd:SV,e=.returned (.agg #[.int .i64 j0,dc.v,dd.v])/\
 S1 w5/\
 Calls prog 71 #[.agg #[.int .i64 jV,fO.v,fP.v]] w5 λe w6=>
 ∃vX:Int,∃md:SV,∃me:SV,e=.returned (.agg #[.int .i64 vX,md.v,me.v])/\
 alE (.cells #[.int .i64 vX,md.v,me.v] 35) w6 λaL w7=>
 alE (.cells #[.int .i64 j0,dc.v,dd.v,.slice (some ⟨aL,0,none⟩) 1 1,.slice none 0 0] 115) w7 λr16 w8=>
 zQb prog ds w8 λw9=>
 R (.returned (.tuple #[.pointer (some (⟨r16,0,none⟩:Addr)),.int .i64 0])) w9)
theorem F42_p:Pl prog f42 [aS 0 [.int .i64,.slice,.slice]] F42_1:=λR=>
 lf
theorem xQl (ax:Int) (ah ai:SV) (w:World) (R:Rt) (h:F42_1 R ax ah ai [] w):Calls prog 42 #[.agg #[.int .i64 ax,ah.v,ai.v]] w R:=
 plC F42_p func42 h
def F99_1(R:Rt)(p0:Option Addr)(ds:Ds)(w:World):Prop:=
 dwE w λw1=>
 zQg p0 λa2=>
 ∃l5:SV,w1.cell? (a2.add 4)=some (l5.v)/\
 Br ((l5.len:Int) == 0) (
 zQg p0 λa3=>
 ∃jV,w1.cell? (a3.add 0)=some (.int .i64 jV)/\
 ∃fO:SV,w1.cell? (a3.add 1)=some (fO.v)/\
 ∃fP:SV,w1.cell? (a3.add 2)=some (fP.v)/\
 zQg p0 λa4=>
 ∃cO:SV,w1.cell? (a4.add 3)=some (cO.v)/\
 zQg p0 λa5=>
 ∃dZ:SV,w1.cell? (a5.add 3)=some (dZ.v)/\
 ∃a6,cO.a=some a6/\0<=(IntKind.i64.wrap ((dZ.len:Int) - 1))/\(IntKind.i64.wrap ((dZ.len:Int) - 1))<(cO.len:Int)/\
 ∃jT,w1.cell? ((a6.add ((IntKind.i64.wrap ((dZ.len:Int) - 1)).toNat * 3)).add 0)=some (.int .i64 jT)/\
 ∃ci:SV,w1.cell? ((a6.add ((IntKind.i64.wrap ((dZ.len:Int) - 1)).toNat * 3)).add 1)=some (ci.v)/\
 ∃fN:SV,w1.cell? ((a6.add ((IntKind.i64.wrap ((dZ.len:Int) - 1)).toNat * 3)).add 2)=some (fN.v)/\
 Calls prog 18 #[.agg #[.int .i64 jV,fO.v,fP.v],.agg #[.int .i64 jT,ci.v,fN.v]] w1 λe w7=>
 ∃qQ:Bool,e=.returned (.bool qQ)/\
 Br (!qQ) (
 dwE w7 λw8=>
 ∃S2:World->Prop,S2 w8/\
 zQg p0 λa9=>
 ∃ij:SV,(∀w',S2 w'->w'.cell? (a9.add 3)=some (ij.v))/\
 zQg p0 λdx=>
 ∃gN,(∀w',S2 w'->w'.cell? (dx.add 0)=some (.int .i64 gN))/\
 ∃cf:SV,(∀w',S2 w'->w'.cell? (dx.add 1)=some (cf.v))/\
 ∃cg:SV,(∀w',S2 w'->w'.cell? (dx.add 2)=some (cg.v))/\
 Calls prog 71 #[.agg #[.int .i64 gN,cf.v,cg.v]] w8 λe aV=>
 ∃eO:Int,∃cj:SV,∃ck:SV,e=.returned (.agg #[.int .i64 eO,cj.v,ck.v])/\
 S2 aV/\
 alE (.cells #[.int .i64 eO,cj.v,ck.v] 35) aV λr38 aO=>
 S2 aO/\
 ∃iI:SV,∃aH,(Builtin.append_ #[106,106] 106 #[ij.v,.slice (some ⟨r38,0,none⟩) 1 1]).run prog aO=.ok (iI.v) aH/\
 zQg p0 λf7=>
 st1 (f7.add 3) (iI.v) aH λbp=>
 zQb prog ds bp λbG=>
 R (.returned (.tuple #[])) bG) (
 zQb prog ds w7 λbH=>
 R (.returned (.tuple #[])) bH)) (
 zQb prog ds w1 λbO=>
 R (.returned (.tuple #[])) bO)
theorem F99_p:Pl prog f99 [pS 0] F99_1:=λR=>
 lf
theorem yYn (p0:Option Addr) (w:World) (R:Rt) (h:F99_1 R p0 [] w):Calls prog 99 #[.pointer p0] w R:=
 plC F99_p func99 h
def F59_1(R:Rt)(p0:Option Addr)(ds:Ds)(w:World):Prop:=
 zQg p0 λa1=>
 ∃l6:SV,w.cell? (a1.add 4)=some (l6.v)/\
 Br (decide ((l6.len:Int) >= 8)) (
 zQb prog ds w λw2=>
 R (.returned (.int .i64 3)) w2) (
 dwE w λw3=>
 ∃S1:World->Prop,S1 w3/\
 zQg p0 λa4=>
 ∃cD:SV,(∀w',S1 w'->w'.cell? (a4.add 4)=some (cD.v))/\
 zQg p0 λa5=>
 ∃gx,(∀w',S1 w'->w'.cell? (a5.add 0)=some (.int .i64 gx))/\
 ∃cZ:SV,(∀w',S1 w'->w'.cell? (a5.add 1)=some (cZ.v))/\
 ∃c8:SV,(∀w',S1 w'->w'.cell? (a5.add 2)=some (c8.v))/\
 Calls prog 71 #[.agg #[.int .i64 gx,cZ.v,c8.v]] w3 λe w6=>
 ∃gw:Int,∃bY:SV,∃c9:SV,e=.returned (.agg #[.int .i64 gw,bY.v,c9.v])/\
 S1 w6/\
 alE (.cells #[.int .i64 gw,bY.v,c9.v] 35) w6 λr19 w7=>
 S1 w7/\
 ∃dZ:SV,∃w8,(Builtin.append_ #[106,106] 106 #[cD.v,.slice (some ⟨r19,0,none⟩) 1 1]).run prog w7=.ok (dZ.v) w8/\
 zQg p0 λa9=>
 st1 (a9.add 4) (dZ.v) w8 λaN=>
 zQb prog ds aN λaV=>
 R (.returned (.int .i64 0)) aV)
theorem F59_p:Pl prog f59 [pS 0] F59_1:=λR=>
 lf
theorem xZq (p0:Option Addr) (w:World) (R:Rt) (h:F59_1 R p0 [] w):Calls prog 59 #[.pointer p0] w R:=
 plC F59_p func59 h
def F60_1(R:Rt)(p0:Option Addr)(ds:Ds)(w:World):Prop:=
 zQg p0 λa1=>
 ∃l6:SV,w.cell? (a1.add 4)=some (l6.v)/\
 Br ((l6.len:Int) == 0) (
 zQb prog ds w λw2=>
 R (.returned (.int .i64 9)) w2) (
 dwE w λw3=>
 zQg p0 λa4=>
 ∃cD:SV,w3.cell? (a4.add 4)=some (cD.v)/\
 zQg p0 λa5=>
 ∃dI:SV,w3.cell? (a5.add 4)=some (dI.v)/\
 0<=(IntKind.i64.wrap ((dI.len:Int) - 1))/\(IntKind.i64.wrap ((dI.len:Int) - 1)).toNat<=cD.cap/\0<=(IntKind.i64.wrap ((dI.len:Int) - 1)).toNat/\
 zQg p0 λa6=>
 st1 (a6.add 4) (.slice (if cD.cap=0 then cD.a else cD.a.map (λx=>x.add (0 * 3))) ((IntKind.i64.wrap ((dI.len:Int) - 1)).toNat - 0) (cD.cap - 0)) w3 λw7=>
 Calls prog 99 #[.pointer p0] w7 λe w8=>
 e=.returned (.tuple #[])/\
 zQb prog ds w8 λw9=>
 R (.returned (.int .i64 0)) w9)
theorem F60_p:Pl prog f60 [pS 0] F60_1:=λR=>
 lf
theorem xXv (p0:Option Addr) (w:World) (R:Rt) (h:F60_1 R p0 [] w):Calls prog 60 #[.pointer p0] w R:=
 plC F60_p func60 h
def F61_1(R:Rt)(p0:Option Addr)(ds:Ds)(w:World):Prop:=
 zQg p0 λa1=>
 ∃l6:SV,w.cell? (a1.add 4)=some (l6.v)/\
 Br ((l6.len:Int) == 0) (
 zQb prog ds w λw2=>
 R (.returned (.int .i64 9)) w2) (
 dwE w λw3=>
 zQg p0 λa4=>
 ∃cD:SV,w3.cell? (a4.add 4)=some (cD.v)/\
 zQg p0 λa5=>
 ∃dI:SV,w3.cell? (a5.add 4)=some (dI.v)/\
 ∃a6,cD.a=some a6/\0<=(IntKind.i64.wrap ((dI.len:Int) - 1))/\(IntKind.i64.wrap ((dI.len:Int) - 1))<(cD.len:Int)/\
 ∃dN,w3.cell? ((a6.add ((IntKind.i64.wrap ((dI.len:Int) - 1)).toNat * 3)).add 0)=some (.int .i64 dN)/\
 ∃db:SV,w3.cell? ((a6.add ((IntKind.i64.wrap ((dI.len:Int) - 1)).toNat * 3)).add 1)=some (db.v)/\
 ∃fM:SV,w3.cell? ((a6.add ((IntKind.i64.wrap ((dI.len:Int) - 1)).toNat * 3)).add 2)=some (fM.v)/\
 zQg p0 λa7=>
 stA prog 35 a7 #[.int .i64 dN,db.v,fM.v] w3 λw8=>
 dwE w8 λw9=>
 zQg p0 λdx=>
 ∃eD:SV,w9.cell? (dx.add 4)=some (eD.v)/\
 zQg p0 λdY=>
 ∃ij:SV,w9.cell? (dY.add 4)=some (ij.v)/\
 0<=(IntKind.i64.wrap ((ij.len:Int) - 1))/\(IntKind.i64.wrap ((ij.len:Int) - 1)).toNat<=eD.cap/\0<=(IntKind.i64.wrap ((ij.len:Int) - 1)).toNat/\
 zQg p0 λkR=>
 st1 (kR.add 4) (.slice (if eD.cap=0 then eD.a else eD.a.map (λx=>x.add (0 * 3))) ((IntKind.i64.wrap ((ij.len:Int) - 1)).toNat - 0) (eD.cap - 0)) w9 λaH=>
 zQb prog ds aH λbq=>
 R (.returned (.int .i64 0)) bq)
theorem F61_p:Pl prog f61 [pS 0] F61_1:=λR=>
 lf
theorem yYY (p0:Option Addr) (w:World) (R:Rt) (h:F61_1 R p0 [] w):Calls prog 61 #[.pointer p0] w R:=
 plC F61_p func61 h
def xKl(R:Rt)(p0:Option Addr)(n1:Int)(ds:Ds)(w:World):Prop:=
 Br (decide (n1 >= 1)) (
 zQg p0 λa1=>
 ∃cD:SV,w.cell? (a1.add 2)=some (cD.v)/\
 zQb prog ds w λw2=>
 R (.returned (.bool (decide (n1<=(cD.len:Int))))) w2) (
 zQb prog ds w λw3=>
 R (.returned (.bool false)) w3)
theorem F101_p:Pl prog f101 [pS 0,iS 1] xKl:=λR=>
 lf
theorem yWR (p0:Option Addr) (n1:Int) (w:World) (R:Rt) (h:xKl R p0 n1 [] w):Calls prog 101 #[.pointer p0,.int .i64 n1] w R:=
 plC F101_p func101 h
def xVU(R:Rt)(p0:Option Addr)(n1:Int)(ga:Bool)(bJ:SV)(ds:Ds)(w:World):Prop:=
 alE (.cells #[.bool ga,bJ.v] 67) w λr5 w1=>
 zQg p0 λa2=>
 ∃eX,w1.cell? (a2.add 0)=some (.int .i64 eX)/\
 ∃bv:SV,w1.cell? (a2.add 1)=some (bv.v)/\
 ∃bw:SV,w1.cell? (a2.add 2)=some (bw.v)/\
 Calls prog 71 #[.agg #[.int .i64 eX,bv.v,bw.v]] w1 λe w3=>
 ∃j0:Int,∃dc:SV,∃dd:SV,e=.returned (.agg #[.int .i64 j0,dc.v,dd.v])/\
 alE (.cells #[.int .i64 0,.slice none 0 0,.slice none 0 0] 35) w3 λr6 w4=>
 stA prog 35 (⟨r6,0,none⟩:Addr) #[.int .i64 j0,dc.v,dd.v] w4 λw5=>
 ∃bR:SV,w5.cell? ((⟨r6,0,none⟩:Addr).add 2)=some (bR.v)/\
 Br (decide (n1 > (bR.len:Int))) (
 ∃dv:SV,w5.cell? ((⟨r6,0,none⟩:Addr).add 2)=some (dv.v)/\
 alE (.cells #[.bool false,.slice none 0 0] 67) w5 λr20 w6=>
 ∃cK:SV,∃w7,(Builtin.append_ #[33,33] 33 #[dv.v,.slice (some ⟨r20,0,none⟩) 1 1]).run prog w6=.ok (cK.v) w7/\
 st1 ((⟨r6,0,none⟩:Addr).add 2) (cK.v) w7 λw8=>
 dwE w8 λw9=>
 ∃S1:World->Prop,S1 w9/\
 ∃bX:SV,(∀w',S1 w'->w'.cell? ((⟨r6,0,none⟩:Addr).add 2)=some (bX.v))/\
 ∃gP,(∀w',S1 w'->w'.cell? ((⟨r5,0,none⟩:Addr).add 0)=some (.bool gP))/\
 ∃cn:SV,(∀w',S1 w'->w'.cell? ((⟨r5,0,none⟩:Addr).add 1)=some (cn.v))/\
 Calls prog 102 #[.agg #[.bool gP,cn.v]] w9 λe aN=>
 ∃dG:Bool,∃aZ:SV,e=.returned (.agg #[.bool dG,aZ.v])/\
 S1 aN/\
 ∃dY,bX.a=some dY/\0<=(IntKind.i64.wrap (n1 - 1))/\(IntKind.i64.wrap (n1 - 1))<(bX.len:Int)/\
 stA prog 67 (dY.add ((IntKind.i64.wrap (n1 - 1)).toNat * 2)) #[.bool dG,aZ.v] aN λaO=>
 ∃bK,aO.cell? ((⟨r6,0,none⟩:Addr).add 0)=some (.int .i64 bK)/\
 ∃aP:SV,aO.cell? ((⟨r6,0,none⟩:Addr).add 1)=some (aP.v)/\
 ∃aQ:SV,aO.cell? ((⟨r6,0,none⟩:Addr).add 2)=some (aQ.v)/\
 zQg p0 λlq=>
 stA prog 35 lq #[.int .i64 bK,aP.v,aQ.v] aO λbq=>
 Calls prog 99 #[.pointer p0] bq λe bp=>
 e=.returned (.tuple #[])/\
 zQb prog ds bp λbG=>
 R (.returned (.tuple #[])) bG) (
 dwE w5 λbH=>
 ∃S2:World->Prop,S2 bH/\
 ∃bX:SV,(∀w',S2 w'->w'.cell? ((⟨r6,0,none⟩:Addr).add 2)=some (bX.v))/\
 ∃gP,(∀w',S2 w'->w'.cell? ((⟨r5,0,none⟩:Addr).add 0)=some (.bool gP))/\
 ∃cn:SV,(∀w',S2 w'->w'.cell? ((⟨r5,0,none⟩:Addr).add 1)=some (cn.v))/\
 Calls prog 102 #[.agg #[.bool gP,cn.v]] bH λe bO=>
 ∃dG:Bool,∃aZ:SV,e=.returned (.agg #[.bool dG,aZ.v])/\
 S2 bO/\
 ∃kW,bX.a=some kW/\0<=(IntKind.i64.wrap (n1 - 1))/\(IntKind.i64.wrap (n1 - 1))<(bX.len:Int)/\
 stA prog 67 (kW.add ((IntKind.i64.wrap (n1 - 1)).toNat * 2)) #[.bool dG,aZ.v] bO λbU=>
 ∃bK,bU.cell? ((⟨r6,0,none⟩:Addr).add 0)=some (.int .i64 bK)/\
 ∃aP:SV,bU.cell? ((⟨r6,0,none⟩:Addr).add 1)=some (aP.v)/\
 ∃aQ:SV,bU.cell? ((⟨r6,0,none⟩:Addr).add 2)=some (aQ.v)/\
 zQg p0 λa21=>
 stA prog 35 a21 #[.int .i64 bK,aP.v,aQ.v] bU λdX=>
 Calls prog 99 #[.pointer p0] dX λe dV=>
 e=.returned (.tuple #[])/\
 zQb prog ds dV λdy=>
 R (.returned (.tuple #[])) dy)
theorem F100_p:Pl prog f100 [pS 0,iS 1,aS 2 [.bool,.slice]] xVU:=λR=>
 lf
theorem yVi (p0:Option Addr) (n1:Int) (ga:Bool) (bJ:SV) (w:World) (R:Rt) (h:xVU R p0 n1 ga bJ [] w):Calls prog 100 #[.pointer p0,.int .i64 n1,.agg #[.bool ga,bJ.v]] w R:=
 plC F100_p func100 h
def F63_1(R:Rt)(p0:Option Addr)(eE:Bool)(bg:SV)(ds:Ds)(w:World):Prop:=
 alE (.cells #[.bool eE,bg.v] 67) w λr3 w1=>
 zQg p0 λa2=>
 ∃ik:SV,w1.cell? (a2.add 2)=some (ik.v)/\
 Br (decide ((IntKind.i64.wrap ((ik.len:Int)+1)) > 300)) (
 zQb prog ds w1 λw3=>
 R (.returned (.tuple #[.int .i64 0,.int .i64 3])) w3) (
 dwE w1 λw4=>
 zQg p0 λa5=>
 ∃cK:SV,w4.cell? (a5.add 1)=some (cK.v)/\
 zQg p0 λa6=>
 ∃cu,w4.cell? a6=some (.int .i64 cu)/\
 ∃gP,w4.cell? ((⟨r3,0,none⟩:Addr).add 0)=some (.bool gP)/\
 ∃cn:SV,w4.cell? ((⟨r3,0,none⟩:Addr).add 1)=some (cn.v)/\
 Calls prog 54 #[cK.v,.int .i64 cu,.agg #[.bool gP,cn.v]] w4 λe w7=>
 ∃kP:Int,e=.returned (.int .i64 kP)/\
 Br (kP != 0) (
 zQb prog ds w7 λw8=>
 R (.returned (.tuple #[.int .i64 0,.int .i64 kP])) w8) (
 ∃vY,w7.cell? ((⟨r3,0,none⟩:Addr).add 0)=some (.bool vY)/\
 ∃mf:SV,w7.cell? ((⟨r3,0,none⟩:Addr).add 1)=some (mf.v)/\
 Calls prog 100 #[.pointer p0,.int .i64 (IntKind.i64.wrap ((ik.len:Int)+1)),.agg #[.bool vY,mf.v]] w7 λe w9=>
 e=.returned (.tuple #[])/\
 zQb prog ds w9 λaN=>
 R (.returned (.tuple #[.int .i64 (IntKind.i64.wrap ((ik.len:Int)+1)),.int .i64 0])) aN))
theorem F63_p:Pl prog f63 [pS 0,aS 1 [.bool,.slice]] F63_1:=λR=>
 lf
theorem yYu (p0:Option Addr) (eE:Bool) (bg:SV) (w:World) (R:Rt) (h:F63_1 R p0 eE bg [] w):Calls prog 63 #[.pointer p0,.agg #[.bool eE,bg.v]] w R:=
 plC F63_p func63 h
def F64_1(R:Rt)(p0:Option Addr)(n1:Int)(ga:Bool)(bJ:SV)(ds:Ds)(w:World):Prop:=
 alE (.cells #[.bool ga,bJ.v] 67) w λr5 w1=>
 Calls prog 101 #[.pointer p0,.int .i64 n1] w1 λe w2=>
 ∃dS:Bool,e=.returned (.bool dS)/\
 Br (!dS) (
 zQb prog ds w2 λw3=>
 R (.returned (.int .i64 4)) w3) (
 dwE w2 λw4=>
 zQg p0 λa5=>
 ∃cO:SV,w4.cell? (a5.add 1)=some (cO.v)/\
 zQg p0 λa6=>
 ∃kQ,w4.cell? a6=some (.int .i64 kQ)/\
 ∃vZ,w4.cell? ((⟨r5,0,none⟩:Addr).add 0)=some (.bool vZ)/\
 ∃ce:SV,w4.cell? ((⟨r5,0,none⟩:Addr).add 1)=some (ce.v)/\
 Calls prog 54 #[cO.v,.int .i64 kQ,.agg #[.bool vZ,ce.v]] w4 λe w7=>
 ∃fp:Int,e=.returned (.int .i64 fp)/\
 Br (fp != 0) (
 zQb prog ds w7 λw8=>
 R (.returned (.int .i64 fp)) w8) (
 ∃v6,w7.cell? ((⟨r5,0,none⟩:Addr).add 0)=some (.bool v6)/\
 ∃cA:SV,w7.cell? ((⟨r5,0,none⟩:Addr).add 1)=some (cA.v)/\
 Calls prog 100 #[.pointer p0,.int .i64 n1,.agg #[.bool v6,cA.v]] w7 λe w9=>
 e=.returned (.tuple #[])/\
 zQb prog ds w9 λaN=>
 R (.returned (.int .i64 0)) aN))
theorem F64_p:Pl prog f64 [pS 0,iS 1,aS 2 [.bool,.slice]] F64_1:=λR=>
 lf
theorem xQr (p0:Option Addr) (n1:Int) (ga:Bool) (bJ:SV) (w:World) (R:Rt) (h:F64_1 R p0 n1 ga bJ [] w):Calls prog 64 #[.pointer p0,.int .i64 n1,.agg #[.bool ga,bJ.v]] w R:=
 plC F64_p func64 h
def F65_1(R:Rt)(p0:Option Addr)(n1:Int)(b2:Bool)(ds:Ds)(w:World):Prop:=
 Calls prog 101 #[.pointer p0,.int .i64 n1] w λe w1=>
 ∃dS:Bool,e=.returned (.bool dS)/\
 Br (!dS) (
 zQb prog ds w1 λw2=>
 R (.returned (.int .i64 4)) w2) (
 zQg p0 λa3=>
 ∃cO:SV,w1.cell? (a3.add 2)=some (cO.v)/\
 ∃a4,cO.a=some a4/\0<=(IntKind.i64.wrap (n1 - 1))/\(IntKind.i64.wrap (n1 - 1))<(cO.len:Int)/\
 ∃ou,w1.cell? ((a4.add ((IntKind.i64.wrap (n1 - 1)).toNat * 2)).add 0)=some (.bool ou)/\
 ∃cV:SV,w1.cell? ((a4.add ((IntKind.i64.wrap (n1 - 1)).toNat * 2)).add 1)=some (cV.v)/\
 Calls prog 102 #[.agg #[.bool ou,cV.v]] w1 λe w5=>
 ∃v7:Bool,∃db:SV,e=.returned (.agg #[.bool v7,db.v])/\
 alE (.cells #[.bool false,.slice none 0 0] 67) w5 λr7 w6=>
 stA prog 67 (⟨r7,0,none⟩:Addr) #[.bool v7,db.v] w6 λw7=>
 st1 (⟨r7,0,none⟩:Addr) (.bool b2) w7 λw8=>
 ∃oC,w8.cell? ((⟨r7,0,none⟩:Addr).add 0)=some (.bool oC)/\
 ∃bx:SV,w8.cell? ((⟨r7,0,none⟩:Addr).add 1)=some (bx.v)/\
 Calls prog 100 #[.pointer p0,.int .i64 n1,.agg #[.bool oC,bx.v]] w8 λe w9=>
 e=.returned (.tuple #[])/\
 zQb prog ds w9 λaN=>
 R (.returned (.int .i64 0)) aN)
theorem F65_p:Pl prog f65 [pS 0,iS 1,bS 2] F65_1:=λR=>
 lf
theorem xQt (p0:Option Addr) (n1:Int) (b2:Bool) (w:World) (R:Rt) (h:F65_1 R p0 n1 b2 [] w):Calls prog 65 #[.pointer p0,.int .i64 n1,.bool b2] w R:=
 plC F65_p func65 h
def xZK(R:Rt)(p0:Option Addr)(n1 n9:Int)(p11 p13:Option Addr)(ds:Ds)(w:World):Prop:=
 zQg p13 λa1=>
 ∃l64:SV,w.cell? (a1.add 1)=some (l64.v)/\
 zQg p11 λa2=>
 ∃oE,w.cell? (a2.add 0)=some (.int .i64 oE)/\
 ∃wi,w.cell? (a2.add 1)=some (.int .i64 wi)/\
 ∃wj,w.cell? (a2.add 2)=some (.string wj)/\
 ∃a3,l64.a=some a3/\0<=n9/\n9<(l64.len:Int)/\
 stA prog 73 (a3.add (n9.toNat * 3)) #[.int .i64 oE,.int .i64 wi,.string wj] w λw4=>
 zQg p13 λa5=>
 ∃oF,w4.cell? (a5.add 0)=some (.bool oF)/\
 ∃fQ:SV,w4.cell? (a5.add 1)=some (fQ.v)/\
 Calls prog 100 #[.pointer p0,.int .i64 n1,.agg #[.bool oF,fQ.v]] w4 λe w6=>
 e=.returned (.tuple #[])/\
 zQb prog ds w6 λw7=>
 R (.returned (.int .i64 0)) w7
def F67_2(R:Rt)(p0:Option Addr)(n1:Int)(s2:ByteArray)(iP gA:Int)(nt:ByteArray)(ds:Ds)(w:World):Prop:=
 alE (.cells #[.int .i64 iP,.int .i64 gA,.string nt] 73) w λr7 w8=>
 zQg p0 λa9=>
 ∃dg:SV,w8.cell? (a9.add 1)=some (dg.v)/\
 Calls prog 103 #[dg.v,.string s2] w8 λe aN=>
 ∃dN:Int,∃wk:Bool,e=.returned (.tuple #[.int .i64 dN,.bool wk])/\
 Calls prog 101 #[.pointer p0,.int .i64 n1] aN λe aV=>
 ∃qO:Bool,e=.returned (.bool qO)/\
 Br (!qO) (
 zQb prog ds aV λaO=>
 R (.returned (.int .i64 4)) aO) (
 Br (!wk) (
 zQb prog ds aV λaH=>
 R (.returned (.int .i64 4)) aH) (
 dwE aV λbq=>
 ∃S1:World->Prop,S1 bq/\
 zQg p0 λjz=>
 ∃eW:SV,(∀w',S1 w'->w'.cell? (jz.add 1)=some (eW.v))/\
 ∃iG,eW.a=some iG/\0<=dN/\dN<(eW.len:Int)/\
 ∃rM,(∀w',S1 w'->w'.cell? ((iG.add (dN.toNat * 4)).add 0)=some (.string rM))/\
 ∃rN,(∀w',S1 w'->w'.cell? ((iG.add (dN.toNat * 4)).add 1)=some (.int .i64 rN))/\
 ∃rO,(∀w',S1 w'->w'.cell? ((iG.add (dN.toNat * 4)).add 2)=some (.int .i64 rO))/\
 ∃rP,(∀w',S1 w'->w'.cell? ((iG.add (dN.toNat * 4)).add 3)=some (.bool rP))/\
 zQg p0 λrA=>
 ∃n45,(∀w',S1 w'->w'.cell? rA=some (.int .i64 n45))/\
 ∃gd,(∀w',S1 w'->w'.cell? ((⟨r7,0,none⟩:Addr).add 0)=some (.int .i64 gd))/\
 ∃gf,(∀w',S1 w'->w'.cell? ((⟨r7,0,none⟩:Addr).add 1)=some (.int .i64 gf))/\
 ∃gg,(∀w',S1 w'->w'.cell? ((⟨r7,0,none⟩:Addr).add 2)=some (.string gg))/\
 (
 Calls prog 104 #[.agg #[.string rM,.int .i64 rN,.int .i64 rO,.bool rP],.int .i64 n45,.agg #[.int .i64 gd,.int .i64 gf,.string gg]] bq λe bO=>
 ∃e7:Int,∃iQ:Int,∃iR:ByteArray,∃cJ:Int,e=.returned (.tuple #[.agg #[.int .i64 e7,.int .i64 iQ,.string iR],.int .i64 cJ])/\
 alE (.cells #[.int .i64 0,.int .i64 0,.string (⟨#[]⟩:ByteArray)] 73) bO λcq cL=>
 stA prog 73 (⟨cq,0,none⟩:Addr) #[.int .i64 e7,.int .i64 iQ,.string iR] cL λbU=>
 Br (cJ != 0) (
 zQb prog ds bU λct=>
 R (.returned (.int .i64 cJ)) ct) (
 zQg p0 λo4=>
 ∃kD:SV,bU.cell? (o4.add 2)=some (kD.v)/\
 ∃pi,kD.a=some pi/\0<=(IntKind.i64.wrap (n1 - 1))/\(IntKind.i64.wrap (n1 - 1))<(kD.len:Int)/\
 ∃j1,bU.cell? ((pi.add ((IntKind.i64.wrap (n1 - 1)).toNat * 2)).add 0)=some (.bool j1)/\
 ∃de:SV,bU.cell? ((pi.add ((IntKind.i64.wrap (n1 - 1)).toNat * 2)).add 1)=some (de.v)/\
 Calls prog 102 #[.agg #[.bool j1,de.v]] bU λe dy=>
 ∃j2:Bool,∃bA:SV,e=.returned (.agg #[.bool j2,bA.v])/\
 alE (.cells #[.bool false,.slice none 0 0] 67) dy λnS gj=>
 stA prog 67 (⟨nS,0,none⟩:Addr) #[.bool j2,bA.v] gj λfe=>
 xZK R p0 n1 dN (some (⟨cq,0,none⟩:Addr)) (some (⟨nS,0,none⟩:Addr)) ds fe))/\(
 alE (.cells #[.int .i64 0,.int .i64 0,.string (⟨#[]⟩:ByteArray)] 73) bq λcq gQ=>
 S1 gQ/\
 Calls prog 104 #[.agg #[.string rM,.int .i64 rN,.int .i64 rO,.bool rP],.int .i64 n45,.agg #[.int .i64 gd,.int .i64 gf,.string gg]] gQ λe dW=>
 ∃e7:Int,∃iQ:Int,∃iR:ByteArray,∃cJ:Int,e=.returned (.tuple #[.agg #[.int .i64 e7,.int .i64 iQ,.string iR],.int .i64 cJ])/\
 stA prog 73 (⟨cq,0,none⟩:Addr) #[.int .i64 e7,.int .i64 iQ,.string iR] dW λfo=>
 Br (cJ != 0) (
 zQb prog ds fo λiu=>
 R (.returned (.int .i64 cJ)) iu) (
 zQg p0 λsY=>
 ∃kD:SV,fo.cell? (sY.add 2)=some (kD.v)/\
 ∃xi,kD.a=some xi/\0<=(IntKind.i64.wrap (n1 - 1))/\(IntKind.i64.wrap (n1 - 1))<(kD.len:Int)/\
 ∃j1,fo.cell? ((xi.add ((IntKind.i64.wrap (n1 - 1)).toNat * 2)).add 0)=some (.bool j1)/\
 ∃de:SV,fo.cell? ((xi.add ((IntKind.i64.wrap (n1 - 1)).toNat * 2)).add 1)=some (de.v)/\
 Calls prog 102 #[.agg #[.bool j1,de.v]] fo λe fW=>
 ∃j2:Bool,∃bA:SV,e=.returned (.agg #[.bool j2,bA.v])/\
 alE (.cells #[.bool false,.slice none 0 0] 67) fW λnS fX=>
 stA prog 67 (⟨nS,0,none⟩:Addr) #[.bool j2,bA.v] fX λi5=>
 xZK R p0 n1 dN (some (⟨cq,0,none⟩:Addr)) (some (⟨nS,0,none⟩:Addr)) ds i5))))
theorem F67_p:Pl prog f67 [pS 0,iS 1,sS 2,aS 3 [.int .i64,.int .i64,.str]] F67_2:=λR=>
 pc 8 (rest [pS 0,iS 1,iS 9,pS 11,pS 13] (xZK R) lf)
theorem yYm (p0:Option Addr) (n1:Int) (s2:ByteArray) (iP gA:Int) (nt:ByteArray) (w:World) (R:Rt) (h:F67_2 R p0 n1 s2 iP gA nt [] w):Calls prog 67 #[.pointer p0,.int .i64 n1,.string s2,.agg #[.int .i64 iP,.int .i64 gA,.string nt]] w R:=
 plC F67_p func67 h
def F68_1(R:Rt)(p0:Option Addr)(ds:Ds)(w:World):Prop:=
 zQg p0 λa1=>
 ∃l6:SV,w.cell? (a1.add 4)=some (l6.v)/\
 Br (decide ((l6.len:Int) > 0)) (
 zQb prog ds w λw2=>
 R (.returned (.int .i64 9)) w2) (
 zQb prog ds w λw3=>
 R (.returned (.int .i64 0)) w3)
theorem F68_p:Pl prog f68 [pS 0] F68_1:=λR=>
 lf
theorem yYw (p0:Option Addr) (w:World) (R:Rt) (h:F68_1 R p0 [] w):Calls prog 68 #[.pointer p0] w R:=
 plC F68_p func68 h
def F19_1(R:Rt)(p0:Option Addr)(ds:Ds)(w:World):Prop:=
 alE (.cells #[.int .i64 0,.slice none 0 0,.slice none 0 0] 35) w λr2 w1=>
 zQg p0 λa2=>
 ∃kE,w1.cell? (a2.add 0)=some (.int .i64 kE)/\
 ∃dB:SV,w1.cell? (a2.add 1)=some (dB.v)/\
 ∃dC:SV,w1.cell? (a2.add 2)=some (dC.v)/\
 Calls prog 71 #[.agg #[.int .i64 kE,dB.v,dC.v]] w1 λe w3=>
 ∃dF:Int,∃bW:SV,∃bF:SV,e=.returned (.agg #[.int .i64 dF,bW.v,bF.v])/\
 stA prog 35 (⟨r2,0,none⟩:Addr) #[.int .i64 dF,bW.v,bF.v] w3 λw4=>
 zQb prog ds w4 λw5=>
 ∃ag,w5.cell? ((⟨r2,0,none⟩:Addr).add 0)=some (.int .i64 ag)/\
 ∃ab:SV,w5.cell? ((⟨r2,0,none⟩:Addr).add 1)=some (ab.v)/\
 ∃ae:SV,w5.cell? ((⟨r2,0,none⟩:Addr).add 2)=some (ae.v)/\
 R (.returned (.agg #[.int .i64 ag,ab.v,ae.v])) w5
theorem F19_p:Pl prog f19 [pS 0] F19_1:=λR=>
 lf
theorem yYJ (p0:Option Addr) (w:World) (R:Rt) (h:F19_1 R p0 [] w):Calls prog 19 #[.pointer p0] w R:=
 plC F19_p func19 h
def F23_1(R:Rt)(p0:Option Addr)(ds:Ds)(w:World):Prop:=
 zQg p0 λa1=>
 ∃l6:SV,w.cell? (a1.add 3)=some (l6.v)/\
 zQb prog ds w λw2=>
 R (.returned (.int .i64 (IntKind.i64.wrap ((l6.len:Int) - 1)))) w2
theorem F23_p:Pl prog f23 [pS 0] F23_1:=λR=>
 lf
theorem xQV (p0:Option Addr) (w:World) (R:Rt) (h:F23_1 R p0 [] w):Calls prog 23 #[.pointer p0] w R:=
 plC F23_p func23 h
end Go.Proofs.YtaeecpjhfmcliaaGreatDoor
/- Shallow texts of functions, printed by program, each checked by the kernel against the loaded code. No condition. -/
namespace Go.Proofs.YtaeecpjhfmcliaaGreatDoor
open Go.Sh Tryz
def F15_1(R:Rt)(p1:Option Addr)(n3:Int)(ds:Ds)(w:World):Prop:=
 Br (decide (n3 > 131072)) (
 zQb prog ds w λw1=>
 R (.returned (.bool true)) w1) (
 zQg p1 λa2=>
 ∃l53:SV,w.cell? (a2.add 5)=some (l53.v)/\
 Br (decide ((l53.len:Int) > 80)) (
 zQb prog ds w λw3=>
 R (.returned (.bool true)) w3) (
 zQg p1 λa4=>
 ∃l60:SV,w.cell? (a4.add 2)=some (l60.v)/\
 zQb prog ds w λw5=>
 R (.returned (.bool (decide ((l60.len:Int) > 60)))) w5))
def F15_2 (R:Rt) (J1:(Int × Int)->World->Prop) (p1:Option Addr) (n3 n5:Int) (ds:Ds) (w:World):Prop:=
 zQg p1 λa6=>
 ∃iv:SV,w.cell? (a6.add 5)=some (iv.v)/\
 Br (decide (n5<(iv.len:Int))) (
 zQg p1 λa7=>
 ∃kH:SV,w.cell? (a7.add 5)=some (kH.v)/\
 ∃a8,kH.a=some a8/\0<=n5/\n5<(kH.len:Int)/\
 ∃s46,w.cell? ((a8.add (n5.toNat * 6)).add 4)=some (.string s46)/\
 J1 ((IntKind.i64.wrap (n3+(s46.size:Int))),(IntKind.i64.wrap (n5+1))) w) (
 F15_1 R p1 n3 ds w)
def F15_3(R:Rt)(p1:Option Addr)(n3 n5:Int)(ds:Ds)(w:World):Prop:=
 zQE (λ(J1:(Int × Int)->World->Prop) (s:Int × Int) (w:World)=>F15_2 R J1 p1 s.1 s.2 ds w) (n3,n5) w
def F15_5(R:Rt)(p1:Option Addr)(n3:Int)(ds:Ds)(w:World):Prop:=
 F15_3 R p1 n3 0 ds w
def F15_6 (R:Rt) (J1:(Int × Int)->World->Prop) (p1:Option Addr) (n3 n4:Int) (ds:Ds) (w:World):Prop:=
 zQg p1 λa9=>
 ∃dg:SV,w.cell? (a9.add 3)=some (dg.v)/\
 Br (decide (n4<(dg.len:Int))) (
 zQg p1 λdx=>
 ∃dU:SV,w.cell? (dx.add 3)=some (dU.v)/\
 ∃dY,dU.a=some dY/\0<=n4/\n4<(dU.len:Int)/\
 ∃oZ:SV,w.cell? ((dY.add (n4.toNat * 2)).add 1)=some (oZ.v)/\
 Calls prog 58 #[oZ.v] w λe aO=>
 ∃tR:Int,e=.returned (.int .i64 tR)/\
 J1 ((IntKind.i64.wrap (n3+tR)),(IntKind.i64.wrap (n4+1))) aO) (
 F15_5 R p1 n3 ds w)
def F15_7(R:Rt)(p1:Option Addr)(n3 n4:Int)(ds:Ds)(w:World):Prop:=
 zQE (λ(J1:(Int × Int)->World->Prop) (s:Int × Int) (w:World)=>F15_6 R J1 p1 s.1 s.2 ds w) (n3,n4) w
def F15_9(R:Rt)(ax:Int)(ah ai br bt bu:SV)(ds:Ds)(w:World):Prop:=
 alE (.cells #[.int .i64 ax,ah.v,ai.v,br.v,bt.v,bu.v] 41) w λr1 aH=>
 dwE aH λbq=>
 ∃S1:World->Prop,S1 bq/\
 ∃dF,(∀w',S1 w'->w'.cell? ((⟨r1,0,none⟩:Addr).add 0)=some (.int .i64 dF))/\
 ∃bW:SV,(∀w',S1 w'->w'.cell? ((⟨r1,0,none⟩:Addr).add 1)=some (bW.v))/\
 ∃bF:SV,(∀w',S1 w'->w'.cell? ((⟨r1,0,none⟩:Addr).add 2)=some (bF.v))/\
 ∃d7:SV,(∀w',S1 w'->w'.cell? ((⟨r1,0,none⟩:Addr).add 4)=some (d7.v))/\
 ∃bR:SV,(∀w',S1 w'->w'.cell? ((⟨r1,0,none⟩:Addr).add 3)=some (bR.v))/\
 Calls prog 57 #[.agg #[.int .i64 dF,bW.v,bF.v]] bq λe bp=>
 ∃n8:Int,e=.returned (.int .i64 n8)/\
 S1 bp/\
 Calls prog 58 #[d7.v] bp λe bG=>
 ∃dT:Int,e=.returned (.int .i64 dT)/\
 S1 bG/\
 F15_7 R (some (⟨r1,0,none⟩:Addr)) (IntKind.i64.wrap ((IntKind.i64.wrap (n8+dT))+(bR.len:Int))) 0 ds bG
theorem F15_p:Pl prog f15 [aS 0 [.int .i64,.slice,.slice,.slice,.slice,.slice]] F15_9:=λR=>
 pc 3 (rest [pS 1,iS 3,iS 4] (F15_7 R) (bk 0 (rest [pS 1,iS 3] (F15_5 R) (pc 1 (rest [pS 1,iS 3,iS 5] (F15_3 R) (bk 2 (rest [pS 1,iS 3] (F15_1 R) lf) (lp [iS 3,iS 5] [pS 1,iS 3,iS 5] (F15_2 R) zXL λJ1=>lf))))) (lp [iS 3,iS 4] [pS 1,iS 3,iS 4] (F15_6 R) zXL λJ1=>lf)))
theorem xXY (ax:Int) (ah ai br bt bu:SV) (w:World) (R:Rt) (h:F15_9 R ax ah ai br bt bu [] w):Calls prog 15 #[.agg #[.int .i64 ax,ah.v,ai.v,br.v,bt.v,bu.v]] w R:=
 plC F15_p func15 h
end Go.Proofs.YtaeecpjhfmcliaaGreatDoor
/- Shallow texts of functions, printed by program, each checked by the kernel against the loaded code. No condition. -/
namespace Go.Proofs.YtaeecpjhfmcliaaGreatDoor
open Go.Sh Tryz
def F62_1(R:Rt)(ax:Int)(ah ai br bt bu:SV)(n1:Int)(ds:Ds)(w:World):Prop:=
 alE (.cells #[.int .i64 ax,ah.v,ai.v,br.v,bt.v,bu.v] 41) w λr2 w1=>
 alE (.cells #[.bool false,.slice none 0 0] 67) w1 λr4 w2=>
 Br (decide (n1<0)) (
 stA prog 67 (⟨r4,0,none⟩:Addr) #[.bool false,.slice none 0 0] w2 λw3=>
 zQb prog ds w3 λw4=>
 ∃bL,w4.cell? ((⟨r4,0,none⟩:Addr).add 0)=some (.bool bL)/\
 ∃ab:SV,w4.cell? ((⟨r4,0,none⟩:Addr).add 1)=some (ab.v)/\
 R (.returned (.agg #[.bool bL,ab.v])) w4) (
 ∃d7:SV,w2.cell? ((⟨r2,0,none⟩:Addr).add 3)=some (d7.v)/\
 Br (decide (n1 >= (d7.len:Int))) (
 stA prog 67 (⟨r4,0,none⟩:Addr) #[.bool false,.slice none 0 0] w2 λw5=>
 zQb prog ds w5 λw6=>
 ∃bL,w6.cell? ((⟨r4,0,none⟩:Addr).add 0)=some (.bool bL)/\
 ∃ab:SV,w6.cell? ((⟨r4,0,none⟩:Addr).add 1)=some (ab.v)/\
 R (.returned (.agg #[.bool bL,ab.v])) w6) (
 ∃cO:SV,w2.cell? ((⟨r2,0,none⟩:Addr).add 3)=some (cO.v)/\
 ∃a7,cO.a=some a7/\0<=n1/\n1<(cO.len:Int)/\
 ∃wm,w2.cell? ((a7.add (n1.toNat * 2)).add 0)=some (.bool wm)/\
 ∃fC:SV,w2.cell? ((a7.add (n1.toNat * 2)).add 1)=some (fC.v)/\
 stA prog 67 (⟨r4,0,none⟩:Addr) #[.bool wm,fC.v] w2 λw8=>
 zQb prog ds w8 λw9=>
 ∃bL,w9.cell? ((⟨r4,0,none⟩:Addr).add 0)=some (.bool bL)/\
 ∃ab:SV,w9.cell? ((⟨r4,0,none⟩:Addr).add 1)=some (ab.v)/\
 R (.returned (.agg #[.bool bL,ab.v])) w9))
theorem F62_p:Pl prog f62 [aS 0 [.int .i64,.slice,.slice,.slice,.slice,.slice],iS 1] F62_1:=λR=>
 lf
theorem xQe (ax:Int) (ah ai br bt bu:SV) (n1:Int) (w:World) (R:Rt) (h:F62_1 R ax ah ai br bt bu n1 [] w):Calls prog 62 #[.agg #[.int .i64 ax,ah.v,ai.v,br.v,bt.v,bu.v],.int .i64 n1] w R:=
 plC F62_p func62 h
def F66_1(R:Rt)(ax:Int)(ah ai br bt bu:SV)(n1:Int)(ds:Ds)(w:World):Prop:=
 alE (.cells #[.int .i64 ax,ah.v,ai.v,br.v,bt.v,bu.v] 41) w λr2 w1=>
 alE (.cells #[.int .i64 0,.int .i64 0,.string (⟨#[]⟩:ByteArray)] 73) w1 λr4 w2=>
 Br (decide (n1<0)) (
 stA prog 73 (⟨r4,0,none⟩:Addr) #[.int .i64 0,.int .i64 0,.string (⟨#[]⟩:ByteArray)] w2 λw3=>
 zQb prog ds w3 λw4=>
 ∃ag,w4.cell? ((⟨r4,0,none⟩:Addr).add 0)=some (.int .i64 ag)/\
 ∃aj,w4.cell? ((⟨r4,0,none⟩:Addr).add 1)=some (.int .i64 aj)/\
 ∃ak,w4.cell? ((⟨r4,0,none⟩:Addr).add 2)=some (.string ak)/\
 R (.returned (.agg #[.int .i64 ag,.int .i64 aj,.string ak])) w4) (
 ∃d7:SV,w2.cell? ((⟨r2,0,none⟩:Addr).add 4)=some (d7.v)/\
 Br (decide (n1 >= (d7.len:Int))) (
 stA prog 73 (⟨r4,0,none⟩:Addr) #[.int .i64 0,.int .i64 0,.string (⟨#[]⟩:ByteArray)] w2 λw5=>
 zQb prog ds w5 λw6=>
 ∃ag,w6.cell? ((⟨r4,0,none⟩:Addr).add 0)=some (.int .i64 ag)/\
 ∃aj,w6.cell? ((⟨r4,0,none⟩:Addr).add 1)=some (.int .i64 aj)/\
 ∃ak,w6.cell? ((⟨r4,0,none⟩:Addr).add 2)=some (.string ak)/\
 R (.returned (.agg #[.int .i64 ag,.int .i64 aj,.string ak])) w6) (
 ∃cO:SV,w2.cell? ((⟨r2,0,none⟩:Addr).add 4)=some (cO.v)/\
 ∃a7,cO.a=some a7/\0<=n1/\n1<(cO.len:Int)/\
 ∃dH,w2.cell? ((a7.add (n1.toNat * 3)).add 0)=some (.int .i64 dH)/\
 ∃bT,w2.cell? ((a7.add (n1.toNat * 3)).add 1)=some (.int .i64 bT)/\
 ∃jM,w2.cell? ((a7.add (n1.toNat * 3)).add 2)=some (.string jM)/\
 stA prog 73 (⟨r4,0,none⟩:Addr) #[.int .i64 dH,.int .i64 bT,.string jM] w2 λw8=>
 zQb prog ds w8 λw9=>
 ∃ag,w9.cell? ((⟨r4,0,none⟩:Addr).add 0)=some (.int .i64 ag)/\
 ∃aj,w9.cell? ((⟨r4,0,none⟩:Addr).add 1)=some (.int .i64 aj)/\
 ∃ak,w9.cell? ((⟨r4,0,none⟩:Addr).add 2)=some (.string ak)/\
 R (.returned (.agg #[.int .i64 ag,.int .i64 aj,.string ak])) w9))
theorem F66_p:Pl prog f66 [aS 0 [.int .i64,.slice,.slice,.slice,.slice,.slice],iS 1] F66_1:=λR=>
 lf
theorem xX0 (ax:Int) (ah ai br bt bu:SV) (n1:Int) (w:World) (R:Rt) (h:F66_1 R ax ah ai br bt bu n1 [] w):Calls prog 66 #[.agg #[.int .i64 ax,ah.v,ai.v,br.v,bt.v,bu.v],.int .i64 n1] w R:=
 plC F66_p func66 h
end Go.Proofs.YtaeecpjhfmcliaaGreatDoor
/- Shallow texts of functions, printed by program, each checked by the kernel against the loaded code. No condition. -/
namespace Go.Proofs.YtaeecpjhfmcliaaGreatDoor
open Go.Sh Tryz
def F44_1(R:Rt)(p2 p3:Option Addr)(ds:Ds)(w:World):Prop:=
 zQg p3 λa1=>
 ∃eQ,w.cell? (a1.add 0)=some (.int .i64 eQ)/\
 ∃bx:SV,w.cell? (a1.add 1)=some (bx.v)/\
 ∃cT:SV,w.cell? (a1.add 2)=some (cT.v)/\
 zQg p2 λa2=>
 stA prog 35 a2 #[.int .i64 eQ,bx.v,cT.v] w λw3=>
 zQb prog ds w3 λw4=>
 zQg p2 λa5=>
 ∃ag,w4.cell? (a5.add 0)=some (.int .i64 ag)/\
 ∃ab:SV,w4.cell? (a5.add 1)=some (ab.v)/\
 ∃ae:SV,w4.cell? (a5.add 2)=some (ae.v)/\
 R (.returned (.agg #[.int .i64 ag,ab.v,ae.v])) w4
def F44_2 (R:Rt) (J1:(Int)->World->Prop) (l0:SV) (p2 p3:Option Addr) (n4:Int) (ds:Ds) (w:World):Prop:=
 Br (decide (n4<(l0.len:Int))) (
 dwE w λw6=>
 ∃S1:World->Prop,S1 w6/\
 zQg p3 λa7=>
 ∃fh:SV,(∀w',S1 w'->w'.cell? (a7.add 2)=some (fh.v))/\
 ∃a8,l0.a=some a8/\0<=n4/\n4<(l0.len:Int)/\
 ∃iZ,(∀w',S1 w'->w'.cell? (a8.add (n4.toNat * 1))=some (.int .i64 iZ))/\
 Calls prog 45 #[.int .i64 iZ] w6 λe w9=>
 ∃gu:Int,∃eM:Int,∃gv:ByteArray,e=.returned (.agg #[.int .i64 gu,.int .i64 eM,.string gv])/\
 S1 w9/\
 alE (.cells #[.int .i64 gu,.int .i64 eM,.string gv] 73) w9 λr21 aN=>
 S1 aN/\
 alE (.cells #[.bool false,.slice (some ⟨r21,0,none⟩) 1 1] 67) aN λr23 aV=>
 S1 aV/\
 ∃bX:SV,∃aO,(Builtin.append_ #[33,33] 33 #[fh.v,.slice (some ⟨r23,0,none⟩) 1 1]).run prog aV=.ok (bX.v) aO/\
 zQg p3 λlq=>
 st1 (lq.add 2) (bX.v) aO λbq=>
 J1 (IntKind.i64.wrap (n4+1)) bq) (
 F44_1 R p2 p3 ds w)
def F44_3(R:Rt)(l0:SV)(p2 p3:Option Addr)(n4:Int)(ds:Ds)(w:World):Prop:=
 zQE (λ(J1:(Int)->World->Prop) (s:Int) (w:World)=>F44_2 R J1 l0 p2 p3 s ds w) n4 w
def F44_5(R:Rt)(l0:SV)(ds:Ds)(w:World):Prop:=
 alE (.cells #[.int .i64 0,.slice none 0 0,.slice none 0 0] 35) w λr2 bp=>
 alE (.cells #[.string (⟨#[78]⟩:ByteArray),.int .i64 2,.int .i64 3,.bool false] 129) bp λr6 bG=>
 alE (.cells #[.int .i64 0,.slice none 0 0,.slice none 0 0] 35) bG λr3 bH=>
 stA prog 35 (⟨r3,0,none⟩:Addr) #[.int .i64 0,.slice (some ⟨r6,0,none⟩) 1 1,.slice none 0 0] bH λbO=>
 F44_3 R l0 (some (⟨r2,0,none⟩:Addr)) (some (⟨r3,0,none⟩:Addr)) 0 ds bO
theorem F44_p:Pl prog f44 [lS 0] F44_5:=λR=>
 pc 3 (rest [lS 0,pS 2,pS 3,iS 4] (F44_3 R) (bk 0 (rest [pS 2,pS 3] (F44_1 R) lf) (lp [iS 4] [lS 0,pS 2,pS 3,iS 4] (F44_2 R) zXL λJ1=>lf)))
theorem xXM (l0:SV) (w:World) (R:Rt) (h:F44_5 R l0 [] w):Calls prog 44 #[l0.v] w R:=
 plC F44_p func44 h
def yZP(R:Rt)(p1:Option Addr)(b44:Bool)(ds:Ds)(w:World):Prop:=
 Br b44 (
 zQb prog ds w λw1=>
 R (.returned (.bool false)) w1) (
 Calls prog 27 #[.pointer p1,.int .i64 1] w λe w2=>
 ∃e7:Int,∃ic:SV,∃ie:SV,∃cJ:Int,e=.returned (.tuple #[.agg #[.int .i64 e7,ic.v,ie.v],.int .i64 cJ])/\
 alE (.cells #[.int .i64 0,.slice none 0 0,.slice none 0 0] 35) w2 λr3 w3=>
 stA prog 35 (⟨r3,0,none⟩:Addr) #[.int .i64 e7,ic.v,ie.v] w3 λw4=>
 dwE w4 λw5=>
 ∃S1:World->Prop,S1 w5/\
 Br (cJ == 0) (
 Calls prog 22 #[.pointer p1] w5 λe w6=>
 ∃n54:Int,e=.returned (.int .i64 n54)/\
 S1 w6/\
 Br (n54 == 1) (
 ∃oG,(∀w',S1 w'->w'.cell? ((⟨r3,0,none⟩:Addr).add 0)=some (.int .i64 oG))/\
 ∃fR:SV,(∀w',S1 w'->w'.cell? ((⟨r3,0,none⟩:Addr).add 1)=some (fR.v))/\
 ∃fS:SV,(∀w',S1 w'->w'.cell? ((⟨r3,0,none⟩:Addr).add 2)=some (fS.v))/\
 alE (.cells #[.int .i64 5,.int .i64 2] 3) w6 λr59 w7=>
 S1 w7/\
 Calls prog 44 #[.slice (some ⟨r59,0,none⟩) 2 2] w7 λe w8=>
 ∃wq:Int,∃mg:SV,∃mh:SV,e=.returned (.agg #[.int .i64 wq,mg.v,mh.v])/\
 S1 w8/\
 Calls prog 18 #[.agg #[.int .i64 oG,fR.v,fS.v],.agg #[.int .i64 wq,mg.v,mh.v]] w8 λe w9=>
 ∃zj:Bool,e=.returned (.bool zj)/\
 S1 w9/\
 Br zj (
 ∃oE,(∀w',S1 w'->w'.cell? ((⟨r3,0,none⟩:Addr).add 0)=some (.int .i64 oE))/\
 ∃mi:SV,(∀w',S1 w'->w'.cell? ((⟨r3,0,none⟩:Addr).add 1)=some (mi.v))/\
 ∃mj:SV,(∀w',S1 w'->w'.cell? ((⟨r3,0,none⟩:Addr).add 2)=some (mj.v))/\
 Calls prog 14 #[.pointer p1] w9 λe aN=>
 ∃ws:Int,∃ml:SV,∃mm:SV,e=.returned (.agg #[.int .i64 ws,ml.v,mm.v])/\
 S1 aN/\
 Calls prog 18 #[.agg #[.int .i64 ws,ml.v,mm.v],.agg #[.int .i64 oE,mi.v,mj.v]] aN λe aV=>
 ∃ug:Bool,e=.returned (.bool ug)/\
 zQb prog ds aV λaO=>
 R (.returned (.bool ug)) aO) (
 zQb prog ds w9 λaH=>
 R (.returned (.bool false)) aH)) (
 zQb prog ds w6 λbq=>
 R (.returned (.bool false)) bq)) (
 zQb prog ds w5 λbp=>
 R (.returned (.bool false)) bp))
def F10_2(R:Rt)(p1:Option Addr)(n2:Int)(ds:Ds)(w:World):Prop:=
 Br (n2 != 0) (
 yZP R p1 true ds w) (
 Calls prog 35 #[.pointer p1] w λe bG=>
 ∃kZ:Int,e=.returned (.int .i64 kZ)/\
 Br (kZ != 0) (
 yZP R p1 true ds bG) (
 Calls prog 45 #[.int .i64 5] bG λe bH=>
 ∃gu:Int,∃eM:Int,∃gv:ByteArray,e=.returned (.agg #[.int .i64 gu,.int .i64 eM,.string gv])/\
 Calls prog 40 #[.pointer p1,.int .i64 1,.string (⟨#[78]⟩:ByteArray),.agg #[.int .i64 gu,.int .i64 eM,.string gv]] bH λe bO=>
 ∃kQ:Int,e=.returned (.int .i64 kQ)/\
 Br (kQ != 0) (
 yZP R p1 true ds bO) (
 Calls prog 35 #[.pointer p1] bO λe cL=>
 ∃cu:Int,e=.returned (.int .i64 cu)/\
 Br (cu != 0) (
 yZP R p1 true ds cL) (
 Calls prog 45 #[.int .i64 6] cL λe bU=>
 ∃bK:Int,∃gC:Int,∃nY:ByteArray,e=.returned (.agg #[.int .i64 bK,.int .i64 gC,.string nY])/\
 Calls prog 40 #[.pointer p1,.int .i64 2,.string (⟨#[78]⟩:ByteArray),.agg #[.int .i64 bK,.int .i64 gC,.string nY]] bU λe ct=>
 ∃pJ:Int,e=.returned (.int .i64 pJ)/\
 Br (pJ != 0) (
 yZP R p1 true ds ct) (
 Calls prog 37 #[.pointer p1] ct λe dX=>
 ∃iq:Int,e=.returned (.int .i64 iq)/\
 Br (iq != 0) (
 yZP R p1 true ds dX) (
 Calls prog 36 #[.pointer p1] dX λe dV=>
 ∃oW:Int,e=.returned (.int .i64 oW)/\
 yZP R p1 (oW != 0) ds dV))))))
def F10_3(R:Rt)(ds:Ds)(w:World):Prop:=
 alE (.cells #[.int .i64 1,.int .i64 2] 3) w λr6 dy=>
 Calls prog 44 #[.slice (some ⟨r6,0,none⟩) 2 2] dy λe gj=>
 ∃dF:Int,∃bW:SV,∃bF:SV,e=.returned (.agg #[.int .i64 dF,bW.v,bF.v])/\
 Calls prog 43 #[.agg #[.int .i64 dF,bW.v,bF.v]] gj λe fe=>
 ∃p8_0:Option Addr,∃lm:Int,e=.returned (.tuple #[.pointer p8_0,.int .i64 lm])/\
 F10_2 R p8_0 lm ds fe
theorem F10_p:Pl prog f10 [] F10_3:=λR=>
 pc 2 (rest [pS 1,iS 2] (F10_2 R) (pc 1 (rest [pS 1,bS 44] (yZP R) lf)))
theorem xZc  (w:World) (R:Rt) (h:F10_3 R [] w):Calls prog 10 #[] w R:=
 plC F10_p func10 h
end Go.Proofs.YtaeecpjhfmcliaaGreatDoor
/- Shallow texts of functions, printed by program, each checked by the kernel against the loaded code. No condition. -/
namespace Go.Proofs.YtaeecpjhfmcliaaGreatDoor
open Go.Sh Tryz
def F17_1(R:Rt)(p0 p1:Option Addr)(cC:Int)(bJ oH oI oJ oK:SV)(iP gA o9 tq:Int)(tr tt:ByteArray)(ds:Ds)(w:World):Prop:=
 alE (.cells #[.int .i64 cC,bJ.v,oH.v,oI.v,oJ.v,oK.v] 41) w λr6 w1=>
 alE (.cells #[.int .i64 iP,.int .i64 gA,.int .i64 o9,.int .i64 tq,.string tr,.string tt] 48) w1 λr7 w2=>
 ∃kU,w2.cell? (⟨r7,0,none⟩:Addr)=some (.int .i64 kU)/\
 Br (kU == 0) (
 Calls prog 35 #[.pointer p0] w2 λe w3=>
 ∃iF:Int,e=.returned (.int .i64 iF)/\
 Calls prog 59 #[.pointer p1] w3 λe w4=>
 ∃km:Int,e=.returned (.int .i64 km)/\
 zQb prog ds w4 λw5=>
 R (.returned (.bool (iF == km))) w5) (
 Br (kU == 1) (
 Calls prog 36 #[.pointer p0] w2 λe w6=>
 ∃cp:Int,e=.returned (.int .i64 cp)/\
 Calls prog 60 #[.pointer p1] w6 λe w7=>
 ∃gb:Int,e=.returned (.int .i64 gb)/\
 zQb prog ds w7 λw8=>
 R (.returned (.bool (cp == gb))) w8) (
 Br (kU == 2) (
 Calls prog 37 #[.pointer p0] w2 λe w9=>
 ∃pJ:Int,e=.returned (.int .i64 pJ)/\
 Calls prog 61 #[.pointer p1] w9 λe aN=>
 ∃rH:Int,e=.returned (.int .i64 rH)/\
 zQb prog ds aN λaV=>
 R (.returned (.bool (pJ == rH))) aV) (
 Br (kU == 3) (
 ∃wt,w2.cell? ((⟨r6,0,none⟩:Addr).add 0)=some (.int .i64 wt)/\
 ∃mn:SV,w2.cell? ((⟨r6,0,none⟩:Addr).add 1)=some (mn.v)/\
 ∃mo:SV,w2.cell? ((⟨r6,0,none⟩:Addr).add 2)=some (mo.v)/\
 ∃mp:SV,w2.cell? ((⟨r6,0,none⟩:Addr).add 3)=some (mp.v)/\
 ∃mq:SV,w2.cell? ((⟨r6,0,none⟩:Addr).add 4)=some (mq.v)/\
 ∃mr:SV,w2.cell? ((⟨r6,0,none⟩:Addr).add 5)=some (mr.v)/\
 ∃oW,w2.cell? ((⟨r7,0,none⟩:Addr).add 2)=some (.int .i64 oW)/\
 Calls prog 62 #[.agg #[.int .i64 wt,mn.v,mo.v,mp.v,mq.v,mr.v],.int .i64 oW] w2 λe aO=>
 ∃wu:Bool,∃ms:SV,e=.returned (.agg #[.bool wu,ms.v])/\
 Calls prog 34 #[.pointer p0,.agg #[.bool wu,ms.v]] aO λe aH=>
 ∃wA:Int,∃nT:Int,e=.returned (.tuple #[.int .i64 wA,.int .i64 nT])/\
 ∃gy,aH.cell? ((⟨r6,0,none⟩:Addr).add 0)=some (.int .i64 gy)/\
 ∃mt:SV,aH.cell? ((⟨r6,0,none⟩:Addr).add 1)=some (mt.v)/\
 ∃mv:SV,aH.cell? ((⟨r6,0,none⟩:Addr).add 2)=some (mv.v)/\
 ∃mw:SV,aH.cell? ((⟨r6,0,none⟩:Addr).add 3)=some (mw.v)/\
 ∃mx:SV,aH.cell? ((⟨r6,0,none⟩:Addr).add 4)=some (mx.v)/\
 ∃my:SV,aH.cell? ((⟨r6,0,none⟩:Addr).add 5)=some (my.v)/\
 ∃o3,aH.cell? ((⟨r7,0,none⟩:Addr).add 2)=some (.int .i64 o3)/\
 Calls prog 62 #[.agg #[.int .i64 gy,mt.v,mv.v,mw.v,mx.v,my.v],.int .i64 o3] aH λe bq=>
 ∃wB:Bool,∃mz:SV,e=.returned (.agg #[.bool wB,mz.v])/\
 Calls prog 63 #[.pointer p1,.agg #[.bool wB,mz.v]] bq λe bp=>
 ∃eR:Int,∃eV:Int,e=.returned (.tuple #[.int .i64 eR,.int .i64 eV])/\
 Br (wA == eR) (
 zQb prog ds bp λbG=>
 R (.returned (.bool (nT == eV))) bG) (
 zQb prog ds bp λbH=>
 R (.returned (.bool false)) bH)) (
 Br (kU == 4) (
 dwE w2 λbO=>
 ∃S1:World->Prop,S1 bO/\
 ∃yS,(∀w',S1 w'->w'.cell? ((⟨r7,0,none⟩:Addr).add 1)=some (.int .i64 yS))/\
 ∃wC,(∀w',S1 w'->w'.cell? ((⟨r6,0,none⟩:Addr).add 0)=some (.int .i64 wC))/\
 ∃mA:SV,(∀w',S1 w'->w'.cell? ((⟨r6,0,none⟩:Addr).add 1)=some (mA.v))/\
 ∃mB:SV,(∀w',S1 w'->w'.cell? ((⟨r6,0,none⟩:Addr).add 2)=some (mB.v))/\
 ∃mC:SV,(∀w',S1 w'->w'.cell? ((⟨r6,0,none⟩:Addr).add 3)=some (mC.v))/\
 ∃mD:SV,(∀w',S1 w'->w'.cell? ((⟨r6,0,none⟩:Addr).add 4)=some (mD.v))/\
 ∃mE:SV,(∀w',S1 w'->w'.cell? ((⟨r6,0,none⟩:Addr).add 5)=some (mE.v))/\
 ∃tk,(∀w',S1 w'->w'.cell? ((⟨r7,0,none⟩:Addr).add 2)=some (.int .i64 tk))/\
 ∃n76,(∀w',S1 w'->w'.cell? ((⟨r7,0,none⟩:Addr).add 1)=some (.int .i64 n76))/\
 ∃wD,(∀w',S1 w'->w'.cell? ((⟨r6,0,none⟩:Addr).add 0)=some (.int .i64 wD))/\
 ∃mF:SV,(∀w',S1 w'->w'.cell? ((⟨r6,0,none⟩:Addr).add 1)=some (mF.v))/\
 ∃mG:SV,(∀w',S1 w'->w'.cell? ((⟨r6,0,none⟩:Addr).add 2)=some (mG.v))/\
 ∃mH:SV,(∀w',S1 w'->w'.cell? ((⟨r6,0,none⟩:Addr).add 3)=some (mH.v))/\
 ∃mI:SV,(∀w',S1 w'->w'.cell? ((⟨r6,0,none⟩:Addr).add 4)=some (mI.v))/\
 ∃mJ:SV,(∀w',S1 w'->w'.cell? ((⟨r6,0,none⟩:Addr).add 5)=some (mJ.v))/\
 ∃n79,(∀w',S1 w'->w'.cell? ((⟨r7,0,none⟩:Addr).add 2)=some (.int .i64 n79))/\
 Calls prog 62 #[.agg #[.int .i64 wC,mA.v,mB.v,mC.v,mD.v,mE.v],.int .i64 tk] bO λe cL=>
 ∃wE:Bool,∃mK:SV,e=.returned (.agg #[.bool wE,mK.v])/\
 S1 cL/\
 Calls prog 38 #[.pointer p0,.int .i64 yS,.agg #[.bool wE,mK.v]] cL λe bU=>
 ∃n73:Int,e=.returned (.int .i64 n73)/\
 S1 bU/\
 Calls prog 62 #[.agg #[.int .i64 wD,mF.v,mG.v,mH.v,mI.v,mJ.v],.int .i64 n79] bU λe ct=>
 ∃wF:Bool,∃mL:SV,e=.returned (.agg #[.bool wF,mL.v])/\
 S1 ct/\
 Calls prog 64 #[.pointer p1,.int .i64 n76,.agg #[.bool wF,mL.v]] ct λe dX=>
 ∃n81:Int,e=.returned (.int .i64 n81)/\
 zQb prog ds dX λdV=>
 R (.returned (.bool (n73 == n81))) dV) (
 Br (kU == 5) (
 dwE w2 λdy=>
 ∃S2:World->Prop,S2 dy/\
 ∃n87,(∀w',S2 w'->w'.cell? ((⟨r7,0,none⟩:Addr).add 1)=some (.int .i64 n87))/\
 ∃yh,(∀w',S2 w'->w'.cell? ((⟨r7,0,none⟩:Addr).add 3)=some (.int .i64 yh))/\
 ∃n94,(∀w',S2 w'->w'.cell? ((⟨r7,0,none⟩:Addr).add 1)=some (.int .i64 n94))/\
 ∃n96,(∀w',S2 w'->w'.cell? ((⟨r7,0,none⟩:Addr).add 3)=some (.int .i64 n96))/\
 Calls prog 39 #[.pointer p0,.int .i64 n87,.bool (yh != 0)] dy λe gj=>
 ∃n91:Int,e=.returned (.int .i64 n91)/\
 S2 gj/\
 Calls prog 65 #[.pointer p1,.int .i64 n94,.bool (n96 != 0)] gj λe fe=>
 ∃n98:Int,e=.returned (.int .i64 n98)/\
 zQb prog ds fe λgQ=>
 R (.returned (.bool (n91 == n98))) gQ) (
 Br (kU == 6) (
 dwE w2 λdW=>
 ∃S3:World->Prop,S3 dW/\
 ∃n104,(∀w',S3 w'->w'.cell? ((⟨r7,0,none⟩:Addr).add 1)=some (.int .i64 n104))/\
 ∃s106,(∀w',S3 w'->w'.cell? ((⟨r7,0,none⟩:Addr).add 4)=some (.string s106))/\
 ∃rQ,(∀w',S3 w'->w'.cell? ((⟨r6,0,none⟩:Addr).add 0)=some (.int .i64 rQ))/\
 ∃ja:SV,(∀w',S3 w'->w'.cell? ((⟨r6,0,none⟩:Addr).add 1)=some (ja.v))/\
 ∃jb:SV,(∀w',S3 w'->w'.cell? ((⟨r6,0,none⟩:Addr).add 2)=some (jb.v))/\
 ∃jc:SV,(∀w',S3 w'->w'.cell? ((⟨r6,0,none⟩:Addr).add 3)=some (jc.v))/\
 ∃jd:SV,(∀w',S3 w'->w'.cell? ((⟨r6,0,none⟩:Addr).add 4)=some (jd.v))/\
 ∃je:SV,(∀w',S3 w'->w'.cell? ((⟨r6,0,none⟩:Addr).add 5)=some (je.v))/\
 ∃n109,(∀w',S3 w'->w'.cell? ((⟨r7,0,none⟩:Addr).add 2)=some (.int .i64 n109))/\
 ∃n114,(∀w',S3 w'->w'.cell? ((⟨r7,0,none⟩:Addr).add 1)=some (.int .i64 n114))/\
 ∃s116,(∀w',S3 w'->w'.cell? ((⟨r7,0,none⟩:Addr).add 4)=some (.string s116))/\
 ∃rR,(∀w',S3 w'->w'.cell? ((⟨r6,0,none⟩:Addr).add 0)=some (.int .i64 rR))/\
 ∃bm:SV,(∀w',S3 w'->w'.cell? ((⟨r6,0,none⟩:Addr).add 1)=some (bm.v))/\
 ∃jf:SV,(∀w',S3 w'->w'.cell? ((⟨r6,0,none⟩:Addr).add 2)=some (jf.v))/\
 ∃jg:SV,(∀w',S3 w'->w'.cell? ((⟨r6,0,none⟩:Addr).add 3)=some (jg.v))/\
 ∃jh:SV,(∀w',S3 w'->w'.cell? ((⟨r6,0,none⟩:Addr).add 4)=some (jh.v))/\
 ∃ji:SV,(∀w',S3 w'->w'.cell? ((⟨r6,0,none⟩:Addr).add 5)=some (ji.v))/\
 ∃n119,(∀w',S3 w'->w'.cell? ((⟨r7,0,none⟩:Addr).add 2)=some (.int .i64 n119))/\
 Calls prog 66 #[.agg #[.int .i64 rQ,ja.v,jb.v,jc.v,jd.v,je.v],.int .i64 n109] dW λe fo=>
 ∃rS:Int,∃rT:Int,∃rU:ByteArray,e=.returned (.agg #[.int .i64 rS,.int .i64 rT,.string rU])/\
 S3 fo/\
 Calls prog 40 #[.pointer p0,.int .i64 n104,.string s106,.agg #[.int .i64 rS,.int .i64 rT,.string rU]] fo λe iu=>
 ∃n111:Int,e=.returned (.int .i64 n111)/\
 S3 iu/\
 Calls prog 66 #[.agg #[.int .i64 rR,bm.v,jf.v,jg.v,jh.v,ji.v],.int .i64 n119] iu λe gn=>
 ∃rV:Int,∃rW:Int,∃rX:ByteArray,e=.returned (.agg #[.int .i64 rV,.int .i64 rW,.string rX])/\
 S3 gn/\
 Calls prog 67 #[.pointer p1,.int .i64 n114,.string s116,.agg #[.int .i64 rV,.int .i64 rW,.string rX]] gn λe gk=>
 ∃n121:Int,e=.returned (.int .i64 n121)/\
 zQb prog ds gk λfW=>
 R (.returned (.bool (n111 == n121))) fW) (
 Calls prog 41 #[.pointer p0] w2 λe fX=>
 ∃n124:Int,e=.returned (.int .i64 n124)/\
 Calls prog 68 #[.pointer p1] fX λe i5=>
 ∃n126:Int,e=.returned (.int .i64 n126)/\
 zQb prog ds i5 λro=>
 R (.returned (.bool (n124 == n126))) ro)))))))
theorem F17_p:Pl prog f17 [pS 0,pS 1,aS 2 [.int .i64,.slice,.slice,.slice,.slice,.slice],aS 3 [.int .i64,.int .i64,.int .i64,.int .i64,.str,.str]] F17_1:=λR=>
 lf
theorem xXK (p0 p1:Option Addr) (cC:Int) (bJ oH oI oJ oK:SV) (iP gA o9 tq:Int) (tr tt:ByteArray) (w:World) (R:Rt) (h:F17_1 R p0 p1 cC bJ oH oI oJ oK iP gA o9 tq tr tt [] w):Calls prog 17 #[.pointer p0,.pointer p1,.agg #[.int .i64 cC,bJ.v,oH.v,oI.v,oJ.v,oK.v],.agg #[.int .i64 iP,.int .i64 gA,.int .i64 o9,.int .i64 tq,.string tr,.string tt]] w R:=
 plC F17_p func17 h
def F16_1(R:Rt)(ax:Int)(ah ai br bt bu:SV)(ds:Ds)(w:World):Prop:=
 alE (.cells #[.int .i64 ax,ah.v,ai.v,br.v,bt.v,bu.v] 41) w λr1 w1=>
 ∃j0,w1.cell? ((⟨r1,0,none⟩:Addr).add 0)=some (.int .i64 j0)/\
 ∃dc:SV,w1.cell? ((⟨r1,0,none⟩:Addr).add 1)=some (dc.v)/\
 ∃dd:SV,w1.cell? ((⟨r1,0,none⟩:Addr).add 2)=some (dd.v)/\
 Calls prog 43 #[.agg #[.int .i64 j0,dc.v,dd.v]] w1 λe w2=>
 ∃rY:Option Addr,∃ei:Int,e=.returned (.tuple #[.pointer rY,.int .i64 ei])/\
 ∃gx,w2.cell? ((⟨r1,0,none⟩:Addr).add 0)=some (.int .i64 gx)/\
 ∃cZ:SV,w2.cell? ((⟨r1,0,none⟩:Addr).add 1)=some (cZ.v)/\
 ∃c8:SV,w2.cell? ((⟨r1,0,none⟩:Addr).add 2)=some (c8.v)/\
 Calls prog 42 #[.agg #[.int .i64 gx,cZ.v,c8.v]] w2 λe w3=>
 ∃wG:Option Addr,∃gc:Int,e=.returned (.tuple #[.pointer wG,.int .i64 gc])/\
 Br (ei != gc) (
 zQb prog ds w3 λw4=>
 R (.returned (.tuple #[.pointer none,.pointer none,.bool false])) w4) (
 ∃qO:Bool,∃w5,(eqS .eql 24 (.tmp 25) (.const (.pointer none)) (.pointer rY) (.pointer none)).run prog w3=.ok (.bool qO) w5/\
 Br (!(qO == (ei != 0))) (
 zQb prog ds w5 λw6=>
 R (.returned (.tuple #[.pointer none,.pointer none,.bool false])) w6) (
 zQb prog ds w5 λw7=>
 R (.returned (.tuple #[.pointer rY,.pointer wG,.bool true])) w7))
theorem F16_p:Pl prog f16 [aS 0 [.int .i64,.slice,.slice,.slice,.slice,.slice]] F16_1:=λR=>
 lf
theorem yY7 (ax:Int) (ah ai br bt bu:SV) (w:World) (R:Rt) (h:F16_1 R ax ah ai br bt bu [] w):Calls prog 16 #[.agg #[.int .i64 ax,ah.v,ai.v,br.v,bt.v,bu.v]] w R:=
 plC F16_p func16 h
def F31_1(R:Rt)(p4:Option Addr)(ds:Ds)(w:World):Prop:=
 zQb prog ds w λw1=>
 R (.returned (.tuple #[.pointer p4,.bool true])) w1
def F31_2 (R:Rt) (J1:(Int)->World->Prop) (p1 p4 p5:Option Addr) (n7:Int) (ds:Ds) (w:World):Prop:=
 zQg p1 λa2=>
 ∃gl:SV,w.cell? (a2.add 5)=some (gl.v)/\
 Br (decide (n7<(gl.len:Int))) (
 dwE w λw3=>
 zQg p1 λa4=>
 ∃dM,w3.cell? (a4.add 0)=some (.int .i64 dM)/\
 ∃bh:SV,w3.cell? (a4.add 1)=some (bh.v)/\
 ∃bi:SV,w3.cell? (a4.add 2)=some (bi.v)/\
 ∃mM:SV,w3.cell? (a4.add 3)=some (mM.v)/\
 ∃mN:SV,w3.cell? (a4.add 4)=some (mN.v)/\
 ∃mO:SV,w3.cell? (a4.add 5)=some (mO.v)/\
 zQg p1 λa5=>
 ∃ij:SV,w3.cell? (a5.add 5)=some (ij.v)/\
 ∃a6,ij.a=some a6/\0<=n7/\n7<(ij.len:Int)/\
 ∃oz,w3.cell? ((a6.add (n7.toNat * 6)).add 0)=some (.int .i64 oz)/\
 ∃ow,w3.cell? ((a6.add (n7.toNat * 6)).add 1)=some (.int .i64 ow)/\
 ∃wH,w3.cell? ((a6.add (n7.toNat * 6)).add 2)=some (.int .i64 wH)/\
 ∃wI,w3.cell? ((a6.add (n7.toNat * 6)).add 3)=some (.int .i64 wI)/\
 ∃wJ,w3.cell? ((a6.add (n7.toNat * 6)).add 4)=some (.string wJ)/\
 ∃wK,w3.cell? ((a6.add (n7.toNat * 6)).add 5)=some (.string wK)/\
 Calls prog 17 #[.pointer p4,.pointer p5,.agg #[.int .i64 dM,bh.v,bi.v,mM.v,mN.v,mO.v],.agg #[.int .i64 oz,.int .i64 ow,.int .i64 wH,.int .i64 wI,.string wJ,.string wK]] w3 λe w7=>
 ∃b36:Bool,e=.returned (.bool b36)/\
 Br (!b36) (
 zQb prog ds w7 λw8=>
 R (.returned (.tuple #[.pointer none,.bool false])) w8) (
 J1 (IntKind.i64.wrap (n7+1)) w7)) (
 F31_1 R p4 ds w)
def F31_3(R:Rt)(p1 p4 p5:Option Addr)(n7:Int)(ds:Ds)(w:World):Prop:=
 zQE (λ(J1:(Int)->World->Prop) (s:Int) (w:World)=>F31_2 R J1 p1 p4 p5 s ds w) n7 w
def F31_5(R:Rt)(ax:Int)(ah ai br bt bu:SV)(ds:Ds)(w:World):Prop:=
 alE (.cells #[.int .i64 ax,ah.v,ai.v,br.v,bt.v,bu.v] 41) w λr1 w9=>
 ∃il,w9.cell? ((⟨r1,0,none⟩:Addr).add 0)=some (.int .i64 il)/\
 ∃qA:SV,w9.cell? ((⟨r1,0,none⟩:Addr).add 1)=some (qA.v)/\
 ∃i9:SV,w9.cell? ((⟨r1,0,none⟩:Addr).add 2)=some (i9.v)/\
 ∃qB:SV,w9.cell? ((⟨r1,0,none⟩:Addr).add 3)=some (qB.v)/\
 ∃qC:SV,w9.cell? ((⟨r1,0,none⟩:Addr).add 4)=some (qC.v)/\
 ∃qD:SV,w9.cell? ((⟨r1,0,none⟩:Addr).add 5)=some (qD.v)/\
 Calls prog 16 #[.agg #[.int .i64 il,qA.v,i9.v,qB.v,qC.v,qD.v]] w9 λe aN=>
 ∃rZ:Option Addr,∃wL:Option Addr,∃qb:Bool,e=.returned (.tuple #[.pointer rZ,.pointer wL,.bool qb])/\
 Br (!qb) (
 zQb prog ds aN λaV=>
 R (.returned (.tuple #[.pointer none,.bool qb])) aV) (
 ∃pj:Bool,∃aO,(eqS .eql 24 (.tmp 17) (.const (.pointer none)) (.pointer rZ) (.pointer none)).run prog aN=.ok (.bool pj) aO/\
 Br pj (
 zQb prog ds aO λaH=>
 R (.returned (.tuple #[.pointer none,.bool qb])) aH) (
 F31_3 R (some (⟨r1,0,none⟩:Addr)) rZ wL 0 ds aO))
theorem F31_p:Pl prog f31 [aS 0 [.int .i64,.slice,.slice,.slice,.slice,.slice]] F31_5:=λR=>
 pc 5 (rest [pS 1,pS 4,pS 5,iS 7] (F31_3 R) (bk 0 (rest [pS 4] (F31_1 R) lf) (lp [iS 7] [pS 1,pS 4,pS 5,iS 7] (F31_2 R) zXL λJ1=>lf)))
theorem yY8 (ax:Int) (ah ai br bt bu:SV) (w:World) (R:Rt) (h:F31_5 R ax ah ai br bt bu [] w):Calls prog 31 #[.agg #[.int .i64 ax,ah.v,ai.v,br.v,bt.v,bu.v]] w R:=
 plC F31_p func31 h
end Go.Proofs.YtaeecpjhfmcliaaGreatDoor
/- Shallow texts of functions, printed by program, each checked by the kernel against the loaded code. No condition. -/
namespace Go.Proofs.YtaeecpjhfmcliaaGreatDoor
open Go.Sh Tryz
def xYR(R:Rt)(n5:Int)(ds:Ds)(w:World):Prop:=
 zQb prog ds w λw1=>
 R (.returned (.int .i64 n5)) w1
def F75_2 (R:Rt) (J1:(Int)->World->Prop) (l0:SV) (n1 n5:Int) (ds:Ds) (w:World):Prop:=
 Br (decide (n5<(l0.len:Int))) (
 ∃a2,l0.a=some a2/\0<=n5/\n5<(l0.len:Int)/\
 ∃kU,w.cell? (a2.add (n5.toNat * 1))=some (.int .i64 kU)/\
 Br (decide (kU<=n1)) (
 J1 (IntKind.i64.wrap (n5+1)) w) (
 xYR R n5 ds w)) (
 xYR R n5 ds w)
def F75_3(R:Rt)(l0:SV)(n1 n5:Int)(ds:Ds)(w:World):Prop:=
 zQE (λ(J1:(Int)->World->Prop) (s:Int) (w:World)=>F75_2 R J1 l0 n1 s ds w) n5 w
def F75_5(R:Rt)(l0:SV)(n1:Int)(ds:Ds)(w:World):Prop:=
 F75_3 R l0 n1 0 ds w
theorem F75_p:Pl prog f75 [lS 0,iS 1] F75_5:=λR=>
 pc 2 (rest [lS 0,iS 1,iS 5] (F75_3 R) (bk 0 (rest [iS 5] (xYR R) lf) (lp [iS 5] [lS 0,iS 1,iS 5] (F75_2 R) zXL λJ1=>lf)))
theorem xQJ (l0:SV) (n1:Int) (w:World) (R:Rt) (h:F75_5 R l0 n1 [] w):Calls prog 75 #[l0.v,.int .i64 n1] w R:=
 plC F75_p func75 h
def xYC(R:Rt)(ds:Ds)(w:World):Prop:=
 zQb prog ds w λw1=>
 R (.returned (.int .i64 (-1))) w1
def F32_2 (R:Rt) (J1:(Int)->World->Prop) (p0:Option Addr) (l1:SV) (n2:Int) (p12:Option Addr) (dR:Int) (ds:Ds) (w:World):Prop:=
 Calls prog 75 #[l1.v,.int .i64 n2] w λe w2=>
 ∃gh:Int,e=.returned (.int .i64 gh)/\
 Br (decide (dR<=(IntKind.i64.wrap (gh+1)))) (
 Br (decide (dR<=(l1.len:Int))) (
 Calls prog 27 #[.pointer p0,.int .i64 dR] w2 λe w3=>
 ∃qc:Int,∃ig:SV,∃ii:SV,∃kL:Int,e=.returned (.tuple #[.agg #[.int .i64 qc,ig.v,ii.v],.int .i64 kL])/\
 alE (.cells #[.int .i64 0,.slice none 0 0,.slice none 0 0] 35) w3 λaL w4=>
 stA prog 35 (⟨aL,0,none⟩:Addr) #[.int .i64 qc,ig.v,ii.v] w4 λw5=>
 dwE w5 λw6=>
 ∃S1:World->Prop,S1 w6/\
 ∃iy,(∀w',S1 w'->w'.cell? ((⟨aL,0,none⟩:Addr).add 0)=some (.int .i64 iy))/\
 ∃mP:SV,(∀w',S1 w'->w'.cell? ((⟨aL,0,none⟩:Addr).add 1)=some (mP.v))/\
 ∃mQ:SV,(∀w',S1 w'->w'.cell? ((⟨aL,0,none⟩:Addr).add 2)=some (mQ.v))/\
 Calls prog 14 #[.pointer p12] w6 λe w7=>
 ∃oG:Int,∃fR:SV,∃fS:SV,e=.returned (.agg #[.int .i64 oG,fR.v,fS.v])/\
 S1 w7/\
 Calls prog 18 #[.agg #[.int .i64 oG,fR.v,fS.v],.agg #[.int .i64 iy,mP.v,mQ.v]] w7 λe w8=>
 ∃b60:Bool,e=.returned (.bool b60)/\
 Br b60 (
 zQb prog ds w8 λw9=>
 R (.returned (.int .i64 dR)) w9) (
 J1 (IntKind.i64.wrap (dR+1)) w8)) (
 xYC R ds w2)) (
 xYC R ds w2)
def F32_3(R:Rt)(p0:Option Addr)(l1:SV)(n2:Int)(p12:Option Addr)(dR:Int)(ds:Ds)(w:World):Prop:=
 zQE (λ(J1:(Int)->World->Prop) (s:Int) (w:World)=>F32_2 R J1 p0 l1 n2 p12 s ds w) dR w
def F32_5(R:Rt)(p0:Option Addr)(l1:SV)(n2 n3:Int)(ds:Ds)(w:World):Prop:=
 Calls prog 33 #[.pointer p0,.int .i64 n2,.int .i64 n3] w λe aN=>
 ∃mR:SV,∃cV:SV,∃ob:Int,e=.returned (.tuple #[mR.v,cV.v,.int .i64 ob])/\
 Br (ob != 0) (
 zQb prog ds aN λaV=>
 R (.returned (.int .i64 (-1))) aV) (
 Calls prog 11 #[mR.v,cV.v] aN λe aO=>
 ∃wM:Option Addr,∃jR:Int,e=.returned (.tuple #[.pointer wM,.int .i64 jR])/\
 Br (jR != 0) (
 zQb prog ds aO λaH=>
 R (.returned (.int .i64 (-1))) aH) (
 Calls prog 75 #[l1.v,.int .i64 n2] aO λe bq=>
 ∃iU:Int,e=.returned (.int .i64 iU)/\
 F32_3 R p0 l1 n2 wM iU ds bq))
theorem F32_p:Pl prog f32 [pS 0,lS 1,iS 2,iS 3] F32_5:=λR=>
 pc 8 (rest [pS 0,lS 1,iS 2,pS 12,iS 13] (F32_3 R) (bk 0 (rest [] (xYC R) lf) (lp [iS 13] [pS 0,lS 1,iS 2,pS 12,iS 13] (F32_2 R) zXL λJ1=>lf)))
theorem yYl (p0:Option Addr) (l1:SV) (n2 n3:Int) (w:World) (R:Rt) (h:F32_5 R p0 l1 n2 n3 [] w):Calls prog 32 #[.pointer p0,l1.v,.int .i64 n2,.int .i64 n3] w R:=
 plC F32_p func32 h
end Go.Proofs.YtaeecpjhfmcliaaGreatDoor
/- Shallow texts of functions, printed by program, each checked by the kernel against the loaded code. No condition. -/
namespace Go.Proofs.YtaeecpjhfmcliaaGreatDoor
open Go.Sh Tryz
end Go.Proofs.YtaeecpjhfmcliaaGreatDoor
/- Shallow texts of functions, printed by program, each checked by the kernel against the loaded code. No condition. -/
namespace Go.Proofs.YtaeecpjhfmcliaaGreatDoor
open Go.Sh Tryz
end Go.Proofs.YtaeecpjhfmcliaaGreatDoor
/- Shallow texts of functions, printed by program, each checked by the kernel against the loaded code. No condition. -/
namespace Go.Proofs.YtaeecpjhfmcliaaGreatDoor
open Go.Sh Tryz
end Go.Proofs.YtaeecpjhfmcliaaGreatDoor
/- Shallow texts of functions, printed by program, each checked by the kernel against the loaded code. No condition. -/
namespace Go.Proofs.YtaeecpjhfmcliaaGreatDoor
open Go.Sh Tryz
end Go.Proofs.YtaeecpjhfmcliaaGreatDoor
/- Shallow texts of functions, printed by program, each checked by the kernel against the loaded code. No condition. -/
namespace Go.Proofs.YtaeecpjhfmcliaaGreatDoor
open Go.Sh Tryz
end Go.Proofs.YtaeecpjhfmcliaaGreatDoor
/- Shallow texts of functions, printed by program, each checked by the kernel against the loaded code. No condition. -/
namespace Go.Proofs.YtaeecpjhfmcliaaGreatDoor
open Go.Sh Tryz
def F9_1(R:Rt)(mT:Option Addr)(ds:Ds)(w:World):Prop:=
 Calls prog 29 #[.pointer mT] w λe w1=>
 ∃qE:SV,e=.returned (qE.v)/\
 Calls prog 30 #[.pointer mT] w1 λe w2=>
 ∃n153:Int,e=.returned (.int .i64 n153)/\
 Calls prog 32 #[.pointer mT,qE.v,.int .i64 n153,.int .i64 0] w2 λe w3=>
 ∃n154:Int,e=.returned (.int .i64 n154)/\
 Calls prog 22 #[.pointer mT] w3 λe w4=>
 ∃n156:Int,e=.returned (.int .i64 n156)/\
 Br (n154 == n156) (
 Calls prog 10 #[] w4 λe w5=>
 ∃b159:Bool,e=.returned (.bool b159)/\
 zQb prog ds w5 λw6=>
 R (.returned (.bool b159)) w6) (
 zQb prog ds w4 λw7=>
 R (.returned (.bool false)) w7)
def F9_2 (R:Rt) (J1:(Int)->World->Prop) (l1:SV) (p3 mT tu:Option Addr) (fp:Int) (ds:Ds) (w:World):Prop:=
 Br (decide (fp<(l1.len:Int))) (
 dwE w λw8=>
 zQg p3 λa9=>
 ∃sa,w8.cell? (a9.add 0)=some (.int .i64 sa)/\
 ∃jj:SV,w8.cell? (a9.add 1)=some (jj.v)/\
 ∃jk:SV,w8.cell? (a9.add 2)=some (jk.v)/\
 ∃jl:SV,w8.cell? (a9.add 3)=some (jl.v)/\
 ∃jm:SV,w8.cell? (a9.add 4)=some (jm.v)/\
 ∃jn:SV,w8.cell? (a9.add 5)=some (jn.v)/\
 ∃dx,l1.a=some dx/\0<=fp/\fp<(l1.len:Int)/\
 ∃sb,w8.cell? ((dx.add (fp.toNat * 6)).add 0)=some (.int .i64 sb)/\
 ∃sd,w8.cell? ((dx.add (fp.toNat * 6)).add 1)=some (.int .i64 sd)/\
 ∃se,w8.cell? ((dx.add (fp.toNat * 6)).add 2)=some (.int .i64 se)/\
 ∃sf,w8.cell? ((dx.add (fp.toNat * 6)).add 3)=some (.int .i64 sf)/\
 ∃si,w8.cell? ((dx.add (fp.toNat * 6)).add 4)=some (.string si)/\
 ∃sj,w8.cell? ((dx.add (fp.toNat * 6)).add 5)=some (.string sj)/\
 Calls prog 17 #[.pointer mT,.pointer tu,.agg #[.int .i64 sa,jj.v,jk.v,jl.v,jm.v,jn.v],.agg #[.int .i64 sb,.int .i64 sd,.int .i64 se,.int .i64 sf,.string si,.string sj]] w8 λe aV=>
 ∃b132:Bool,e=.returned (.bool b132)/\
 Br (!b132) (
 zQb prog ds aV λaO=>
 R (.returned (.bool false)) aO) (
 Calls prog 14 #[.pointer mT] aV λe aH=>
 ∃sk:Int,∃jo:SV,∃jp:SV,e=.returned (.agg #[.int .i64 sk,jo.v,jp.v])/\
 Calls prog 19 #[.pointer tu] aH λe bq=>
 ∃sm:Int,∃jq:SV,∃jr:SV,e=.returned (.agg #[.int .i64 sm,jq.v,jr.v])/\
 Calls prog 18 #[.agg #[.int .i64 sk,jo.v,jp.v],.agg #[.int .i64 sm,jq.v,jr.v]] bq λe bp=>
 ∃b139:Bool,e=.returned (.bool b139)/\
 Br (!b139) (
 zQb prog ds bp λbG=>
 R (.returned (.bool false)) bG) (
 Calls prog 22 #[.pointer mT] bp λe bH=>
 ∃n144:Int,e=.returned (.int .i64 n144)/\
 Calls prog 23 #[.pointer tu] bH λe bO=>
 ∃n146:Int,e=.returned (.int .i64 n146)/\
 Br (n144 != n146) (
 zQb prog ds bO λcL=>
 R (.returned (.bool false)) cL) (
 J1 (IntKind.i64.wrap (fp+1)) bO)))) (
 F9_1 R mT ds w)
def F9_3(R:Rt)(l1:SV)(p3 mT tu:Option Addr)(fp:Int)(ds:Ds)(w:World):Prop:=
 zQE (λ(J1:(Int)->World->Prop) (s:Int) (w:World)=>F9_2 R J1 l1 p3 mT tu s ds w) fp w
def F9_5(R:Rt)(l1:SV)(p3 mT tu:Option Addr)(ds:Ds)(w:World):Prop:=
 Calls prog 33 #[.pointer mT,.int .i64 0,.int .i64 0] w λe bU=>
 ∃mU:SV,∃mV:SV,∃wN:Int,e=.returned (.tuple #[mU.v,mV.v,.int .i64 wN])/\
 Br (wN != 0) (
 zQb prog ds bU λct=>
 R (.returned (.bool false)) ct) (
 Calls prog 11 #[mU.v,mV.v] bU λe dX=>
 ∃sn:Option Addr,∃sq:Int,e=.returned (.tuple #[.pointer sn,.int .i64 sq])/\
 Br (sq != 0) (
 zQb prog ds dX λdV=>
 R (.returned (.bool false)) dV) (
 Calls prog 14 #[.pointer sn] dX λe dy=>
 ∃sr:Int,∃js:SV,∃jt:SV,e=.returned (.agg #[.int .i64 sr,js.v,jt.v])/\
 Calls prog 14 #[.pointer mT] dy λe gj=>
 ∃ss:Int,∃ju:SV,∃jv:SV,e=.returned (.agg #[.int .i64 ss,ju.v,jv.v])/\
 Calls prog 18 #[.agg #[.int .i64 sr,js.v,jt.v],.agg #[.int .i64 ss,ju.v,jv.v]] gj λe fe=>
 ∃b116:Bool,e=.returned (.bool b116)/\
 Br (!b116) (
 zQb prog ds fe λgQ=>
 R (.returned (.bool false)) gQ) (
 F9_3 R l1 p3 mT tu 0 ds fe)))
def F9_6(R:Rt)(l1:SV)(p3 mT tu:Option Addr)(lr:Int)(ds:Ds)(w:World):Prop:=
 Br (lr != 0) (
 zQb prog ds w λdW=>
 R (.returned (.bool false)) dW) (
 Calls prog 22 #[.pointer mT] w λe fo=>
 ∃yT:Int,e=.returned (.int .i64 yT)/\
 Br (yT != 0) (
 zQb prog ds fo λiu=>
 R (.returned (.bool false)) iu) (
 Calls prog 30 #[.pointer mT] fo λe gn=>
 ∃n87:Int,e=.returned (.int .i64 n87)/\
 Br (n87 != 0) (
 zQb prog ds gn λgk=>
 R (.returned (.bool false)) gk) (
 Calls prog 20 #[.pointer mT] gn λe fW=>
 ∃n92:Int,e=.returned (.int .i64 n92)/\
 Br (n92 != 0) (
 zQb prog ds fW λfX=>
 R (.returned (.bool false)) fX) (
 F9_5 R l1 p3 mT tu ds fW))))
def F9_7(R:Rt)(ax:Int)(ah ai br bt bu l1:SV)(cC dq:Int)(ds:Ds)(w:World):Prop:=
 alE (.cells #[.int .i64 ax,ah.v,ai.v,br.v,bt.v,bu.v] 41) w λr3 i5=>
 alE (.cells #[.int .i64 cC,.int .i64 dq] 75) i5 λr5 ro=>
 dwE ro λj4=>
 0<=(0:Int)/\(0:Int)<(2:Int)/\
 ∃cp,j4.cell? ((⟨r5,0,none⟩:Addr).add ((0:Int).toNat * 1))=some (.int .i64 cp)/\
 0<=(1:Int)/\(1:Int)<(2:Int)/\
 ∃gb,j4.cell? ((⟨r5,0,none⟩:Addr).add ((1:Int).toNat * 1))=some (.int .i64 gb)/\
 ∃wO,j4.cell? ((⟨r3,0,none⟩:Addr).add 0)=some (.int .i64 wO)/\
 ∃aZ:SV,j4.cell? ((⟨r3,0,none⟩:Addr).add 1)=some (aZ.v)/\
 ∃mW:SV,j4.cell? ((⟨r3,0,none⟩:Addr).add 2)=some (mW.v)/\
 ∃mX:SV,j4.cell? ((⟨r3,0,none⟩:Addr).add 3)=some (mX.v)/\
 ∃mY:SV,j4.cell? ((⟨r3,0,none⟩:Addr).add 4)=some (mY.v)/\
 ∃mZ:SV,j4.cell? ((⟨r3,0,none⟩:Addr).add 5)=some (mZ.v)/\
 Calls prog 15 #[.agg #[.int .i64 wO,aZ.v,mW.v,mX.v,mY.v,mZ.v]] j4 λe nG=>
 ∃yP:Bool,e=.returned (.bool yP)/\
 Br yP (
 Calls prog 10 #[] nG λe kw=>
 ∃b35:Bool,e=.returned (.bool b35)/\
 zQb prog ds kw λrq=>
 R (.returned (.bool b35)) rq) (
 Calls prog 15 #[.agg #[.int .i64 0,.slice none 0 0,.slice none 0 0,.slice none 0 0,.slice none 0 0,l1.v]] nG λe nn=>
 ∃zi:Bool,e=.returned (.bool zi)/\
 Br zi (
 Calls prog 10 #[] nn λe xq=>
 ∃b35:Bool,e=.returned (.bool b35)/\
 zQb prog ds xq λqo=>
 R (.returned (.bool b35)) qo) (
 ∃eO,nn.cell? ((⟨r3,0,none⟩:Addr).add 0)=some (.int .i64 eO)/\
 ∃cj:SV,nn.cell? ((⟨r3,0,none⟩:Addr).add 1)=some (cj.v)/\
 ∃ck:SV,nn.cell? ((⟨r3,0,none⟩:Addr).add 2)=some (ck.v)/\
 ∃m4:SV,nn.cell? ((⟨r3,0,none⟩:Addr).add 3)=some (m4.v)/\
 ∃m7:SV,nn.cell? ((⟨r3,0,none⟩:Addr).add 4)=some (m7.v)/\
 ∃m8:SV,nn.cell? ((⟨r3,0,none⟩:Addr).add 5)=some (m8.v)/\
 Calls prog 31 #[.agg #[.int .i64 eO,cj.v,ck.v,m4.v,m7.v,m8.v]] nn λe kX=>
 ∃qd:Option Addr,∃wP:Bool,e=.returned (.tuple #[.pointer qd,.bool wP])/\
 ∃pC:Bool,∃qR,(eqS .eql 24 (.tmp 41) (.const (.pointer none)) (.pointer qd) (.pointer none)).run prog kX=.ok (.bool pC) qR/\
 Br pC (
 Br wP (
 Calls prog 10 #[] qR λe gp=>
 ∃zl:Bool,e=.returned (.bool zl)/\
 zQb prog ds gp λxu=>
 R (.returned (.bool zl)) xu) (
 zQb prog ds qR λkY=>
 R (.returned (.bool false)) kY)) (
 ∃iW:Int,∃te,(Builtin.max_ #[3,3] 3 #[.int .i64 cp,.int .i64 0]).run prog qR=.ok (.int .i64 iW) te/\
 Calls prog 30 #[.pointer qd] te λe vu=>
 ∃rh:Int,e=.returned (.int .i64 rh)/\
 ∃kx:Int,∃zD,(Builtin.min_ #[3,3] 3 #[.int .i64 iW,.int .i64 rh]).run prog vu=.ok (.int .i64 kx) zD/\
 ∃n55:Int,∃w52,(Builtin.max_ #[3,3] 3 #[.int .i64 gb,.int .i64 0]).run prog zD=.ok (.int .i64 n55) w52/\
 Calls prog 33 #[.pointer qd,.int .i64 kx,.int .i64 n55] w52 λe sM=>
 ∃na:SV,∃nc:SV,∃wQ:Int,e=.returned (.tuple #[na.v,nc.v,.int .i64 wQ])/\
 Calls prog 11 #[na.v,nc.v] sM λe sN=>
 ∃su:Option Addr,∃wR:Int,e=.returned (.tuple #[.pointer su,.int .i64 wR])/\
 Br (wQ != 0) (
 zQb prog ds sN λrG=>
 R (.returned (.bool false)) rG) (
 Br (wR != 0) (
 zQb prog ds sN λye=>
 R (.returned (.bool false)) ye) (
 Calls prog 14 #[.pointer su] sN λe xn=>
 ∃wS:Int,∃ng:SV,∃nh:SV,e=.returned (.agg #[.int .i64 wS,ng.v,nh.v])/\
 Calls prog 42 #[.agg #[.int .i64 wS,ng.v,nh.v]] xn λe qM=>
 ∃wT:Option Addr,∃wU:Int,e=.returned (.tuple #[.pointer wT,.int .i64 wU])/\
 F9_6 R l1 (some (⟨r3,0,none⟩:Addr)) su wT wU ds qM)))))
theorem F9_p:Pl prog f9 [aS 0 [.int .i64,.slice,.slice,.slice,.slice,.slice],lS 1,aS 2 [.int .i64,.int .i64]] F9_7:=λR=>
 pc 12 (rest [lS 1,pS 3,pS 14,pS 16,iS 17] (F9_6 R) (pc 2 (rest [lS 1,pS 3,pS 14,pS 16] (F9_5 R) (pc 7 (rest [lS 1,pS 3,pS 14,pS 16,iS 23] (F9_3 R) (bk 0 (rest [pS 14] (F9_1 R) lf) (lp [iS 23] [lS 1,pS 3,pS 14,pS 16,iS 23] (F9_2 R) zXL λJ1=>lf)))))))
theorem xZB (ax:Int) (ah ai br bt bu l1:SV) (cC dq:Int) (w:World) (R:Rt) (h:F9_7 R ax ah ai br bt bu l1 cC dq [] w):Calls prog 9 #[.agg #[.int .i64 ax,ah.v,ai.v,br.v,bt.v,bu.v],l1.v,.agg #[.int .i64 cC,.int .i64 dq]] w R:=
 plC F9_p func9 h
end Go.Proofs.YtaeecpjhfmcliaaGreatDoor
