import Derived.Test.YtaeecpjhfmcliaaGreatDoorProg
import Derived.Test.YtaeecpjhfmcliaaGreatDoorShTwentyEight
/- Shallow texts of functions, printed by program, each checked by the kernel against the loaded code. No condition. -/
set_option maxRecDepth 100000
set_option linter.unusedVariables false
namespace Go.Proofs.YtaeecpjhfmcliaaGreatDoor
open Go.Sh Tryz
def F42_1(R:Rt)(aw:Int)(ah ai:SV)(ds:Ds)(w:World):Prop:=
 alE (.cells #[.int .i64 aw,ah.v,ai.v] 35) w λr1 w1=>
 ∃iO,w1.cell? ((⟨r1,0,none⟩:Addr).add 0)=some (.int .i64 iO)/\
 ∃dz:SV,w1.cell? ((⟨r1,0,none⟩:Addr).add 1)=some (dz.v)/\
 ∃cA:SV,w1.cell? ((⟨r1,0,none⟩:Addr).add 2)=some (cA.v)/\
 Calls prog 13 #[.agg #[.int .i64 iO,dz.v,cA.v]] w1 λe w2=>
 ∃n6:Int,e=.returned (.int .i64 n6)/\
 Br (n6 != 0) (
 zQc prog ds w2 λw3=>
 R (.returned (.tuple #[.pointer none,.int .i64 n6])) w3) (
 dwE w2 λw4=>
 ∃S1:World->Prop,S1 w4/\
 ∃eV,(∀w',S1 w'->w'.cell? ((⟨r1,0,none⟩:Addr).add 0)=some (.int .i64 eV))/\
 ∃bx:SV,(∀w',S1 w'->w'.cell? ((⟨r1,0,none⟩:Addr).add 1)=some (bx.v))/\
 ∃bA:SV,(∀w',S1 w'->w'.cell? ((⟨r1,0,none⟩:Addr).add 2)=some (bA.v))/\
 ∃jU,(∀w',S1 w'->w'.cell? ((⟨r1,0,none⟩:Addr).add 0)=some (.int .i64 jU))/\
 ∃fQ:SV,(∀w',S1 w'->w'.cell? ((⟨r1,0,none⟩:Addr).add 1)=some (fQ.v))/\
 ∃fR:SV,(∀w',S1 w'->w'.cell? ((⟨r1,0,none⟩:Addr).add 2)=some (fR.v))/\
 Calls prog 71 #[.agg #[.int .i64 eV,bx.v,bA.v]] w4 λe w5=>
 ∃jZ:Int,∃dc:SV,∃dd:SV,e=.returned (.agg #[.int .i64 jZ,dc.v,dd.v])/\
 S1 w5/\
 Calls prog 71 #[.agg #[.int .i64 jU,fQ.v,fR.v]] w5 λe w6=>
 ∃vW:Int,∃me:SV,∃mf:SV,e=.returned (.agg #[.int .i64 vW,me.v,mf.v])/\
 alE (.cells #[.int .i64 vW,me.v,mf.v] 35) w6 λaL w7=>
 alE (.cells #[.int .i64 jZ,dc.v,dd.v,.slice (some ⟨aL,0,none⟩) 1 1,.slice none 0 0] 115) w7 λxv w8=>
 zQc prog ds w8 λw9=>
 R (.returned (.tuple #[.pointer (some (⟨xv,0,none⟩:Addr)),.int .i64 0])) w9)
theorem F42_p:Pl prog f42 [aS 0 [.int .i64,.slice,.slice]] F42_1:=λR=>
 lf
theorem xXr (aw:Int) (ah ai:SV) (w:World) (R:Rt) (h:F42_1 R aw ah ai [] w):Calls prog 42 #[.agg #[.int .i64 aw,ah.v,ai.v]] w R:=
 plC F42_p func42 h
def F99_1(R:Rt)(p0:Option Addr)(ds:Ds)(w:World):Prop:=
 dwE w λw1=>
 zQh p0 λa2=>
 ∃l5:SV,w1.cell? (a2.add 4)=some (l5.v)/\
 Br ((l5.len:Int) == 0) (
 zQh p0 λa3=>
 ∃jU,w1.cell? (a3.add 0)=some (.int .i64 jU)/\
 ∃fQ:SV,w1.cell? (a3.add 1)=some (fQ.v)/\
 ∃fR:SV,w1.cell? (a3.add 2)=some (fR.v)/\
 zQh p0 λa4=>
 ∃dT:SV,w1.cell? (a4.add 3)=some (dT.v)/\
 zQh p0 λa5=>
 ∃dS:SV,w1.cell? (a5.add 3)=some (dS.v)/\
 ∃a6,dT.a=some a6/\0<=(IntKind.i64.wrap ((dS.len:Int) - 1))/\(IntKind.i64.wrap ((dS.len:Int) - 1))<(dT.len:Int)/\
 ∃gM,w1.cell? ((a6.add ((IntKind.i64.wrap ((dS.len:Int) - 1)).toNat * 3)).add 0)=some (.int .i64 gM)/\
 ∃bE:SV,w1.cell? ((a6.add ((IntKind.i64.wrap ((dS.len:Int) - 1)).toNat * 3)).add 1)=some (bE.v)/\
 ∃db:SV,w1.cell? ((a6.add ((IntKind.i64.wrap ((dS.len:Int) - 1)).toNat * 3)).add 2)=some (db.v)/\
 Calls prog 18 #[.agg #[.int .i64 jU,fQ.v,fR.v],.agg #[.int .i64 gM,bE.v,db.v]] w1 λe w7=>
 ∃o9:Bool,e=.returned (.bool o9)/\
 Br (!o9) (
 dwE w7 λw8=>
 ∃S2:World->Prop,S2 w8/\
 zQh p0 λa9=>
 ∃im:SV,(∀w',S2 w'->w'.cell? (a9.add 3)=some (im.v))/\
 zQh p0 λeu=>
 ∃eZ,(∀w',S2 w'->w'.cell? (eu.add 0)=some (.int .i64 eZ))/\
 ∃cg:SV,(∀w',S2 w'->w'.cell? (eu.add 1)=some (cg.v))/\
 ∃bC:SV,(∀w',S2 w'->w'.cell? (eu.add 2)=some (bC.v))/\
 Calls prog 71 #[.agg #[.int .i64 eZ,cg.v,bC.v]] w8 λe aV=>
 ∃gv:Int,∃cW:SV,∃cX:SV,e=.returned (.agg #[.int .i64 gv,cW.v,cX.v])/\
 S2 aV/\
 alE (.cells #[.int .i64 gv,cW.v,cX.v] 35) aV λr38 aO=>
 S2 aO/\
 ∃gk:SV,∃aI,(Builtin.append_ #[106,106] 106 #[im.v,.slice (some ⟨r38,0,none⟩) 1 1]).run prog aO=.ok (gk.v) aI/\
 zQh p0 λga=>
 st1 (ga.add 3) (gk.v) aI λbr=>
 zQc prog ds br λbI=>
 R (.returned (.tuple #[])) bI) (
 zQc prog ds w7 λbJ=>
 R (.returned (.tuple #[])) bJ)) (
 zQc prog ds w1 λbR=>
 R (.returned (.tuple #[])) bR)
theorem F99_p:Pl prog f99 [pS 0] F99_1:=λR=>
 lf
theorem xXp (p0:Option Addr) (w:World) (R:Rt) (h:F99_1 R p0 [] w):Calls prog 99 #[.pointer p0] w R:=
 plC F99_p func99 h
def F59_1(R:Rt)(p0:Option Addr)(ds:Ds)(w:World):Prop:=
 zQh p0 λa1=>
 ∃l6:SV,w.cell? (a1.add 4)=some (l6.v)/\
 Br (decide ((l6.len:Int) >= 8)) (
 zQc prog ds w λw2=>
 R (.returned (.int .i64 3)) w2) (
 dwE w λw3=>
 ∃S1:World->Prop,S1 w3/\
 zQh p0 λa4=>
 ∃cz:SV,(∀w',S1 w'->w'.cell? (a4.add 4)=some (cz.v))/\
 zQh p0 λa5=>
 ∃gx,(∀w',S1 w'->w'.cell? (a5.add 0)=some (.int .i64 gx))/\
 ∃cY:SV,(∀w',S1 w'->w'.cell? (a5.add 1)=some (cY.v))/\
 ∃cZ:SV,(∀w',S1 w'->w'.cell? (a5.add 2)=some (cZ.v))/\
 Calls prog 71 #[.agg #[.int .i64 gx,cY.v,cZ.v]] w3 λe w6=>
 ∃gw:Int,∃bZ:SV,∃c8:SV,e=.returned (.agg #[.int .i64 gw,bZ.v,c8.v])/\
 S1 w6/\
 alE (.cells #[.int .i64 gw,bZ.v,c8.v] 35) w6 λr19 w7=>
 S1 w7/\
 ∃dS:SV,∃w8,(Builtin.append_ #[106,106] 106 #[cz.v,.slice (some ⟨r19,0,none⟩) 1 1]).run prog w7=.ok (dS.v) w8/\
 zQh p0 λa9=>
 st1 (a9.add 4) (dS.v) w8 λaN=>
 zQc prog ds aN λaV=>
 R (.returned (.int .i64 0)) aV)
theorem F59_p:Pl prog f59 [pS 0] F59_1:=λR=>
 lf
theorem xQ2 (p0:Option Addr) (w:World) (R:Rt) (h:F59_1 R p0 [] w):Calls prog 59 #[.pointer p0] w R:=
 plC F59_p func59 h
def F60_1(R:Rt)(p0:Option Addr)(ds:Ds)(w:World):Prop:=
 zQh p0 λa1=>
 ∃l6:SV,w.cell? (a1.add 4)=some (l6.v)/\
 Br ((l6.len:Int) == 0) (
 zQc prog ds w λw2=>
 R (.returned (.int .i64 9)) w2) (
 dwE w λw3=>
 zQh p0 λa4=>
 ∃cz:SV,w3.cell? (a4.add 4)=some (cz.v)/\
 zQh p0 λa5=>
 ∃dk:SV,w3.cell? (a5.add 4)=some (dk.v)/\
 0<=(IntKind.i64.wrap ((dk.len:Int) - 1))/\(IntKind.i64.wrap ((dk.len:Int) - 1)).toNat<=cz.cap/\0<=(IntKind.i64.wrap ((dk.len:Int) - 1)).toNat/\
 zQh p0 λa6=>
 st1 (a6.add 4) (.slice (if cz.cap=0 then cz.a else cz.a.map (λx=>x.add (0 * 3))) ((IntKind.i64.wrap ((dk.len:Int) - 1)).toNat - 0) (cz.cap - 0)) w3 λw7=>
 Calls prog 99 #[.pointer p0] w7 λe w8=>
 e=.returned (.tuple #[])/\
 zQc prog ds w8 λw9=>
 R (.returned (.int .i64 0)) w9)
theorem F60_p:Pl prog f60 [pS 0] F60_1:=λR=>
 lf
theorem xXH (p0:Option Addr) (w:World) (R:Rt) (h:F60_1 R p0 [] w):Calls prog 60 #[.pointer p0] w R:=
 plC F60_p func60 h
def F61_1(R:Rt)(p0:Option Addr)(ds:Ds)(w:World):Prop:=
 zQh p0 λa1=>
 ∃l6:SV,w.cell? (a1.add 4)=some (l6.v)/\
 Br ((l6.len:Int) == 0) (
 zQc prog ds w λw2=>
 R (.returned (.int .i64 9)) w2) (
 dwE w λw3=>
 zQh p0 λa4=>
 ∃cz:SV,w3.cell? (a4.add 4)=some (cz.v)/\
 zQh p0 λa5=>
 ∃dk:SV,w3.cell? (a5.add 4)=some (dk.v)/\
 ∃a6,cz.a=some a6/\0<=(IntKind.i64.wrap ((dk.len:Int) - 1))/\(IntKind.i64.wrap ((dk.len:Int) - 1))<(cz.len:Int)/\
 ∃dJ,w3.cell? ((a6.add ((IntKind.i64.wrap ((dk.len:Int) - 1)).toNat * 3)).add 0)=some (.int .i64 dJ)/\
 ∃c9:SV,w3.cell? ((a6.add ((IntKind.i64.wrap ((dk.len:Int) - 1)).toNat * 3)).add 1)=some (c9.v)/\
 ∃fP:SV,w3.cell? ((a6.add ((IntKind.i64.wrap ((dk.len:Int) - 1)).toNat * 3)).add 2)=some (fP.v)/\
 zQh p0 λa7=>
 stA prog 35 a7 #[.int .i64 dJ,c9.v,fP.v] w3 λw8=>
 dwE w8 λw9=>
 zQh p0 λeu=>
 ∃eg:SV,w9.cell? (eu.add 4)=some (eg.v)/\
 zQh p0 λdR=>
 ∃im:SV,w9.cell? (dR.add 4)=some (im.v)/\
 0<=(IntKind.i64.wrap ((im.len:Int) - 1))/\(IntKind.i64.wrap ((im.len:Int) - 1)).toNat<=eg.cap/\0<=(IntKind.i64.wrap ((im.len:Int) - 1)).toNat/\
 zQh p0 λkQ=>
 st1 (kQ.add 4) (.slice (if eg.cap=0 then eg.a else eg.a.map (λx=>x.add (0 * 3))) ((IntKind.i64.wrap ((im.len:Int) - 1)).toNat - 0) (eg.cap - 0)) w9 λaI=>
 zQc prog ds aI λbt=>
 R (.returned (.int .i64 0)) bt)
theorem F61_p:Pl prog f61 [pS 0] F61_1:=λR=>
 lf
theorem xQT (p0:Option Addr) (w:World) (R:Rt) (h:F61_1 R p0 [] w):Calls prog 61 #[.pointer p0] w R:=
 plC F61_p func61 h
def xVt(R:Rt)(p0:Option Addr)(n1:Int)(ds:Ds)(w:World):Prop:=
 Br (decide (n1 >= 1)) (
 zQh p0 λa1=>
 ∃cz:SV,w.cell? (a1.add 2)=some (cz.v)/\
 zQc prog ds w λw2=>
 R (.returned (.bool (decide (n1<=(cz.len:Int))))) w2) (
 zQc prog ds w λw3=>
 R (.returned (.bool false)) w3)
theorem F101_p:Pl prog f101 [pS 0,iS 1] xVt:=λR=>
 lf
theorem yKX (p0:Option Addr) (n1:Int) (w:World) (R:Rt) (h:xVt R p0 n1 [] w):Calls prog 101 #[.pointer p0,.int .i64 n1] w R:=
 plC F101_p func101 h
def xVq(R:Rt)(p0:Option Addr)(n1:Int)(gc:Bool)(bL:SV)(ds:Ds)(w:World):Prop:=
 alE (.cells #[.bool gc,bL.v] 67) w λr5 w1=>
 zQh p0 λa2=>
 ∃eV,w1.cell? (a2.add 0)=some (.int .i64 eV)/\
 ∃bx:SV,w1.cell? (a2.add 1)=some (bx.v)/\
 ∃bA:SV,w1.cell? (a2.add 2)=some (bA.v)/\
 Calls prog 71 #[.agg #[.int .i64 eV,bx.v,bA.v]] w1 λe w3=>
 ∃jZ:Int,∃dc:SV,∃dd:SV,e=.returned (.agg #[.int .i64 jZ,dc.v,dd.v])/\
 alE (.cells #[.int .i64 0,.slice none 0 0,.slice none 0 0] 35) w3 λr6 w4=>
 stA prog 35 (⟨r6,0,none⟩:Addr) #[.int .i64 jZ,dc.v,dd.v] w4 λw5=>
 ∃aW:SV,w5.cell? ((⟨r6,0,none⟩:Addr).add 2)=some (aW.v)/\
 Br (decide (n1 > (aW.len:Int))) (
 ∃dr:SV,w5.cell? ((⟨r6,0,none⟩:Addr).add 2)=some (dr.v)/\
 alE (.cells #[.bool false,.slice none 0 0] 67) w5 λr20 w6=>
 ∃cH:SV,∃w7,(Builtin.append_ #[33,33] 33 #[dr.v,.slice (some ⟨r20,0,none⟩) 1 1]).run prog w6=.ok (cH.v) w7/\
 st1 ((⟨r6,0,none⟩:Addr).add 2) (cH.v) w7 λw8=>
 dwE w8 λw9=>
 ∃S1:World->Prop,S1 w9/\
 ∃bY:SV,(∀w',S1 w'->w'.cell? ((⟨r6,0,none⟩:Addr).add 2)=some (bY.v))/\
 ∃gQ,(∀w',S1 w'->w'.cell? ((⟨r5,0,none⟩:Addr).add 0)=some (.bool gQ))/\
 ∃ci:SV,(∀w',S1 w'->w'.cell? ((⟨r5,0,none⟩:Addr).add 1)=some (ci.v))/\
 Calls prog 102 #[.agg #[.bool gQ,ci.v]] w9 λe aN=>
 ∃dD:Bool,∃aP:SV,e=.returned (.agg #[.bool dD,aP.v])/\
 S1 aN/\
 ∃dR,bY.a=some dR/\0<=(IntKind.i64.wrap (n1 - 1))/\(IntKind.i64.wrap (n1 - 1))<(bY.len:Int)/\
 stA prog 67 (dR.add ((IntKind.i64.wrap (n1 - 1)).toNat * 2)) #[.bool dD,aP.v] aN λaO=>
 ∃bM,aO.cell? ((⟨r6,0,none⟩:Addr).add 0)=some (.int .i64 bM)/\
 ∃aQ:SV,aO.cell? ((⟨r6,0,none⟩:Addr).add 1)=some (aQ.v)/\
 ∃aR:SV,aO.cell? ((⟨r6,0,none⟩:Addr).add 2)=some (aR.v)/\
 zQh p0 λlq=>
 stA prog 35 lq #[.int .i64 bM,aQ.v,aR.v] aO λbt=>
 Calls prog 99 #[.pointer p0] bt λe br=>
 e=.returned (.tuple #[])/\
 zQc prog ds br λbI=>
 R (.returned (.tuple #[])) bI) (
 dwE w5 λbJ=>
 ∃S2:World->Prop,S2 bJ/\
 ∃bY:SV,(∀w',S2 w'->w'.cell? ((⟨r6,0,none⟩:Addr).add 2)=some (bY.v))/\
 ∃gQ,(∀w',S2 w'->w'.cell? ((⟨r5,0,none⟩:Addr).add 0)=some (.bool gQ))/\
 ∃ci:SV,(∀w',S2 w'->w'.cell? ((⟨r5,0,none⟩:Addr).add 1)=some (ci.v))/\
 Calls prog 102 #[.agg #[.bool gQ,ci.v]] bJ λe bR=>
 ∃dD:Bool,∃aP:SV,e=.returned (.agg #[.bool dD,aP.v])/\
 S2 bR/\
 ∃ke,bY.a=some ke/\0<=(IntKind.i64.wrap (n1 - 1))/\(IntKind.i64.wrap (n1 - 1))<(bY.len:Int)/\
 stA prog 67 (ke.add ((IntKind.i64.wrap (n1 - 1)).toNat * 2)) #[.bool dD,aP.v] bR λcj=>
 ∃bM,cj.cell? ((⟨r6,0,none⟩:Addr).add 0)=some (.int .i64 bM)/\
 ∃aQ:SV,cj.cell? ((⟨r6,0,none⟩:Addr).add 1)=some (aQ.v)/\
 ∃aR:SV,cj.cell? ((⟨r6,0,none⟩:Addr).add 2)=some (aR.v)/\
 zQh p0 λa21=>
 stA prog 35 a21 #[.int .i64 bM,aQ.v,aR.v] cj λdX=>
 Calls prog 99 #[.pointer p0] dX λe dQ=>
 e=.returned (.tuple #[])/\
 zQc prog ds dQ λdx=>
 R (.returned (.tuple #[])) dx)
theorem F100_p:Pl prog f100 [pS 0,iS 1,aS 2 [.bool,.slice]] xVq:=λR=>
 lf
theorem yV0 (p0:Option Addr) (n1:Int) (gc:Bool) (bL:SV) (w:World) (R:Rt) (h:xVq R p0 n1 gc bL [] w):Calls prog 100 #[.pointer p0,.int .i64 n1,.agg #[.bool gc,bL.v]] w R:=
 plC F100_p func100 h
def F63_1(R:Rt)(p0:Option Addr)(ei:Bool)(bh:SV)(ds:Ds)(w:World):Prop:=
 alE (.cells #[.bool ei,bh.v] 67) w λr3 w1=>
 zQh p0 λa2=>
 ∃io:SV,w1.cell? (a2.add 2)=some (io.v)/\
 Br (decide ((IntKind.i64.wrap ((io.len:Int)+1)) > 300)) (
 zQc prog ds w1 λw3=>
 R (.returned (.tuple #[.int .i64 0,.int .i64 3])) w3) (
 dwE w1 λw4=>
 zQh p0 λa5=>
 ∃cH:SV,w4.cell? (a5.add 1)=some (cH.v)/\
 zQh p0 λa6=>
 ∃ct,w4.cell? a6=some (.int .i64 ct)/\
 ∃gQ,w4.cell? ((⟨r3,0,none⟩:Addr).add 0)=some (.bool gQ)/\
 ∃ci:SV,w4.cell? ((⟨r3,0,none⟩:Addr).add 1)=some (ci.v)/\
 Calls prog 54 #[cH.v,.int .i64 ct,.agg #[.bool gQ,ci.v]] w4 λe w7=>
 ∃kO:Int,e=.returned (.int .i64 kO)/\
 Br (kO != 0) (
 zQc prog ds w7 λw8=>
 R (.returned (.tuple #[.int .i64 0,.int .i64 kO])) w8) (
 ∃vX,w7.cell? ((⟨r3,0,none⟩:Addr).add 0)=some (.bool vX)/\
 ∃mg:SV,w7.cell? ((⟨r3,0,none⟩:Addr).add 1)=some (mg.v)/\
 Calls prog 100 #[.pointer p0,.int .i64 (IntKind.i64.wrap ((io.len:Int)+1)),.agg #[.bool vX,mg.v]] w7 λe w9=>
 e=.returned (.tuple #[])/\
 zQc prog ds w9 λaN=>
 R (.returned (.tuple #[.int .i64 (IntKind.i64.wrap ((io.len:Int)+1)),.int .i64 0])) aN))
theorem F63_p:Pl prog f63 [pS 0,aS 1 [.bool,.slice]] F63_1:=λR=>
 lf
theorem xQw (p0:Option Addr) (ei:Bool) (bh:SV) (w:World) (R:Rt) (h:F63_1 R p0 ei bh [] w):Calls prog 63 #[.pointer p0,.agg #[.bool ei,bh.v]] w R:=
 plC F63_p func63 h
def F64_1(R:Rt)(p0:Option Addr)(n1:Int)(gc:Bool)(bL:SV)(ds:Ds)(w:World):Prop:=
 alE (.cells #[.bool gc,bL.v] 67) w λr5 w1=>
 Calls prog 101 #[.pointer p0,.int .i64 n1] w1 λe w2=>
 ∃dO:Bool,e=.returned (.bool dO)/\
 Br (!dO) (
 zQc prog ds w2 λw3=>
 R (.returned (.int .i64 4)) w3) (
 dwE w2 λw4=>
 zQh p0 λa5=>
 ∃dT:SV,w4.cell? (a5.add 1)=some (dT.v)/\
 zQh p0 λa6=>
 ∃kP,w4.cell? a6=some (.int .i64 kP)/\
 ∃vY,w4.cell? ((⟨r5,0,none⟩:Addr).add 0)=some (.bool vY)/\
 ∃cf:SV,w4.cell? ((⟨r5,0,none⟩:Addr).add 1)=some (cf.v)/\
 Calls prog 54 #[dT.v,.int .i64 kP,.agg #[.bool vY,cf.v]] w4 λe w7=>
 ∃i5:Int,e=.returned (.int .i64 i5)/\
 Br (i5 != 0) (
 zQc prog ds w7 λw8=>
 R (.returned (.int .i64 i5)) w8) (
 ∃vZ,w7.cell? ((⟨r5,0,none⟩:Addr).add 0)=some (.bool vZ)/\
 ∃cw:SV,w7.cell? ((⟨r5,0,none⟩:Addr).add 1)=some (cw.v)/\
 Calls prog 100 #[.pointer p0,.int .i64 n1,.agg #[.bool vZ,cw.v]] w7 λe w9=>
 e=.returned (.tuple #[])/\
 zQc prog ds w9 λaN=>
 R (.returned (.int .i64 0)) aN))
theorem F64_p:Pl prog f64 [pS 0,iS 1,aS 2 [.bool,.slice]] F64_1:=λR=>
 lf
theorem xXN (p0:Option Addr) (n1:Int) (gc:Bool) (bL:SV) (w:World) (R:Rt) (h:F64_1 R p0 n1 gc bL [] w):Calls prog 64 #[.pointer p0,.int .i64 n1,.agg #[.bool gc,bL.v]] w R:=
 plC F64_p func64 h
def F65_1(R:Rt)(p0:Option Addr)(n1:Int)(b2:Bool)(ds:Ds)(w:World):Prop:=
 Calls prog 101 #[.pointer p0,.int .i64 n1] w λe w1=>
 ∃dO:Bool,e=.returned (.bool dO)/\
 Br (!dO) (
 zQc prog ds w1 λw2=>
 R (.returned (.int .i64 4)) w2) (
 zQh p0 λa3=>
 ∃dT:SV,w1.cell? (a3.add 2)=some (dT.v)/\
 ∃a4,dT.a=some a4/\0<=(IntKind.i64.wrap (n1 - 1))/\(IntKind.i64.wrap (n1 - 1))<(dT.len:Int)/\
 ∃oq,w1.cell? ((a4.add ((IntKind.i64.wrap (n1 - 1)).toNat * 2)).add 0)=some (.bool oq)/\
 ∃fK:SV,w1.cell? ((a4.add ((IntKind.i64.wrap (n1 - 1)).toNat * 2)).add 1)=some (fK.v)/\
 Calls prog 102 #[.agg #[.bool oq,fK.v]] w1 λe w5=>
 ∃v6:Bool,∃c9:SV,e=.returned (.agg #[.bool v6,c9.v])/\
 alE (.cells #[.bool false,.slice none 0 0] 67) w5 λr7 w6=>
 stA prog 67 (⟨r7,0,none⟩:Addr) #[.bool v6,c9.v] w6 λw7=>
 st1 (⟨r7,0,none⟩:Addr) (.bool b2) w7 λw8=>
 ∃oB,w8.cell? ((⟨r7,0,none⟩:Addr).add 0)=some (.bool oB)/\
 ∃bB:SV,w8.cell? ((⟨r7,0,none⟩:Addr).add 1)=some (bB.v)/\
 Calls prog 100 #[.pointer p0,.int .i64 n1,.agg #[.bool oB,bB.v]] w8 λe w9=>
 e=.returned (.tuple #[])/\
 zQc prog ds w9 λaN=>
 R (.returned (.int .i64 0)) aN)
theorem F65_p:Pl prog f65 [pS 0,iS 1,bS 2] F65_1:=λR=>
 lf
theorem xZc (p0:Option Addr) (n1:Int) (b2:Bool) (w:World) (R:Rt) (h:F65_1 R p0 n1 b2 [] w):Calls prog 65 #[.pointer p0,.int .i64 n1,.bool b2] w R:=
 plC F65_p func65 h
def xJr(R:Rt)(p0:Option Addr)(n1 n9:Int)(p11 p13:Option Addr)(ds:Ds)(w:World):Prop:=
 zQh p13 λa1=>
 ∃l64:SV,w.cell? (a1.add 1)=some (l64.v)/\
 zQh p11 λa2=>
 ∃oG,w.cell? (a2.add 0)=some (.int .i64 oG)/\
 ∃v7,w.cell? (a2.add 1)=some (.int .i64 v7)/\
 ∃wi,w.cell? (a2.add 2)=some (.string wi)/\
 ∃a3,l64.a=some a3/\0<=n9/\n9<(l64.len:Int)/\
 stA prog 73 (a3.add (n9.toNat * 3)) #[.int .i64 oG,.int .i64 v7,.string wi] w λw4=>
 zQh p13 λa5=>
 ∃oH,w4.cell? (a5.add 0)=some (.bool oH)/\
 ∃fS:SV,w4.cell? (a5.add 1)=some (fS.v)/\
 Calls prog 100 #[.pointer p0,.int .i64 n1,.agg #[.bool oH,fS.v]] w4 λe w6=>
 e=.returned (.tuple #[])/\
 zQc prog ds w6 λw7=>
 R (.returned (.int .i64 0)) w7
def F67_2(R:Rt)(p0:Option Addr)(n1:Int)(s2:ByteArray)(iV gB:Int)(nl:ByteArray)(ds:Ds)(w:World):Prop:=
 alE (.cells #[.int .i64 iV,.int .i64 gB,.string nl] 73) w λr7 w8=>
 zQh p0 λa9=>
 ∃dg:SV,w8.cell? (a9.add 1)=some (dg.v)/\
 Calls prog 103 #[dg.v,.string s2] w8 λe aN=>
 ∃dJ:Int,∃wj:Bool,e=.returned (.tuple #[.int .i64 dJ,.bool wj])/\
 Calls prog 101 #[.pointer p0,.int .i64 n1] aN λe aV=>
 ∃o6:Bool,e=.returned (.bool o6)/\
 Br (!o6) (
 zQc prog ds aV λaO=>
 R (.returned (.int .i64 4)) aO) (
 Br (!wj) (
 zQc prog ds aV λaI=>
 R (.returned (.int .i64 4)) aI) (
 dwE aV λbt=>
 ∃S1:World->Prop,S1 bt/\
 zQh p0 λjA=>
 ∃eR:SV,(∀w',S1 w'->w'.cell? (jA.add 1)=some (eR.v))/\
 ∃iJ,eR.a=some iJ/\0<=dJ/\dJ<(eR.len:Int)/\
 ∃rQ,(∀w',S1 w'->w'.cell? ((iJ.add (dJ.toNat * 4)).add 0)=some (.string rQ))/\
 ∃rR,(∀w',S1 w'->w'.cell? ((iJ.add (dJ.toNat * 4)).add 1)=some (.int .i64 rR))/\
 ∃rS,(∀w',S1 w'->w'.cell? ((iJ.add (dJ.toNat * 4)).add 2)=some (.int .i64 rS))/\
 ∃rT,(∀w',S1 w'->w'.cell? ((iJ.add (dJ.toNat * 4)).add 3)=some (.bool rT))/\
 zQh p0 λrF=>
 ∃n45,(∀w',S1 w'->w'.cell? rF=some (.int .i64 n45))/\
 ∃gg,(∀w',S1 w'->w'.cell? ((⟨r7,0,none⟩:Addr).add 0)=some (.int .i64 gg))/\
 ∃gh,(∀w',S1 w'->w'.cell? ((⟨r7,0,none⟩:Addr).add 1)=some (.int .i64 gh))/\
 ∃gi,(∀w',S1 w'->w'.cell? ((⟨r7,0,none⟩:Addr).add 2)=some (.string gi))/\
 (
 Calls prog 104 #[.agg #[.string rQ,.int .i64 rR,.int .i64 rS,.bool rT],.int .i64 n45,.agg #[.int .i64 gg,.int .i64 gh,.string gi]] bt λe bR=>
 ∃e7:Int,∃iW:Int,∃iX:ByteArray,∃cF:Int,e=.returned (.tuple #[.agg #[.int .i64 e7,.int .i64 iW,.string iX],.int .i64 cF])/\
 alE (.cells #[.int .i64 0,.int .i64 0,.string (⟨#[]⟩:ByteArray)] 73) bR λco cK=>
 stA prog 73 (⟨co,0,none⟩:Addr) #[.int .i64 e7,.int .i64 iW,.string iX] cK λcj=>
 Br (cF != 0) (
 zQc prog ds cj λcr=>
 R (.returned (.int .i64 cF)) cr) (
 zQh p0 λo2=>
 ∃kC:SV,cj.cell? (o2.add 2)=some (kC.v)/\
 ∃ph,kC.a=some ph/\0<=(IntKind.i64.wrap (n1 - 1))/\(IntKind.i64.wrap (n1 - 1))<(kC.len:Int)/\
 ∃j0,cj.cell? ((ph.add ((IntKind.i64.wrap (n1 - 1)).toNat * 2)).add 0)=some (.bool j0)/\
 ∃de:SV,cj.cell? ((ph.add ((IntKind.i64.wrap (n1 - 1)).toNat * 2)).add 1)=some (de.v)/\
 Calls prog 102 #[.agg #[.bool j0,de.v]] cj λe dx=>
 ∃j1:Bool,∃bD:SV,e=.returned (.agg #[.bool j1,bD.v])/\
 alE (.cells #[.bool false,.slice none 0 0] 67) dx λkT gj=>
 stA prog 67 (⟨kT,0,none⟩:Addr) #[.bool j1,bD.v] gj λfm=>
 xJr R p0 n1 dJ (some (⟨co,0,none⟩:Addr)) (some (⟨kT,0,none⟩:Addr)) ds fm))/\(
 alE (.cells #[.int .i64 0,.int .i64 0,.string (⟨#[]⟩:ByteArray)] 73) bt λco gS=>
 S1 gS/\
 Calls prog 104 #[.agg #[.string rQ,.int .i64 rR,.int .i64 rS,.bool rT],.int .i64 n45,.agg #[.int .i64 gg,.int .i64 gh,.string gi]] gS λe cy=>
 ∃e7:Int,∃iW:Int,∃iX:ByteArray,∃cF:Int,e=.returned (.tuple #[.agg #[.int .i64 e7,.int .i64 iW,.string iX],.int .i64 cF])/\
 stA prog 73 (⟨co,0,none⟩:Addr) #[.int .i64 e7,.int .i64 iW,.string iX] cy λgb=>
 Br (cF != 0) (
 zQc prog ds gb λgT=>
 R (.returned (.int .i64 cF)) gT) (
 zQh p0 λsX=>
 ∃kC:SV,gb.cell? (sX.add 2)=some (kC.v)/\
 ∃sL,kC.a=some sL/\0<=(IntKind.i64.wrap (n1 - 1))/\(IntKind.i64.wrap (n1 - 1))<(kC.len:Int)/\
 ∃j0,gb.cell? ((sL.add ((IntKind.i64.wrap (n1 - 1)).toNat * 2)).add 0)=some (.bool j0)/\
 ∃de:SV,gb.cell? ((sL.add ((IntKind.i64.wrap (n1 - 1)).toNat * 2)).add 1)=some (de.v)/\
 Calls prog 102 #[.agg #[.bool j0,de.v]] gb λe fW=>
 ∃j1:Bool,∃bD:SV,e=.returned (.agg #[.bool j1,bD.v])/\
 alE (.cells #[.bool false,.slice none 0 0] 67) fW λkT fo=>
 stA prog 67 (⟨kT,0,none⟩:Addr) #[.bool j1,bD.v] fo λiN=>
 xJr R p0 n1 dJ (some (⟨co,0,none⟩:Addr)) (some (⟨kT,0,none⟩:Addr)) ds iN))))
theorem F67_p:Pl prog f67 [pS 0,iS 1,sS 2,aS 3 [.int .i64,.int .i64,.str]] F67_2:=λR=>
 pc 8 (rest [pS 0,iS 1,iS 9,pS 11,pS 13] (xJr R) lf)
theorem xQO (p0:Option Addr) (n1:Int) (s2:ByteArray) (iV gB:Int) (nl:ByteArray) (w:World) (R:Rt) (h:F67_2 R p0 n1 s2 iV gB nl [] w):Calls prog 67 #[.pointer p0,.int .i64 n1,.string s2,.agg #[.int .i64 iV,.int .i64 gB,.string nl]] w R:=
 plC F67_p func67 h
def F68_1(R:Rt)(p0:Option Addr)(ds:Ds)(w:World):Prop:=
 zQh p0 λa1=>
 ∃l6:SV,w.cell? (a1.add 4)=some (l6.v)/\
 Br (decide ((l6.len:Int) > 0)) (
 zQc prog ds w λw2=>
 R (.returned (.int .i64 9)) w2) (
 zQc prog ds w λw3=>
 R (.returned (.int .i64 0)) w3)
theorem F68_p:Pl prog f68 [pS 0] F68_1:=λR=>
 lf
theorem yYG (p0:Option Addr) (w:World) (R:Rt) (h:F68_1 R p0 [] w):Calls prog 68 #[.pointer p0] w R:=
 plC F68_p func68 h
end Go.Proofs.YtaeecpjhfmcliaaGreatDoor
/- Shallow texts of functions, printed by program, each checked by the kernel against the loaded code. No condition. -/
namespace Go.Proofs.YtaeecpjhfmcliaaGreatDoor
open Go.Sh Tryz
def F15_1(R:Rt)(p1:Option Addr)(n3:Int)(ds:Ds)(w:World):Prop:=
 Br (decide (n3 > 131072)) (
 zQc prog ds w λw1=>
 R (.returned (.bool true)) w1) (
 zQh p1 λa2=>
 ∃l53:SV,w.cell? (a2.add 5)=some (l53.v)/\
 Br (decide ((l53.len:Int) > 80)) (
 zQc prog ds w λw3=>
 R (.returned (.bool true)) w3) (
 zQh p1 λa4=>
 ∃l60:SV,w.cell? (a4.add 2)=some (l60.v)/\
 zQc prog ds w λw5=>
 R (.returned (.bool (decide ((l60.len:Int) > 60)))) w5))
def F15_2 (R:Rt) (J1:(Int × Int)->World->Prop) (p1:Option Addr) (n3 n5:Int) (ds:Ds) (w:World):Prop:=
 zQh p1 λa6=>
 ∃iz:SV,w.cell? (a6.add 5)=some (iz.v)/\
 Br (decide (n5<(iz.len:Int))) (
 zQh p1 λa7=>
 ∃kF:SV,w.cell? (a7.add 5)=some (kF.v)/\
 ∃a8,kF.a=some a8/\0<=n5/\n5<(kF.len:Int)/\
 ∃s46,w.cell? ((a8.add (n5.toNat * 6)).add 4)=some (.string s46)/\
 J1 ((IntKind.i64.wrap (n3+(s46.size:Int))),(IntKind.i64.wrap (n5+1))) w) (
 F15_1 R p1 n3 ds w)
def F15_3(R:Rt)(p1:Option Addr)(n3 n5:Int)(ds:Ds)(w:World):Prop:=
 zQF (λ(J1:(Int × Int)->World->Prop) (s:Int × Int) (w:World)=>F15_2 R J1 p1 s.1 s.2 ds w) (n3,n5) w
def F15_5(R:Rt)(p1:Option Addr)(n3:Int)(ds:Ds)(w:World):Prop:=
 F15_3 R p1 n3 0 ds w
def F15_6 (R:Rt) (J1:(Int × Int)->World->Prop) (p1:Option Addr) (n3 n4:Int) (ds:Ds) (w:World):Prop:=
 zQh p1 λa9=>
 ∃dg:SV,w.cell? (a9.add 3)=some (dg.v)/\
 Br (decide (n4<(dg.len:Int))) (
 zQh p1 λeu=>
 ∃dP:SV,w.cell? (eu.add 3)=some (dP.v)/\
 ∃dR,dP.a=some dR/\0<=n4/\n4<(dP.len:Int)/\
 ∃oW:SV,w.cell? ((dR.add (n4.toNat * 2)).add 1)=some (oW.v)/\
 Calls prog 58 #[oW.v] w λe aO=>
 ∃tP:Int,e=.returned (.int .i64 tP)/\
 J1 ((IntKind.i64.wrap (n3+tP)),(IntKind.i64.wrap (n4+1))) aO) (
 F15_5 R p1 n3 ds w)
def F15_7(R:Rt)(p1:Option Addr)(n3 n4:Int)(ds:Ds)(w:World):Prop:=
 zQF (λ(J1:(Int × Int)->World->Prop) (s:Int × Int) (w:World)=>F15_6 R J1 p1 s.1 s.2 ds w) (n3,n4) w
def F15_9(R:Rt)(aw:Int)(ah ai bu bv bw:SV)(ds:Ds)(w:World):Prop:=
 alE (.cells #[.int .i64 aw,ah.v,ai.v,bu.v,bv.v,bw.v] 41) w λr1 aI=>
 dwE aI λbt=>
 ∃S1:World->Prop,S1 bt/\
 ∃eD,(∀w',S1 w'->w'.cell? ((⟨r1,0,none⟩:Addr).add 0)=some (.int .i64 eD))/\
 ∃cB:SV,(∀w',S1 w'->w'.cell? ((⟨r1,0,none⟩:Addr).add 1)=some (cB.v))/\
 ∃bX:SV,(∀w',S1 w'->w'.cell? ((⟨r1,0,none⟩:Addr).add 2)=some (bX.v))/\
 ∃cL:SV,(∀w',S1 w'->w'.cell? ((⟨r1,0,none⟩:Addr).add 4)=some (cL.v))/\
 ∃aW:SV,(∀w',S1 w'->w'.cell? ((⟨r1,0,none⟩:Addr).add 3)=some (aW.v))/\
 Calls prog 57 #[.agg #[.int .i64 eD,cB.v,bX.v]] bt λe br=>
 ∃n8:Int,e=.returned (.int .i64 n8)/\
 S1 br/\
 Calls prog 58 #[cL.v] br λe bI=>
 ∃dC:Int,e=.returned (.int .i64 dC)/\
 S1 bI/\
 F15_7 R (some (⟨r1,0,none⟩:Addr)) (IntKind.i64.wrap ((IntKind.i64.wrap (n8+dC))+(aW.len:Int))) 0 ds bI
theorem F15_p:Pl prog f15 [aS 0 [.int .i64,.slice,.slice,.slice,.slice,.slice]] F15_9:=λR=>
 pc 3 (rest [pS 1,iS 3,iS 4] (F15_7 R) (bk 0 (rest [pS 1,iS 3] (F15_5 R) (pc 1 (rest [pS 1,iS 3,iS 5] (F15_3 R) (bk 2 (rest [pS 1,iS 3] (F15_1 R) lf) (lp [iS 3,iS 5] [pS 1,iS 3,iS 5] (F15_2 R) zXN λJ1=>lf))))) (lp [iS 3,iS 4] [pS 1,iS 3,iS 4] (F15_6 R) zXN λJ1=>lf)))
theorem xXX (aw:Int) (ah ai bu bv bw:SV) (w:World) (R:Rt) (h:F15_9 R aw ah ai bu bv bw [] w):Calls prog 15 #[.agg #[.int .i64 aw,ah.v,ai.v,bu.v,bv.v,bw.v]] w R:=
 plC F15_p func15 h
end Go.Proofs.YtaeecpjhfmcliaaGreatDoor
/- Shallow texts of functions, printed by program, each checked by the kernel against the loaded code. No condition. -/
namespace Go.Proofs.YtaeecpjhfmcliaaGreatDoor
open Go.Sh Tryz
def F62_1(R:Rt)(aw:Int)(ah ai bu bv bw:SV)(n1:Int)(ds:Ds)(w:World):Prop:=
 alE (.cells #[.int .i64 aw,ah.v,ai.v,bu.v,bv.v,bw.v] 41) w λr2 w1=>
 alE (.cells #[.bool false,.slice none 0 0] 67) w1 λr4 w2=>
 Br (decide (n1<0)) (
 stA prog 67 (⟨r4,0,none⟩:Addr) #[.bool false,.slice none 0 0] w2 λw3=>
 zQc prog ds w3 λw4=>
 ∃bN,w4.cell? ((⟨r4,0,none⟩:Addr).add 0)=some (.bool bN)/\
 ∃ab:SV,w4.cell? ((⟨r4,0,none⟩:Addr).add 1)=some (ab.v)/\
 R (.returned (.agg #[.bool bN,ab.v])) w4) (
 ∃cL:SV,w2.cell? ((⟨r2,0,none⟩:Addr).add 3)=some (cL.v)/\
 Br (decide (n1 >= (cL.len:Int))) (
 stA prog 67 (⟨r4,0,none⟩:Addr) #[.bool false,.slice none 0 0] w2 λw5=>
 zQc prog ds w5 λw6=>
 ∃bN,w6.cell? ((⟨r4,0,none⟩:Addr).add 0)=some (.bool bN)/\
 ∃ab:SV,w6.cell? ((⟨r4,0,none⟩:Addr).add 1)=some (ab.v)/\
 R (.returned (.agg #[.bool bN,ab.v])) w6) (
 ∃dT:SV,w2.cell? ((⟨r2,0,none⟩:Addr).add 3)=some (dT.v)/\
 ∃a7,dT.a=some a7/\0<=n1/\n1<(dT.len:Int)/\
 ∃wk,w2.cell? ((a7.add (n1.toNat * 2)).add 0)=some (.bool wk)/\
 ∃fD:SV,w2.cell? ((a7.add (n1.toNat * 2)).add 1)=some (fD.v)/\
 stA prog 67 (⟨r4,0,none⟩:Addr) #[.bool wk,fD.v] w2 λw8=>
 zQc prog ds w8 λw9=>
 ∃bN,w9.cell? ((⟨r4,0,none⟩:Addr).add 0)=some (.bool bN)/\
 ∃ab:SV,w9.cell? ((⟨r4,0,none⟩:Addr).add 1)=some (ab.v)/\
 R (.returned (.agg #[.bool bN,ab.v])) w9))
theorem F62_p:Pl prog f62 [aS 0 [.int .i64,.slice,.slice,.slice,.slice,.slice],iS 1] F62_1:=λR=>
 lf
theorem xQG (aw:Int) (ah ai bu bv bw:SV) (n1:Int) (w:World) (R:Rt) (h:F62_1 R aw ah ai bu bv bw n1 [] w):Calls prog 62 #[.agg #[.int .i64 aw,ah.v,ai.v,bu.v,bv.v,bw.v],.int .i64 n1] w R:=
 plC F62_p func62 h
def F66_1(R:Rt)(aw:Int)(ah ai bu bv bw:SV)(n1:Int)(ds:Ds)(w:World):Prop:=
 alE (.cells #[.int .i64 aw,ah.v,ai.v,bu.v,bv.v,bw.v] 41) w λr2 w1=>
 alE (.cells #[.int .i64 0,.int .i64 0,.string (⟨#[]⟩:ByteArray)] 73) w1 λr4 w2=>
 Br (decide (n1<0)) (
 stA prog 73 (⟨r4,0,none⟩:Addr) #[.int .i64 0,.int .i64 0,.string (⟨#[]⟩:ByteArray)] w2 λw3=>
 zQc prog ds w3 λw4=>
 ∃ag,w4.cell? ((⟨r4,0,none⟩:Addr).add 0)=some (.int .i64 ag)/\
 ∃aj,w4.cell? ((⟨r4,0,none⟩:Addr).add 1)=some (.int .i64 aj)/\
 ∃ak,w4.cell? ((⟨r4,0,none⟩:Addr).add 2)=some (.string ak)/\
 R (.returned (.agg #[.int .i64 ag,.int .i64 aj,.string ak])) w4) (
 ∃cL:SV,w2.cell? ((⟨r2,0,none⟩:Addr).add 4)=some (cL.v)/\
 Br (decide (n1 >= (cL.len:Int))) (
 stA prog 73 (⟨r4,0,none⟩:Addr) #[.int .i64 0,.int .i64 0,.string (⟨#[]⟩:ByteArray)] w2 λw5=>
 zQc prog ds w5 λw6=>
 ∃ag,w6.cell? ((⟨r4,0,none⟩:Addr).add 0)=some (.int .i64 ag)/\
 ∃aj,w6.cell? ((⟨r4,0,none⟩:Addr).add 1)=some (.int .i64 aj)/\
 ∃ak,w6.cell? ((⟨r4,0,none⟩:Addr).add 2)=some (.string ak)/\
 R (.returned (.agg #[.int .i64 ag,.int .i64 aj,.string ak])) w6) (
 ∃dT:SV,w2.cell? ((⟨r2,0,none⟩:Addr).add 4)=some (dT.v)/\
 ∃a7,dT.a=some a7/\0<=n1/\n1<(dT.len:Int)/\
 ∃dE,w2.cell? ((a7.add (n1.toNat * 3)).add 0)=some (.int .i64 dE)/\
 ∃bT,w2.cell? ((a7.add (n1.toNat * 3)).add 1)=some (.int .i64 bT)/\
 ∃jN,w2.cell? ((a7.add (n1.toNat * 3)).add 2)=some (.string jN)/\
 stA prog 73 (⟨r4,0,none⟩:Addr) #[.int .i64 dE,.int .i64 bT,.string jN] w2 λw8=>
 zQc prog ds w8 λw9=>
 ∃ag,w9.cell? ((⟨r4,0,none⟩:Addr).add 0)=some (.int .i64 ag)/\
 ∃aj,w9.cell? ((⟨r4,0,none⟩:Addr).add 1)=some (.int .i64 aj)/\
 ∃ak,w9.cell? ((⟨r4,0,none⟩:Addr).add 2)=some (.string ak)/\
 R (.returned (.agg #[.int .i64 ag,.int .i64 aj,.string ak])) w9))
theorem F66_p:Pl prog f66 [aS 0 [.int .i64,.slice,.slice,.slice,.slice,.slice],iS 1] F66_1:=λR=>
 lf
theorem yYQ (aw:Int) (ah ai bu bv bw:SV) (n1:Int) (w:World) (R:Rt) (h:F66_1 R aw ah ai bu bv bw n1 [] w):Calls prog 66 #[.agg #[.int .i64 aw,ah.v,ai.v,bu.v,bv.v,bw.v],.int .i64 n1] w R:=
 plC F66_p func66 h
end Go.Proofs.YtaeecpjhfmcliaaGreatDoor
/- Shallow texts of functions, printed by program, each checked by the kernel against the loaded code. No condition. -/
namespace Go.Proofs.YtaeecpjhfmcliaaGreatDoor
open Go.Sh Tryz
def F44_1(R:Rt)(p2 p3:Option Addr)(ds:Ds)(w:World):Prop:=
 zQh p3 λa1=>
 ∃eM,w.cell? (a1.add 0)=some (.int .i64 eM)/\
 ∃bB:SV,w.cell? (a1.add 1)=some (bB.v)/\
 ∃cR:SV,w.cell? (a1.add 2)=some (cR.v)/\
 zQh p2 λa2=>
 stA prog 35 a2 #[.int .i64 eM,bB.v,cR.v] w λw3=>
 zQc prog ds w3 λw4=>
 zQh p2 λa5=>
 ∃ag,w4.cell? (a5.add 0)=some (.int .i64 ag)/\
 ∃ab:SV,w4.cell? (a5.add 1)=some (ab.v)/\
 ∃ae:SV,w4.cell? (a5.add 2)=some (ae.v)/\
 R (.returned (.agg #[.int .i64 ag,ab.v,ae.v])) w4
def F44_2 (R:Rt) (J1:(Int)->World->Prop) (l0:SV) (p2 p3:Option Addr) (n4:Int) (ds:Ds) (w:World):Prop:=
 Br (decide (n4<(l0.len:Int))) (
 dwE w λw6=>
 ∃S1:World->Prop,S1 w6/\
 zQh p3 λa7=>
 ∃fe:SV,(∀w',S1 w'->w'.cell? (a7.add 2)=some (fe.v))/\
 ∃a8,l0.a=some a8/\0<=n4/\n4<(l0.len:Int)/\
 ∃ja,(∀w',S1 w'->w'.cell? (a8.add (n4.toNat * 1))=some (.int .i64 ja))/\
 Calls prog 45 #[.int .i64 ja] w6 λe w9=>
 ∃gt:Int,∃dW:Int,∃gu:ByteArray,e=.returned (.agg #[.int .i64 gt,.int .i64 dW,.string gu])/\
 S1 w9/\
 alE (.cells #[.int .i64 gt,.int .i64 dW,.string gu] 73) w9 λr21 aN=>
 S1 aN/\
 alE (.cells #[.bool false,.slice (some ⟨r21,0,none⟩) 1 1] 67) aN λr23 aV=>
 S1 aV/\
 ∃bY:SV,∃aO,(Builtin.append_ #[33,33] 33 #[fe.v,.slice (some ⟨r23,0,none⟩) 1 1]).run prog aV=.ok (bY.v) aO/\
 zQh p3 λlq=>
 st1 (lq.add 2) (bY.v) aO λbt=>
 J1 (IntKind.i64.wrap (n4+1)) bt) (
 F44_1 R p2 p3 ds w)
def F44_3(R:Rt)(l0:SV)(p2 p3:Option Addr)(n4:Int)(ds:Ds)(w:World):Prop:=
 zQF (λ(J1:(Int)->World->Prop) (s:Int) (w:World)=>F44_2 R J1 l0 p2 p3 s ds w) n4 w
def F44_5(R:Rt)(l0:SV)(ds:Ds)(w:World):Prop:=
 alE (.cells #[.int .i64 0,.slice none 0 0,.slice none 0 0] 35) w λr2 br=>
 alE (.cells #[.string (⟨#[78]⟩:ByteArray),.int .i64 2,.int .i64 3,.bool false] 129) br λr6 bI=>
 alE (.cells #[.int .i64 0,.slice none 0 0,.slice none 0 0] 35) bI λr3 bJ=>
 stA prog 35 (⟨r3,0,none⟩:Addr) #[.int .i64 0,.slice (some ⟨r6,0,none⟩) 1 1,.slice none 0 0] bJ λbR=>
 F44_3 R l0 (some (⟨r2,0,none⟩:Addr)) (some (⟨r3,0,none⟩:Addr)) 0 ds bR
theorem F44_p:Pl prog f44 [lS 0] F44_5:=λR=>
 pc 3 (rest [lS 0,pS 2,pS 3,iS 4] (F44_3 R) (bk 0 (rest [pS 2,pS 3] (F44_1 R) lf) (lp [iS 4] [lS 0,pS 2,pS 3,iS 4] (F44_2 R) zXN λJ1=>lf)))
theorem xXk (l0:SV) (w:World) (R:Rt) (h:F44_5 R l0 [] w):Calls prog 44 #[l0.v] w R:=
 plC F44_p func44 h
def yZL(R:Rt)(p1:Option Addr)(b44:Bool)(ds:Ds)(w:World):Prop:=
 Br b44 (
 zQc prog ds w λw1=>
 R (.returned (.bool false)) w1) (
 Calls prog 27 #[.pointer p1,.int .i64 1] w λe w2=>
 ∃e7:Int,∃ik:SV,∃il:SV,∃cF:Int,e=.returned (.tuple #[.agg #[.int .i64 e7,ik.v,il.v],.int .i64 cF])/\
 alE (.cells #[.int .i64 0,.slice none 0 0,.slice none 0 0] 35) w2 λr3 w3=>
 stA prog 35 (⟨r3,0,none⟩:Addr) #[.int .i64 e7,ik.v,il.v] w3 λw4=>
 dwE w4 λw5=>
 ∃S1:World->Prop,S1 w5/\
 Br (cF == 0) (
 Calls prog 22 #[.pointer p1] w5 λe w6=>
 ∃n54:Int,e=.returned (.int .i64 n54)/\
 S1 w6/\
 Br (n54 == 1) (
 ∃wm,(∀w',S1 w'->w'.cell? ((⟨r3,0,none⟩:Addr).add 0)=some (.int .i64 wm))/\
 ∃mh:SV,(∀w',S1 w'->w'.cell? ((⟨r3,0,none⟩:Addr).add 1)=some (mh.v))/\
 ∃mi:SV,(∀w',S1 w'->w'.cell? ((⟨r3,0,none⟩:Addr).add 2)=some (mi.v))/\
 alE (.cells #[.int .i64 5,.int .i64 2] 3) w6 λr59 w7=>
 S1 w7/\
 Calls prog 44 #[.slice (some ⟨r59,0,none⟩) 2 2] w7 λe w8=>
 ∃wo:Int,∃mj:SV,∃ml:SV,e=.returned (.agg #[.int .i64 wo,mj.v,ml.v])/\
 S1 w8/\
 Calls prog 18 #[.agg #[.int .i64 wm,mh.v,mi.v],.agg #[.int .i64 wo,mj.v,ml.v]] w8 λe w9=>
 ∃y8:Bool,e=.returned (.bool y8)/\
 S1 w9/\
 Br y8 (
 ∃oG,(∀w',S1 w'->w'.cell? ((⟨r3,0,none⟩:Addr).add 0)=some (.int .i64 oG))/\
 ∃mm:SV,(∀w',S1 w'->w'.cell? ((⟨r3,0,none⟩:Addr).add 1)=some (mm.v))/\
 ∃mn:SV,(∀w',S1 w'->w'.cell? ((⟨r3,0,none⟩:Addr).add 2)=some (mn.v))/\
 Calls prog 14 #[.pointer p1] w9 λe aN=>
 ∃wq:Int,∃mo:SV,∃mp:SV,e=.returned (.agg #[.int .i64 wq,mo.v,mp.v])/\
 S1 aN/\
 Calls prog 18 #[.agg #[.int .i64 wq,mo.v,mp.v],.agg #[.int .i64 oG,mm.v,mn.v]] aN λe aV=>
 ∃uf:Bool,e=.returned (.bool uf)/\
 zQc prog ds aV λaO=>
 R (.returned (.bool uf)) aO) (
 zQc prog ds w9 λaI=>
 R (.returned (.bool false)) aI)) (
 zQc prog ds w6 λbt=>
 R (.returned (.bool false)) bt)) (
 zQc prog ds w5 λbr=>
 R (.returned (.bool false)) br))
def F10_2(R:Rt)(p1:Option Addr)(n2:Int)(ds:Ds)(w:World):Prop:=
 Br (n2 != 0) (
 yZL R p1 true ds w) (
 Calls prog 35 #[.pointer p1] w λe bI=>
 ∃kv:Int,e=.returned (.int .i64 kv)/\
 Br (kv != 0) (
 yZL R p1 true ds bI) (
 Calls prog 45 #[.int .i64 5] bI λe bJ=>
 ∃gt:Int,∃dW:Int,∃gu:ByteArray,e=.returned (.agg #[.int .i64 gt,.int .i64 dW,.string gu])/\
 Calls prog 40 #[.pointer p1,.int .i64 1,.string (⟨#[78]⟩:ByteArray),.agg #[.int .i64 gt,.int .i64 dW,.string gu]] bJ λe bR=>
 ∃kP:Int,e=.returned (.int .i64 kP)/\
 Br (kP != 0) (
 yZL R p1 true ds bR) (
 Calls prog 35 #[.pointer p1] bR λe cK=>
 ∃ct:Int,e=.returned (.int .i64 ct)/\
 Br (ct != 0) (
 yZL R p1 true ds cK) (
 Calls prog 45 #[.int .i64 6] cK λe cj=>
 ∃bM:Int,∃gE:Int,∃nW:ByteArray,e=.returned (.agg #[.int .i64 bM,.int .i64 gE,.string nW])/\
 Calls prog 40 #[.pointer p1,.int .i64 2,.string (⟨#[78]⟩:ByteArray),.agg #[.int .i64 bM,.int .i64 gE,.string nW]] cj λe cr=>
 ∃nD:Int,e=.returned (.int .i64 nD)/\
 Br (nD != 0) (
 yZL R p1 true ds cr) (
 Calls prog 37 #[.pointer p1] cr λe dX=>
 ∃iw:Int,e=.returned (.int .i64 iw)/\
 Br (iw != 0) (
 yZL R p1 true ds dX) (
 Calls prog 36 #[.pointer p1] dX λe dQ=>
 ∃m8:Int,e=.returned (.int .i64 m8)/\
 yZL R p1 (m8 != 0) ds dQ))))))
def F10_3(R:Rt)(ds:Ds)(w:World):Prop:=
 alE (.cells #[.int .i64 1,.int .i64 2] 3) w λr6 dx=>
 Calls prog 44 #[.slice (some ⟨r6,0,none⟩) 2 2] dx λe gj=>
 ∃eD:Int,∃cB:SV,∃bX:SV,e=.returned (.agg #[.int .i64 eD,cB.v,bX.v])/\
 Calls prog 43 #[.agg #[.int .i64 eD,cB.v,bX.v]] gj λe fm=>
 ∃p8_0:Option Addr,∃lj:Int,e=.returned (.tuple #[.pointer p8_0,.int .i64 lj])/\
 F10_2 R p8_0 lj ds fm
theorem F10_p:Pl prog f10 [] F10_3:=λR=>
 pc 2 (rest [pS 1,iS 2] (F10_2 R) (pc 1 (rest [pS 1,bS 44] (yZL R) lf)))
theorem xXJ  (w:World) (R:Rt) (h:F10_3 R [] w):Calls prog 10 #[] w R:=
 plC F10_p func10 h
end Go.Proofs.YtaeecpjhfmcliaaGreatDoor
/- Shallow texts of functions, printed by program, each checked by the kernel against the loaded code. No condition. -/
namespace Go.Proofs.YtaeecpjhfmcliaaGreatDoor
open Go.Sh Tryz
def F17_1(R:Rt)(p0 p1:Option Addr)(dm:Int)(bL oI oJ oK oL:SV)(iV gB o7 tn:Int)(tp tq:ByteArray)(ds:Ds)(w:World):Prop:=
 alE (.cells #[.int .i64 dm,bL.v,oI.v,oJ.v,oK.v,oL.v] 41) w λr6 w1=>
 alE (.cells #[.int .i64 iV,.int .i64 gB,.int .i64 o7,.int .i64 tn,.string tp,.string tq] 48) w1 λr7 w2=>
 ∃ng,w2.cell? (⟨r7,0,none⟩:Addr)=some (.int .i64 ng)/\
 Br (ng == 0) (
 Calls prog 35 #[.pointer p0] w2 λe w3=>
 ∃iI:Int,e=.returned (.int .i64 iI)/\
 Calls prog 59 #[.pointer p1] w3 λe w4=>
 ∃kj:Int,e=.returned (.int .i64 kj)/\
 zQc prog ds w4 λw5=>
 R (.returned (.bool (iI == kj))) w5) (
 Br (ng == 1) (
 Calls prog 36 #[.pointer p0] w2 λe w6=>
 ∃cn:Int,e=.returned (.int .i64 cn)/\
 Calls prog 60 #[.pointer p1] w6 λe w7=>
 ∃gn:Int,e=.returned (.int .i64 gn)/\
 zQc prog ds w7 λw8=>
 R (.returned (.bool (cn == gn))) w8) (
 Br (ng == 2) (
 Calls prog 37 #[.pointer p0] w2 λe w9=>
 ∃nD:Int,e=.returned (.int .i64 nD)/\
 Calls prog 61 #[.pointer p1] w9 λe aN=>
 ∃rK:Int,e=.returned (.int .i64 rK)/\
 zQc prog ds aN λaV=>
 R (.returned (.bool (nD == rK))) aV) (
 Br (ng == 3) (
 ∃ws,w2.cell? ((⟨r6,0,none⟩:Addr).add 0)=some (.int .i64 ws)/\
 ∃mq:SV,w2.cell? ((⟨r6,0,none⟩:Addr).add 1)=some (mq.v)/\
 ∃mr:SV,w2.cell? ((⟨r6,0,none⟩:Addr).add 2)=some (mr.v)/\
 ∃ms:SV,w2.cell? ((⟨r6,0,none⟩:Addr).add 3)=some (ms.v)/\
 ∃mt:SV,w2.cell? ((⟨r6,0,none⟩:Addr).add 4)=some (mt.v)/\
 ∃mv:SV,w2.cell? ((⟨r6,0,none⟩:Addr).add 5)=some (mv.v)/\
 ∃m8,w2.cell? ((⟨r7,0,none⟩:Addr).add 2)=some (.int .i64 m8)/\
 Calls prog 62 #[.agg #[.int .i64 ws,mq.v,mr.v,ms.v,mt.v,mv.v],.int .i64 m8] w2 λe aO=>
 ∃wt:Bool,∃mw:SV,e=.returned (.agg #[.bool wt,mw.v])/\
 Calls prog 34 #[.pointer p0,.agg #[.bool wt,mw.v]] aO λe aI=>
 ∃wu:Int,∃nQ:Int,e=.returned (.tuple #[.int .i64 wu,.int .i64 nQ])/\
 ∃gy,aI.cell? ((⟨r6,0,none⟩:Addr).add 0)=some (.int .i64 gy)/\
 ∃mx:SV,aI.cell? ((⟨r6,0,none⟩:Addr).add 1)=some (mx.v)/\
 ∃my:SV,aI.cell? ((⟨r6,0,none⟩:Addr).add 2)=some (my.v)/\
 ∃mz:SV,aI.cell? ((⟨r6,0,none⟩:Addr).add 3)=some (mz.v)/\
 ∃mA:SV,aI.cell? ((⟨r6,0,none⟩:Addr).add 4)=some (mA.v)/\
 ∃mB:SV,aI.cell? ((⟨r6,0,none⟩:Addr).add 5)=some (mB.v)/\
 ∃o1,aI.cell? ((⟨r7,0,none⟩:Addr).add 2)=some (.int .i64 o1)/\
 Calls prog 62 #[.agg #[.int .i64 gy,mx.v,my.v,mz.v,mA.v,mB.v],.int .i64 o1] aI λe bt=>
 ∃wA:Bool,∃mC:SV,e=.returned (.agg #[.bool wA,mC.v])/\
 Calls prog 63 #[.pointer p1,.agg #[.bool wA,mC.v]] bt λe br=>
 ∃eO:Int,∃eQ:Int,e=.returned (.tuple #[.int .i64 eO,.int .i64 eQ])/\
 Br (wu == eO) (
 zQc prog ds br λbI=>
 R (.returned (.bool (nQ == eQ))) bI) (
 zQc prog ds br λbJ=>
 R (.returned (.bool false)) bJ)) (
 Br (ng == 4) (
 dwE w2 λbR=>
 ∃S1:World->Prop,S1 bR/\
 ∃yM,(∀w',S1 w'->w'.cell? ((⟨r7,0,none⟩:Addr).add 1)=some (.int .i64 yM))/\
 ∃wB,(∀w',S1 w'->w'.cell? ((⟨r6,0,none⟩:Addr).add 0)=some (.int .i64 wB))/\
 ∃mD:SV,(∀w',S1 w'->w'.cell? ((⟨r6,0,none⟩:Addr).add 1)=some (mD.v))/\
 ∃mE:SV,(∀w',S1 w'->w'.cell? ((⟨r6,0,none⟩:Addr).add 2)=some (mE.v))/\
 ∃mF:SV,(∀w',S1 w'->w'.cell? ((⟨r6,0,none⟩:Addr).add 3)=some (mF.v))/\
 ∃mG:SV,(∀w',S1 w'->w'.cell? ((⟨r6,0,none⟩:Addr).add 4)=some (mG.v))/\
 ∃mH:SV,(∀w',S1 w'->w'.cell? ((⟨r6,0,none⟩:Addr).add 5)=some (mH.v))/\
 ∃th,(∀w',S1 w'->w'.cell? ((⟨r7,0,none⟩:Addr).add 2)=some (.int .i64 th))/\
 ∃n76,(∀w',S1 w'->w'.cell? ((⟨r7,0,none⟩:Addr).add 1)=some (.int .i64 n76))/\
 ∃wC,(∀w',S1 w'->w'.cell? ((⟨r6,0,none⟩:Addr).add 0)=some (.int .i64 wC))/\
 ∃mI:SV,(∀w',S1 w'->w'.cell? ((⟨r6,0,none⟩:Addr).add 1)=some (mI.v))/\
 ∃mJ:SV,(∀w',S1 w'->w'.cell? ((⟨r6,0,none⟩:Addr).add 2)=some (mJ.v))/\
 ∃mK:SV,(∀w',S1 w'->w'.cell? ((⟨r6,0,none⟩:Addr).add 3)=some (mK.v))/\
 ∃mL:SV,(∀w',S1 w'->w'.cell? ((⟨r6,0,none⟩:Addr).add 4)=some (mL.v))/\
 ∃mM:SV,(∀w',S1 w'->w'.cell? ((⟨r6,0,none⟩:Addr).add 5)=some (mM.v))/\
 ∃n79,(∀w',S1 w'->w'.cell? ((⟨r7,0,none⟩:Addr).add 2)=some (.int .i64 n79))/\
 Calls prog 62 #[.agg #[.int .i64 wB,mD.v,mE.v,mF.v,mG.v,mH.v],.int .i64 th] bR λe cK=>
 ∃wD:Bool,∃mN:SV,e=.returned (.agg #[.bool wD,mN.v])/\
 S1 cK/\
 Calls prog 38 #[.pointer p0,.int .i64 yM,.agg #[.bool wD,mN.v]] cK λe cj=>
 ∃n73:Int,e=.returned (.int .i64 n73)/\
 S1 cj/\
 Calls prog 62 #[.agg #[.int .i64 wC,mI.v,mJ.v,mK.v,mL.v,mM.v],.int .i64 n79] cj λe cr=>
 ∃wE:Bool,∃mO:SV,e=.returned (.agg #[.bool wE,mO.v])/\
 S1 cr/\
 Calls prog 64 #[.pointer p1,.int .i64 n76,.agg #[.bool wE,mO.v]] cr λe dX=>
 ∃n81:Int,e=.returned (.int .i64 n81)/\
 zQc prog ds dX λdQ=>
 R (.returned (.bool (n73 == n81))) dQ) (
 Br (ng == 5) (
 dwE w2 λdx=>
 ∃S2:World->Prop,S2 dx/\
 ∃n87,(∀w',S2 w'->w'.cell? ((⟨r7,0,none⟩:Addr).add 1)=some (.int .i64 n87))/\
 ∃yd,(∀w',S2 w'->w'.cell? ((⟨r7,0,none⟩:Addr).add 3)=some (.int .i64 yd))/\
 ∃n94,(∀w',S2 w'->w'.cell? ((⟨r7,0,none⟩:Addr).add 1)=some (.int .i64 n94))/\
 ∃n96,(∀w',S2 w'->w'.cell? ((⟨r7,0,none⟩:Addr).add 3)=some (.int .i64 n96))/\
 Calls prog 39 #[.pointer p0,.int .i64 n87,.bool (yd != 0)] dx λe gj=>
 ∃n91:Int,e=.returned (.int .i64 n91)/\
 S2 gj/\
 Calls prog 65 #[.pointer p1,.int .i64 n94,.bool (n96 != 0)] gj λe fm=>
 ∃n98:Int,e=.returned (.int .i64 n98)/\
 zQc prog ds fm λgS=>
 R (.returned (.bool (n91 == n98))) gS) (
 Br (ng == 6) (
 dwE w2 λcy=>
 ∃S3:World->Prop,S3 cy/\
 ∃n104,(∀w',S3 w'->w'.cell? ((⟨r7,0,none⟩:Addr).add 1)=some (.int .i64 n104))/\
 ∃s106,(∀w',S3 w'->w'.cell? ((⟨r7,0,none⟩:Addr).add 4)=some (.string s106))/\
 ∃rU,(∀w',S3 w'->w'.cell? ((⟨r6,0,none⟩:Addr).add 0)=some (.int .i64 rU))/\
 ∃jf:SV,(∀w',S3 w'->w'.cell? ((⟨r6,0,none⟩:Addr).add 1)=some (jf.v))/\
 ∃jg:SV,(∀w',S3 w'->w'.cell? ((⟨r6,0,none⟩:Addr).add 2)=some (jg.v))/\
 ∃jh:SV,(∀w',S3 w'->w'.cell? ((⟨r6,0,none⟩:Addr).add 3)=some (jh.v))/\
 ∃ji:SV,(∀w',S3 w'->w'.cell? ((⟨r6,0,none⟩:Addr).add 4)=some (ji.v))/\
 ∃jj:SV,(∀w',S3 w'->w'.cell? ((⟨r6,0,none⟩:Addr).add 5)=some (jj.v))/\
 ∃n109,(∀w',S3 w'->w'.cell? ((⟨r7,0,none⟩:Addr).add 2)=some (.int .i64 n109))/\
 ∃n114,(∀w',S3 w'->w'.cell? ((⟨r7,0,none⟩:Addr).add 1)=some (.int .i64 n114))/\
 ∃s116,(∀w',S3 w'->w'.cell? ((⟨r7,0,none⟩:Addr).add 4)=some (.string s116))/\
 ∃rV,(∀w',S3 w'->w'.cell? ((⟨r6,0,none⟩:Addr).add 0)=some (.int .i64 rV))/\
 ∃bo:SV,(∀w',S3 w'->w'.cell? ((⟨r6,0,none⟩:Addr).add 1)=some (bo.v))/\
 ∃jk:SV,(∀w',S3 w'->w'.cell? ((⟨r6,0,none⟩:Addr).add 2)=some (jk.v))/\
 ∃jl:SV,(∀w',S3 w'->w'.cell? ((⟨r6,0,none⟩:Addr).add 3)=some (jl.v))/\
 ∃jm:SV,(∀w',S3 w'->w'.cell? ((⟨r6,0,none⟩:Addr).add 4)=some (jm.v))/\
 ∃jn:SV,(∀w',S3 w'->w'.cell? ((⟨r6,0,none⟩:Addr).add 5)=some (jn.v))/\
 ∃n119,(∀w',S3 w'->w'.cell? ((⟨r7,0,none⟩:Addr).add 2)=some (.int .i64 n119))/\
 Calls prog 66 #[.agg #[.int .i64 rU,jf.v,jg.v,jh.v,ji.v,jj.v],.int .i64 n109] cy λe gb=>
 ∃rW:Int,∃rX:Int,∃rY:ByteArray,e=.returned (.agg #[.int .i64 rW,.int .i64 rX,.string rY])/\
 S3 gb/\
 Calls prog 40 #[.pointer p0,.int .i64 n104,.string s106,.agg #[.int .i64 rW,.int .i64 rX,.string rY]] gb λe gT=>
 ∃n111:Int,e=.returned (.int .i64 n111)/\
 S3 gT/\
 Calls prog 66 #[.agg #[.int .i64 rV,bo.v,jk.v,jl.v,jm.v,jn.v],.int .i64 n119] gT λe fX=>
 ∃rZ:Int,∃sa:Int,∃sb:ByteArray,e=.returned (.agg #[.int .i64 rZ,.int .i64 sa,.string sb])/\
 S3 fX/\
 Calls prog 67 #[.pointer p1,.int .i64 n114,.string s116,.agg #[.int .i64 rZ,.int .i64 sa,.string sb]] fX λe gz=>
 ∃n121:Int,e=.returned (.int .i64 n121)/\
 zQc prog ds gz λfW=>
 R (.returned (.bool (n111 == n121))) fW) (
 Calls prog 41 #[.pointer p0] w2 λe fo=>
 ∃n124:Int,e=.returned (.int .i64 n124)/\
 Calls prog 68 #[.pointer p1] fo λe iN=>
 ∃n126:Int,e=.returned (.int .i64 n126)/\
 zQc prog ds iN λqU=>
 R (.returned (.bool (n124 == n126))) qU)))))))
theorem F17_p:Pl prog f17 [pS 0,pS 1,aS 2 [.int .i64,.slice,.slice,.slice,.slice,.slice],aS 3 [.int .i64,.int .i64,.int .i64,.int .i64,.str,.str]] F17_1:=λR=>
 lf
theorem yY0 (p0 p1:Option Addr) (dm:Int) (bL oI oJ oK oL:SV) (iV gB o7 tn:Int) (tp tq:ByteArray) (w:World) (R:Rt) (h:F17_1 R p0 p1 dm bL oI oJ oK oL iV gB o7 tn tp tq [] w):Calls prog 17 #[.pointer p0,.pointer p1,.agg #[.int .i64 dm,bL.v,oI.v,oJ.v,oK.v,oL.v],.agg #[.int .i64 iV,.int .i64 gB,.int .i64 o7,.int .i64 tn,.string tp,.string tq]] w R:=
 plC F17_p func17 h
def F16_1(R:Rt)(aw:Int)(ah ai bu bv bw:SV)(ds:Ds)(w:World):Prop:=
 alE (.cells #[.int .i64 aw,ah.v,ai.v,bu.v,bv.v,bw.v] 41) w λr1 w1=>
 ∃jZ,w1.cell? ((⟨r1,0,none⟩:Addr).add 0)=some (.int .i64 jZ)/\
 ∃dc:SV,w1.cell? ((⟨r1,0,none⟩:Addr).add 1)=some (dc.v)/\
 ∃dd:SV,w1.cell? ((⟨r1,0,none⟩:Addr).add 2)=some (dd.v)/\
 Calls prog 43 #[.agg #[.int .i64 jZ,dc.v,dd.v]] w1 λe w2=>
 ∃sd:Option Addr,∃d7:Int,e=.returned (.tuple #[.pointer sd,.int .i64 d7])/\
 ∃gx,w2.cell? ((⟨r1,0,none⟩:Addr).add 0)=some (.int .i64 gx)/\
 ∃cY:SV,w2.cell? ((⟨r1,0,none⟩:Addr).add 1)=some (cY.v)/\
 ∃cZ:SV,w2.cell? ((⟨r1,0,none⟩:Addr).add 2)=some (cZ.v)/\
 Calls prog 42 #[.agg #[.int .i64 gx,cY.v,cZ.v]] w2 λe w3=>
 ∃wF:Option Addr,∃gf:Int,e=.returned (.tuple #[.pointer wF,.int .i64 gf])/\
 Br (d7 != gf) (
 zQc prog ds w3 λw4=>
 R (.returned (.tuple #[.pointer none,.pointer none,.bool false])) w4) (
 ∃o6:Bool,∃w5,(eqS .eql 24 (.tmp 25) (.const (.pointer none)) (.pointer sd) (.pointer none)).run prog w3=.ok (.bool o6) w5/\
 Br (!(o6 == (d7 != 0))) (
 zQc prog ds w5 λw6=>
 R (.returned (.tuple #[.pointer none,.pointer none,.bool false])) w6) (
 zQc prog ds w5 λw7=>
 R (.returned (.tuple #[.pointer sd,.pointer wF,.bool true])) w7))
theorem F16_p:Pl prog f16 [aS 0 [.int .i64,.slice,.slice,.slice,.slice,.slice]] F16_1:=λR=>
 lf
theorem yYw (aw:Int) (ah ai bu bv bw:SV) (w:World) (R:Rt) (h:F16_1 R aw ah ai bu bv bw [] w):Calls prog 16 #[.agg #[.int .i64 aw,ah.v,ai.v,bu.v,bv.v,bw.v]] w R:=
 plC F16_p func16 h
def F31_1(R:Rt)(p4:Option Addr)(ds:Ds)(w:World):Prop:=
 zQc prog ds w λw1=>
 R (.returned (.tuple #[.pointer p4,.bool true])) w1
def F31_2 (R:Rt) (J1:(Int)->World->Prop) (p1 p4 p5:Option Addr) (n7:Int) (ds:Ds) (w:World):Prop:=
 zQh p1 λa2=>
 ∃gl:SV,w.cell? (a2.add 5)=some (gl.v)/\
 Br (decide (n7<(gl.len:Int))) (
 dwE w λw3=>
 zQh p1 λa4=>
 ∃dI,w3.cell? (a4.add 0)=some (.int .i64 dI)/\
 ∃bi:SV,w3.cell? (a4.add 1)=some (bi.v)/\
 ∃bj:SV,w3.cell? (a4.add 2)=some (bj.v)/\
 ∃mP:SV,w3.cell? (a4.add 3)=some (mP.v)/\
 ∃mQ:SV,w3.cell? (a4.add 4)=some (mQ.v)/\
 ∃mR:SV,w3.cell? (a4.add 5)=some (mR.v)/\
 zQh p1 λa5=>
 ∃im:SV,w3.cell? (a5.add 5)=some (im.v)/\
 ∃a6,im.a=some a6/\0<=n7/\n7<(im.len:Int)/\
 ∃oy,w3.cell? ((a6.add (n7.toNat * 6)).add 0)=some (.int .i64 oy)/\
 ∃ov,w3.cell? ((a6.add (n7.toNat * 6)).add 1)=some (.int .i64 ov)/\
 ∃wG,w3.cell? ((a6.add (n7.toNat * 6)).add 2)=some (.int .i64 wG)/\
 ∃wH,w3.cell? ((a6.add (n7.toNat * 6)).add 3)=some (.int .i64 wH)/\
 ∃wI,w3.cell? ((a6.add (n7.toNat * 6)).add 4)=some (.string wI)/\
 ∃wJ,w3.cell? ((a6.add (n7.toNat * 6)).add 5)=some (.string wJ)/\
 Calls prog 17 #[.pointer p4,.pointer p5,.agg #[.int .i64 dI,bi.v,bj.v,mP.v,mQ.v,mR.v],.agg #[.int .i64 oy,.int .i64 ov,.int .i64 wG,.int .i64 wH,.string wI,.string wJ]] w3 λe w7=>
 ∃b36:Bool,e=.returned (.bool b36)/\
 Br (!b36) (
 zQc prog ds w7 λw8=>
 R (.returned (.tuple #[.pointer none,.bool false])) w8) (
 J1 (IntKind.i64.wrap (n7+1)) w7)) (
 F31_1 R p4 ds w)
def F31_3(R:Rt)(p1 p4 p5:Option Addr)(n7:Int)(ds:Ds)(w:World):Prop:=
 zQF (λ(J1:(Int)->World->Prop) (s:Int) (w:World)=>F31_2 R J1 p1 p4 p5 s ds w) n7 w
def F31_5(R:Rt)(aw:Int)(ah ai bu bv bw:SV)(ds:Ds)(w:World):Prop:=
 alE (.cells #[.int .i64 aw,ah.v,ai.v,bu.v,bv.v,bw.v] 41) w λr1 w9=>
 ∃ip,w9.cell? ((⟨r1,0,none⟩:Addr).add 0)=some (.int .i64 ip)/\
 ∃qB:SV,w9.cell? ((⟨r1,0,none⟩:Addr).add 1)=some (qB.v)/\
 ∃je:SV,w9.cell? ((⟨r1,0,none⟩:Addr).add 2)=some (je.v)/\
 ∃qC:SV,w9.cell? ((⟨r1,0,none⟩:Addr).add 3)=some (qC.v)/\
 ∃qD:SV,w9.cell? ((⟨r1,0,none⟩:Addr).add 4)=some (qD.v)/\
 ∃qE:SV,w9.cell? ((⟨r1,0,none⟩:Addr).add 5)=some (qE.v)/\
 Calls prog 16 #[.agg #[.int .i64 ip,qB.v,je.v,qC.v,qD.v,qE.v]] w9 λe aN=>
 ∃se:Option Addr,∃wK:Option Addr,∃qb:Bool,e=.returned (.tuple #[.pointer se,.pointer wK,.bool qb])/\
 Br (!qb) (
 zQc prog ds aN λaV=>
 R (.returned (.tuple #[.pointer none,.bool qb])) aV) (
 ∃pi:Bool,∃aO,(eqS .eql 24 (.tmp 17) (.const (.pointer none)) (.pointer se) (.pointer none)).run prog aN=.ok (.bool pi) aO/\
 Br pi (
 zQc prog ds aO λaI=>
 R (.returned (.tuple #[.pointer none,.bool qb])) aI) (
 F31_3 R (some (⟨r1,0,none⟩:Addr)) se wK 0 ds aO))
theorem F31_p:Pl prog f31 [aS 0 [.int .i64,.slice,.slice,.slice,.slice,.slice]] F31_5:=λR=>
 pc 5 (rest [pS 1,pS 4,pS 5,iS 7] (F31_3 R) (bk 0 (rest [pS 4] (F31_1 R) lf) (lp [iS 7] [pS 1,pS 4,pS 5,iS 7] (F31_2 R) zXN λJ1=>lf)))
theorem xQi (aw:Int) (ah ai bu bv bw:SV) (w:World) (R:Rt) (h:F31_5 R aw ah ai bu bv bw [] w):Calls prog 31 #[.agg #[.int .i64 aw,ah.v,ai.v,bu.v,bv.v,bw.v]] w R:=
 plC F31_p func31 h
end Go.Proofs.YtaeecpjhfmcliaaGreatDoor
/- Shallow texts of functions, printed by program, each checked by the kernel against the loaded code. No condition. -/
namespace Go.Proofs.YtaeecpjhfmcliaaGreatDoor
open Go.Sh Tryz
end Go.Proofs.YtaeecpjhfmcliaaGreatDoor
/- Shallow texts of functions, printed by program, each checked by the kernel against the loaded code. No condition. -/
namespace Go.Proofs.YtaeecpjhfmcliaaGreatDoor
open Go.Sh Tryz
end Go.Proofs.YtaeecpjhfmcliaaGreatDoor
/- Shallow texts of functions, printed by program, each checked by the kernel against the loaded code. No condition. -/
namespace Go.Proofs.YtaeecpjhfmcliaaGreatDoor
open Go.Sh Tryz
end Go.Proofs.YtaeecpjhfmcliaaGreatDoor
/- Shallow texts of functions, printed by program, each checked by the kernel against the loaded code. No condition. -/
namespace Go.Proofs.YtaeecpjhfmcliaaGreatDoor
open Go.Sh Tryz
def F7_1(R:Rt)(iq:Option Addr)(aW:SV)(ds:Ds)(w:World):Prop:=
 dwE w λw1=>
 ∃a2,aW.a=some a2/\0<=(IntKind.i64.wrap ((aW.len:Int) - 1))/\(IntKind.i64.wrap ((aW.len:Int) - 1))<(aW.len:Int)/\
 0<=(0:Int)/\(0:Int)<(2:Int)/\
 ∃qF:SV,w1.cell? ((a2.add ((IntKind.i64.wrap ((aW.len:Int) - 1)).toNat * 2)).add ((0:Int).toNat * 1))=some (qF.v)/\
 ∃a3,aW.a=some a3/\0<=(IntKind.i64.wrap ((aW.len:Int) - 1))/\(IntKind.i64.wrap ((aW.len:Int) - 1))<(aW.len:Int)/\
 0<=(1:Int)/\(1:Int)<(2:Int)/\
 ∃qG:SV,w1.cell? ((a3.add ((IntKind.i64.wrap ((aW.len:Int) - 1)).toNat * 2)).add ((1:Int).toNat * 1))=some (qG.v)/\
 Calls prog 12 #[qF.v,qG.v] w1 λe w4=>
 ∃nn:SV,∃sf:Int,e=.returned (.tuple #[nn.v,.int .i64 sf])/\
 dwE w4 λw5=>
 ∃a6,aW.a=some a6/\0<=(IntKind.i64.wrap ((aW.len:Int) - 1))/\(IntKind.i64.wrap ((aW.len:Int) - 1))<(aW.len:Int)/\
 0<=(0:Int)/\(0:Int)<(2:Int)/\
 ∃qH:SV,w5.cell? ((a6.add ((IntKind.i64.wrap ((aW.len:Int) - 1)).toNat * 2)).add ((0:Int).toNat * 1))=some (qH.v)/\
 ∃a7,aW.a=some a7/\0<=(IntKind.i64.wrap ((aW.len:Int) - 1))/\(IntKind.i64.wrap ((aW.len:Int) - 1))<(aW.len:Int)/\
 0<=(1:Int)/\(1:Int)<(2:Int)/\
 ∃qI:SV,w5.cell? ((a7.add ((IntKind.i64.wrap ((aW.len:Int) - 1)).toNat * 2)).add ((1:Int).toNat * 1))=some (qI.v)/\
 Calls prog 11 #[qH.v,qI.v] w5 λe w8=>
 ∃si:Option Addr,∃sj:Int,e=.returned (.tuple #[.pointer si,.int .i64 sj])/\
 Br (sf == 0) (
 Br ((nn.len:Int) == 1) (
 Br (sj == 0) (
 Calls prog 14 #[.pointer si] w8 λe w9=>
 ∃sk:Int,∃jo:SV,∃jp:SV,e=.returned (.agg #[.int .i64 sk,jo.v,jp.v])/\
 Calls prog 14 #[.pointer iq] w9 λe aN=>
 ∃sl:Int,∃jq:SV,∃jr:SV,e=.returned (.agg #[.int .i64 sl,jq.v,jr.v])/\
 Calls prog 18 #[.agg #[.int .i64 sk,jo.v,jp.v],.agg #[.int .i64 sl,jq.v,jr.v]] aN λe aV=>
 ∃b186:Bool,e=.returned (.bool b186)/\
 Br b186 (
 Calls prog 10 #[] aV λe aO=>
 ∃b189:Bool,e=.returned (.bool b189)/\
 zQc prog ds aO λaI=>
 R (.returned (.bool b189)) aI) (
 zQc prog ds aV λbt=>
 R (.returned (.bool false)) bt)) (
 zQc prog ds w8 λbr=>
 R (.returned (.bool false)) br)) (
 zQc prog ds w8 λbI=>
 R (.returned (.bool false)) bI)) (
 zQc prog ds w8 λbJ=>
 R (.returned (.bool false)) bJ)
def F7_2 (R:Rt) (J1:(Int)->World->Prop) (iq:Option Addr) (aW:SV) (n16 iM:Int) (ds:Ds) (w:World):Prop:=
 Br (decide (iM<(aW.len:Int))) (
 dwE w λbR=>
 ∃ke,aW.a=some ke/\0<=iM/\iM<(aW.len:Int)/\
 0<=(0:Int)/\(0:Int)<(2:Int)/\
 ∃qJ:SV,bR.cell? ((ke.add (iM.toNat * 2)).add ((0:Int).toNat * 1))=some (qJ.v)/\
 ∃a20,aW.a=some a20/\0<=iM/\iM<(aW.len:Int)/\
 0<=(1:Int)/\(1:Int)<(2:Int)/\
 ∃qK:SV,bR.cell? ((a20.add (iM.toNat * 2)).add ((1:Int).toNat * 1))=some (qK.v)/\
 Calls prog 11 #[qJ.v,qK.v] bR λe cr=>
 ∃sm:Option Addr,∃sn:Int,e=.returned (.tuple #[.pointer sm,.int .i64 sn])/\
 Br (sn != 0) (
 zQc prog ds cr λdX=>
 R (.returned (.bool false)) dX) (
 Calls prog 14 #[.pointer sm] cr λe dQ=>
 ∃sq:Int,∃js:SV,∃jt:SV,e=.returned (.agg #[.int .i64 sq,js.v,jt.v])/\
 Calls prog 14 #[.pointer iq] dQ λe dx=>
 ∃sr:Int,∃ju:SV,∃jv:SV,e=.returned (.agg #[.int .i64 sr,ju.v,jv.v])/\
 Calls prog 18 #[.agg #[.int .i64 sq,js.v,jt.v],.agg #[.int .i64 sr,ju.v,jv.v]] dx λe gj=>
 ∃b131:Bool,e=.returned (.bool b131)/\
 Br (!b131) (
 zQc prog ds gj λfm=>
 R (.returned (.bool false)) fm) (
 J1 (IntKind.i64.wrap (iM+n16)) gj))) (
 F7_1 R iq aW ds w)
def F7_3(R:Rt)(iq:Option Addr)(aW:SV)(n16 iM:Int)(ds:Ds)(w:World):Prop:=
 zQF (λ(J1:(Int)->World->Prop) (s:Int) (w:World)=>F7_2 R J1 iq aW n16 s ds w) iM w
def zVh(R:Rt)(iq:Option Addr)(aW:SV)(b98:Bool)(ds:Ds)(w:World):Prop:=
 Br b98 (
 zQc prog ds w λgS=>
 R (.returned (.bool false)) gS) (
 IntKind.i64=IntKind.i64/\(120:Int) ≠ 0/\
 F7_3 R iq aW (IntKind.i64.wrap ((IntKind.i64.wrap ((aW.len:Int).tdiv 120))+1)) 0 ds w)
def F7_6(R:Rt)(l9 cL:SV)(dC:Int)(iq:Option Addr)(eI:Int)(aW:SV)(kv:Int)(ds:Ds)(w:World):Prop:=
 dwE w λcy=>
 ∃S4:World->Prop,S4 cy/\
 Br (dC != 0) (
 (
 (
 zVh R iq aW true ds cy)/\(
 zVh R iq aW true ds cy))/\(
 (
 zVh R iq aW true ds cy)/\(
 zVh R iq aW true ds cy))) (
 Br (eI != 0) (
 (
 (
 zVh R iq aW true ds cy)/\(
 zVh R iq aW true ds cy))/\(
 (
 zVh R iq aW true ds cy)/\(
 zVh R iq aW true ds cy))) (
 Br (kv != 0) (
 (
 (
 zVh R iq aW true ds cy)/\(
 zVh R iq aW true ds cy))/\(
 (
 zVh R iq aW true ds cy)/\(
 zVh R iq aW true ds cy))) (
 Br ((aW.len:Int) == 0) (
 (
 (
 zVh R iq aW true ds cy)/\(
 zVh R iq aW true ds cy))/\(
 (
 zVh R iq aW true ds cy)/\(
 zVh R iq aW true ds cy))) (
 ∃pN,aW.a=some pN/\0<=(0:Int)/\(0:Int)<(aW.len:Int)/\
 0<=(0:Int)/\(0:Int)<(2:Int)/\
 ∃aD:SV,(∀w',S4 w'->w'.cell? ((pN.add ((0:Int).toNat * 2)).add ((0:Int).toNat * 1))=some (aD.v))/\
 (
 ∃s84:ByteArray,∃gT,(convert 22 9 (aD.v)).run prog cy=.ok (.string s84) gT/\
 S4 gT/\
 ∃s86:ByteArray,∃fX,(convert 22 9 (l9.v)).run prog gT=.ok (.string s86) fX/\
 S4 fX/\
 Br (!(s84.toList == s86.toList)) (
 (
 zVh R iq aW true ds fX)/\(
 zVh R iq aW true ds fX)) (
 ∃sL,aW.a=some sL/\0<=(0:Int)/\(0:Int)<(aW.len:Int)/\
 0<=(1:Int)/\(1:Int)<(2:Int)/\
 ∃np:SV,(∀w',S4 w'->w'.cell? ((sL.add ((0:Int).toNat * 2)).add ((1:Int).toNat * 1))=some (np.v))/\
 (
 ∃ss:ByteArray,∃fW,(convert 22 9 (np.v)).run prog fX=.ok (.string ss) fW/\
 ∃su:ByteArray,∃fo,(convert 22 9 (cL.v)).run prog fW=.ok (.string su) fo/\
 zVh R iq aW (!(ss.toList == su.toList)) ds fo)/\(
 ∃su:ByteArray,∃iN,(convert 22 9 (cL.v)).run prog fX=.ok (.string su) iN/\
 S4 iN/\
 ∃ss:ByteArray,∃qU,(convert 22 9 (np.v)).run prog iN=.ok (.string ss) qU/\
 zVh R iq aW (!(ss.toList == su.toList)) ds qU)))/\(
 ∃s86:ByteArray,∃nc,(convert 22 9 (l9.v)).run prog cy=.ok (.string s86) nc/\
 S4 nc/\
 ∃s84:ByteArray,∃kR,(convert 22 9 (aD.v)).run prog nc=.ok (.string s84) kR/\
 S4 kR/\
 Br (!(s84.toList == s86.toList)) (
 (
 zVh R iq aW true ds kR)/\(
 zVh R iq aW true ds kR)) (
 ∃yj,aW.a=some yj/\0<=(0:Int)/\(0:Int)<(aW.len:Int)/\
 0<=(1:Int)/\(1:Int)<(2:Int)/\
 ∃np:SV,(∀w',S4 w'->w'.cell? ((yj.add ((0:Int).toNat * 2)).add ((1:Int).toNat * 1))=some (np.v))/\
 (
 ∃ss:ByteArray,∃qV,(convert 22 9 (np.v)).run prog kR=.ok (.string ss) qV/\
 ∃su:ByteArray,∃qw,(convert 22 9 (cL.v)).run prog qV=.ok (.string su) qw/\
 zVh R iq aW (!(ss.toList == su.toList)) ds qw)/\(
 ∃su:ByteArray,∃td,(convert 22 9 (cL.v)).run prog kR=.ok (.string su) td/\
 S4 td/\
 ∃ss:ByteArray,∃pC,(convert 22 9 (np.v)).run prog td=.ok (.string ss) pC/\
 zVh R iq aW (!(ss.toList == su.toList)) ds pC)))))))
def F7_7(R:Rt)(aw:Int)(ah ai bu bv bw:SV)(n1 n2:Int)(ds:Ds)(w:World):Prop:=
 alE (.cells #[.int .i64 aw,ah.v,ai.v,bu.v,bv.v,bw.v] 41) w λr3 i9=>
 ∃gM,i9.cell? ((⟨r3,0,none⟩:Addr).add 0)=some (.int .i64 gM)/\
 ∃bE:SV,i9.cell? ((⟨r3,0,none⟩:Addr).add 1)=some (bE.v)/\
 ∃db:SV,i9.cell? ((⟨r3,0,none⟩:Addr).add 2)=some (db.v)/\
 ∃mT:SV,i9.cell? ((⟨r3,0,none⟩:Addr).add 3)=some (mT.v)/\
 ∃mU:SV,i9.cell? ((⟨r3,0,none⟩:Addr).add 4)=some (mU.v)/\
 ∃mV:SV,i9.cell? ((⟨r3,0,none⟩:Addr).add 5)=some (mV.v)/\
 Calls prog 15 #[.agg #[.int .i64 gM,bE.v,db.v,mT.v,mU.v,mV.v]] i9 λe oZ=>
 ∃o9:Bool,e=.returned (.bool o9)/\
 Br o9 (
 Calls prog 10 #[] oZ λe gm=>
 ∃o6:Bool,e=.returned (.bool o6)/\
 zQc prog ds gm λxj=>
 R (.returned (.bool o6)) xj) (
 ∃wL,oZ.cell? ((⟨r3,0,none⟩:Addr).add 0)=some (.int .i64 wL)/\
 ∃aP:SV,oZ.cell? ((⟨r3,0,none⟩:Addr).add 1)=some (aP.v)/\
 ∃mW:SV,oZ.cell? ((⟨r3,0,none⟩:Addr).add 2)=some (mW.v)/\
 ∃mX:SV,oZ.cell? ((⟨r3,0,none⟩:Addr).add 3)=some (mX.v)/\
 ∃mY:SV,oZ.cell? ((⟨r3,0,none⟩:Addr).add 4)=some (mY.v)/\
 ∃mZ:SV,oZ.cell? ((⟨r3,0,none⟩:Addr).add 5)=some (mZ.v)/\
 Calls prog 31 #[.agg #[.int .i64 wL,aP.v,mW.v,mX.v,mY.v,mZ.v]] oZ λe kX=>
 ∃qc:Option Addr,∃oC:Bool,e=.returned (.tuple #[.pointer qc,.bool oC])/\
 ∃y7:Bool,∃rp,(eqS .eql 24 (.tmp 32) (.const (.pointer none)) (.pointer qc) (.pointer none)).run prog kX=.ok (.bool y7) rp/\
 Br y7 (
 Br oC (
 Calls prog 10 #[] rp λe vt=>
 ∃b36:Bool,e=.returned (.bool b36)/\
 zQc prog ds vt λw51=>
 R (.returned (.bool b36)) w51) (
 zQc prog ds rp λw52=>
 R (.returned (.bool false)) w52)) (
 ∃eJ:Int,∃rq,(Builtin.max_ #[3,3] 3 #[.int .i64 n1,.int .i64 0]).run prog rp=.ok (.int .i64 eJ) rq/\
 Calls prog 30 #[.pointer qc] rq λe tW=>
 ∃ln:Int,e=.returned (.int .i64 ln)/\
 ∃m8:Int,∃qX,(Builtin.min_ #[3,3] 3 #[.int .i64 eJ,.int .i64 ln]).run prog tW=.ok (.int .i64 m8) qX/\
 ∃yW:Int,∃xd,(Builtin.max_ #[3,3] 3 #[.int .i64 n2,.int .i64 0]).run prog qX=.ok (.int .i64 yW) xd/\
 Calls prog 33 #[.pointer qc,.int .i64 m8,.int .i64 yW] xd λe xe=>
 ∃iD:SV,∃dK:SV,∃oD:Int,e=.returned (.tuple #[iD.v,dK.v,.int .i64 oD])/\
 Calls prog 11 #[iD.v,dK.v] xe λe qS=>
 ∃wM:Option Addr,∃iU:Int,e=.returned (.tuple #[.pointer wM,.int .i64 iU])/\
 Calls prog 12 #[iD.v,dK.v] qS λe nI=>
 ∃qd:SV,∃eW:Int,e=.returned (.tuple #[qd.v,.int .i64 eW])/\
 F7_6 R iD dK oD wM iU qd eW ds nI))
theorem F7_p:Pl prog f7 [aS 0 [.int .i64,.slice,.slice,.slice,.slice,.slice],iS 1,iS 2] F7_7:=λR=>
 pc 10 (rest [lS 9,lS 10,iS 11,pS 12,iS 13,lS 14,iS 15] (F7_6 R) (pc 1 (rest [pS 12,lS 14,bS 98] (zVh R) (pc 3 (rest [pS 12,lS 14,iS 16,iS 17] (F7_3 R) (bk 0 (rest [pS 12,lS 14] (F7_1 R) lf) (lp [iS 17] [pS 12,lS 14,iS 16,iS 17] (F7_2 R) zXN λJ1=>lf)))))))
theorem xJf (aw:Int) (ah ai bu bv bw:SV) (n1 n2:Int) (w:World) (R:Rt) (h:F7_7 R aw ah ai bu bv bw n1 n2 [] w):Calls prog 7 #[.agg #[.int .i64 aw,ah.v,ai.v,bu.v,bv.v,bw.v],.int .i64 n1,.int .i64 n2] w R:=
 plC F7_p func7 h
end Go.Proofs.YtaeecpjhfmcliaaGreatDoor
