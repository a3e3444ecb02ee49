import Derived.Test.YtaeecpjhfmcliaaGreatDoorProg
import Derived.Test.YtaeecpjhfmcliaaGreatDoorShTwentyEight
/- Shallow texts of functions, printed by program, each checked by the kernel against the loaded code. No condition. -/
set_option maxRecDepth 100000
set_option linter.unusedVariables false
namespace Go.Proofs.YtaeecpjhfmcliaaGreatDoor
open Go.Sh Tryz
def xKl(R:Rt)(aw aJ:Int)(fZ:ByteArray)(ds:Ds)(w:World):Prop:=
 alE (.cells #[.int .i64 aw,.int .i64 aJ,.string fZ] 73) w λr1 w1=>
 ∃s4,w1.cell? ((⟨r1,0,none⟩:Addr).add 2)=some (.string s4)/\
 Br (decide ((s4.size:Int) > 2048)) (
 zQc prog ds w1 λw2=>
 R (.returned (.int .i64 3)) w2) (
 ∃eD,w1.cell? ((⟨r1,0,none⟩:Addr).add 0)=some (.int .i64 eD)/\
 ∃eE,w1.cell? ((⟨r1,0,none⟩:Addr).add 1)=some (.int .i64 eE)/\
 ∃rk,w1.cell? ((⟨r1,0,none⟩:Addr).add 2)=some (.string rk)/\
 Calls prog 147 #[.agg #[.int .i64 eD,.int .i64 eE,.string rk]] w1 λe w3=>
 ∃b8:Bool,e=.returned (.bool b8)/\
 Br (!b8) (
 zQc prog ds w3 λw4=>
 R (.returned (.int .i64 1)) w4) (
 zQc prog ds w3 λw5=>
 R (.returned (.int .i64 0)) w5))
theorem F117_p:Pl prog f117 [aS 0 [.int .i64,.int .i64,.str]] xKl:=λR=>
 lf
theorem yVi (aw aJ:Int) (fZ:ByteArray) (w:World) (R:Rt) (h:xKl R aw aJ fZ [] w):Calls prog 117 #[.agg #[.int .i64 aw,.int .i64 aJ,.string fZ]] w R:=
 plC F117_p func117 h
def yQw(R:Rt)(p1:Option Addr)(df:Int)(ds:Ds)(w:World):Prop:=
 Br (df == 0) (
 zQh p1 λa1=>
 ∃ct,w.cell? (a1.add 1)=some (.int .i64 ct)/\
 zQc prog ds w λw2=>
 R (.returned (.bool (ct == 0))) w2) (
 Br (df == 1) (
 zQh p1 λa3=>
 ∃tP,w.cell? (a3.add 1)=some (.int .i64 tP)/\
 Br (tP == 0) (
 zQc prog ds w λw4=>
 R (.returned (.bool true)) w4) (
 zQh p1 λa5=>
 ∃tQ,w.cell? (a5.add 1)=some (.int .i64 tQ)/\
 zQc prog ds w λw6=>
 R (.returned (.bool (tQ == 1))) w6)) (
 Br (df == 2) (
 zQh p1 λa7=>
 ∃ln,w.cell? (a7.add 1)=some (.int .i64 ln)/\
 Calls prog 153 #[.int .i64 ln] w λe w8=>
 ∃rm:Bool,e=.returned (.bool rm)/\
 zQc prog ds w8 λw9=>
 R (.returned (.bool rm)) w9) (
 Br (df == 3) (
 zQh p1 λeu=>
 ∃kN,w.cell? (eu.add 1)=some (.int .i64 kN)/\
 Calls prog 191 #[.int .i64 kN] w λe aV=>
 ∃b47:Bool,e=.returned (.bool b47)/\
 zQc prog ds aV λaO=>
 R (.returned (.bool b47)) aO) (
 zQh p1 λlq=>
 ∃qQ,w.cell? lq=some (.int .i64 qQ)/\
 zQc prog ds w λbt=>
 R (.returned (.bool (qQ == 4))) bt))))
def xVU(R:Rt)(aw aJ:Int)(fZ:ByteArray)(ds:Ds)(w:World):Prop:=
 alE (.cells #[.int .i64 aw,.int .i64 aJ,.string fZ] 73) w λr1 br=>
 ∃n4,br.cell? (⟨r1,0,none⟩:Addr)=some (.int .i64 n4)/\
 Br (n4 != 4) (
 ∃s8,br.cell? ((⟨r1,0,none⟩:Addr).add 2)=some (.string s8)/\
 Br (!(s8.toList == (⟨#[]⟩:ByteArray).toList)) (
 zQc prog ds br λbI=>
 R (.returned (.bool false)) bI) (
 ∃eI,br.cell? (⟨r1,0,none⟩:Addr)=some (.int .i64 eI)/\
 Br (eI == 4) (
 ∃iM,br.cell? ((⟨r1,0,none⟩:Addr).add 1)=some (.int .i64 iM)/\
 Br (iM != 0) (
 zQc prog ds br λbJ=>
 R (.returned (.bool false)) bJ) (
 ∃df,br.cell? (⟨r1,0,none⟩:Addr)=some (.int .i64 df)/\
 yQw R (some (⟨r1,0,none⟩:Addr)) df ds br)) (
 ∃df,br.cell? (⟨r1,0,none⟩:Addr)=some (.int .i64 df)/\
 yQw R (some (⟨r1,0,none⟩:Addr)) df ds br))) (
 ∃eI,br.cell? (⟨r1,0,none⟩:Addr)=some (.int .i64 eI)/\
 Br (eI == 4) (
 ∃iM,br.cell? ((⟨r1,0,none⟩:Addr).add 1)=some (.int .i64 iM)/\
 Br (iM != 0) (
 zQc prog ds br λbR=>
 R (.returned (.bool false)) bR) (
 ∃df,br.cell? (⟨r1,0,none⟩:Addr)=some (.int .i64 df)/\
 yQw R (some (⟨r1,0,none⟩:Addr)) df ds br)) (
 ∃df,br.cell? (⟨r1,0,none⟩:Addr)=some (.int .i64 df)/\
 yQw R (some (⟨r1,0,none⟩:Addr)) df ds br))
theorem F147_p:Pl prog f147 [aS 0 [.int .i64,.int .i64,.str]] xVU:=λR=>
 pc 4 (rest [pS 1,iS 22] (yQw R) lf)
theorem yWg (aw aJ:Int) (fZ:ByteArray) (w:World) (R:Rt) (h:xVU R aw aJ fZ [] w):Calls prog 147 #[.agg #[.int .i64 aw,.int .i64 aJ,.string fZ]] w R:=
 plC F147_p func147 h
def xWC(R:Rt)(n0:Int)(ds:Ds)(w:World):Prop:=
 Br (decide (n0 >= (-1000000000000000))) (
 zQc prog ds w λw1=>
 R (.returned (.bool (decide (n0<=1000000000000000)))) w1) (
 zQc prog ds w λw2=>
 R (.returned (.bool false)) w2)
theorem F153_p:Pl prog f153 [iS 0] xWC:=λR=>
 lf
theorem yW0 (n0:Int) (w:World) (R:Rt) (h:xWC R n0 [] w):Calls prog 153 #[.int .i64 n0] w R:=
 plC F153_p func153 h
def xJK(R:Rt)(n0:Int)(ds:Ds)(w:World):Prop:=
 Br (decide (n0 >= 0)) (
 zQc prog ds w λw1=>
 R (.returned (.bool (decide (n0<=3652059)))) w1) (
 zQc prog ds w λw2=>
 R (.returned (.bool false)) w2)
theorem F191_p:Pl prog f191 [iS 0] xJK:=λR=>
 lf
theorem yWU (n0:Int) (w:World) (R:Rt) (h:xJK R n0 [] w):Calls prog 191 #[.int .i64 n0] w R:=
 plC F191_p func191 h
def zWd(R:Rt)(p1:Option Addr)(b3:Bool)(ds:Ds)(w:World):Prop:=
 Br (!b3) (
 zQc prog ds w λw1=>
 R (.returned (.int .i64 1)) w1) (
 zQh p1 λa2=>
 ∃qQ,w.cell? a2=some (.int .i64 qQ)/\
 Br (qQ != 4) (
 zQh p1 λa3=>
 ∃s53,w.cell? (a3.add 2)=some (.string s53)/\
 Br (!(s53.toList == (⟨#[]⟩:ByteArray).toList)) (
 zQc prog ds w λw4=>
 R (.returned (.int .i64 1)) w4) (
 zQc prog ds w λw5=>
 R (.returned (.int .i64 0)) w5)) (
 zQc prog ds w λw6=>
 R (.returned (.int .i64 0)) w6))
def xKa(R:Rt)(aw aJ:Int)(fZ:ByteArray)(ds:Ds)(w:World):Prop:=
 alE (.cells #[.int .i64 aw,.int .i64 aJ,.string fZ] 73) w λr1 w7=>
 ∃s5,w7.cell? ((⟨r1,0,none⟩:Addr).add 2)=some (.string s5)/\
 Br (decide ((s5.size:Int) > 2048)) (
 zQc prog ds w7 λw8=>
 R (.returned (.int .i64 3)) w8) (
 ∃n9,w7.cell? (⟨r1,0,none⟩:Addr)=some (.int .i64 n9)/\
 Br (n9 == 0) (
 ∃eI,w7.cell? ((⟨r1,0,none⟩:Addr).add 1)=some (.int .i64 eI)/\
 zWd R (some (⟨r1,0,none⟩:Addr)) (eI == 0) ds w7) (
 Br (n9 == 1) (
 ∃iI,w7.cell? ((⟨r1,0,none⟩:Addr).add 1)=some (.int .i64 iI)/\
 Br (iI == 0) (
 zWd R (some (⟨r1,0,none⟩:Addr)) true ds w7) (
 ∃df,w7.cell? ((⟨r1,0,none⟩:Addr).add 1)=some (.int .i64 df)/\
 zWd R (some (⟨r1,0,none⟩:Addr)) (df == 1) ds w7)) (
 Br (n9 == 2) (
 ∃kO,w7.cell? ((⟨r1,0,none⟩:Addr).add 1)=some (.int .i64 kO)/\
 Calls prog 167 #[.int .i64 kO] w7 λe w9=>
 ∃b29:Bool,e=.returned (.bool b29)/\
 zWd R (some (⟨r1,0,none⟩:Addr)) b29 ds w9) (
 Br (n9 == 3) (
 ∃kV,w7.cell? ((⟨r1,0,none⟩:Addr).add 1)=some (.int .i64 kV)/\
 Br (decide (kV >= 0)) (
 ∃iw,w7.cell? ((⟨r1,0,none⟩:Addr).add 1)=some (.int .i64 iw)/\
 zWd R (some (⟨r1,0,none⟩:Addr)) (decide (iw<=3652059)) ds w7) (
 zWd R (some (⟨r1,0,none⟩:Addr)) false ds w7)) (
 Br (n9 == 4) (
 ∃ez,w7.cell? ((⟨r1,0,none⟩:Addr).add 1)=some (.int .i64 ez)/\
 zWd R (some (⟨r1,0,none⟩:Addr)) (ez == 0) ds w7) (
 zWd R (some (⟨r1,0,none⟩:Addr)) false ds w7))))))
theorem F132_p:Pl prog f132 [aS 0 [.int .i64,.int .i64,.str]] xKa:=λR=>
 pc 6 (rest [pS 1,bS 3] (zWd R) lf)
theorem yWc (aw aJ:Int) (fZ:ByteArray) (w:World) (R:Rt) (h:xKa R aw aJ fZ [] w):Calls prog 132 #[.agg #[.int .i64 aw,.int .i64 aJ,.string fZ]] w R:=
 plC F132_p func132 h
def xWP(R:Rt)(n0:Int)(ds:Ds)(w:World):Prop:=
 Br (decide (n0 >= (-1000000000000000))) (
 zQc prog ds w λw1=>
 R (.returned (.bool (decide (n0<=1000000000000000)))) w1) (
 zQc prog ds w λw2=>
 R (.returned (.bool false)) w2)
theorem F167_p:Pl prog f167 [iS 0] xWP:=λR=>
 lf
theorem yVx (n0:Int) (w:World) (R:Rt) (h:xWP R n0 [] w):Calls prog 167 #[.int .i64 n0] w R:=
 plC F167_p func167 h
end Go.Proofs.YtaeecpjhfmcliaaGreatDoor
/- Shallow texts of functions, printed by program, each checked by the kernel against the loaded code. No condition. -/
namespace Go.Proofs.YtaeecpjhfmcliaaGreatDoor
open Go.Sh Tryz
def yK7(R:Rt)(p1 p3:Option Addr)(b4:Bool)(ds:Ds)(w:World):Prop:=
 Br b4 (
 zQh p1 λa1=>
 ∃wZ,w.cell? a1=some (.string wZ)/\
 Calls prog 146 #[.string wZ] w λe w2=>
 ∃kb:Bool,e=.returned (.bool kb)/\
 Br kb (
 zQh p1 λa3=>
 ∃kj,w2.cell? (a3.add 2)=some (.int .i64 kj)/\
 zQh p3 λa4=>
 ∃df,w2.cell? (a4.add 1)=some (.int .i64 df)/\
 Br (decide (kj >= df)) (
 zQh p1 λa5=>
 ∃gn,w2.cell? (a5.add 2)=some (.int .i64 gn)/\
 zQh p3 λa6=>
 ∃o0,w2.cell? (a6.add 2)=some (.int .i64 o0)/\
 zQc prog ds w2 λw7=>
 R (.returned (.bool (decide (gn<=o0)))) w7) (
 zQc prog ds w2 λw8=>
 R (.returned (.bool false)) w8)) (
 zQc prog ds w2 λw9=>
 R (.returned (.bool false)) w9)) (
 zQc prog ds w λaN=>
 R (.returned (.bool false)) aN)
def xWF(R:Rt)(aY:ByteArray)(aJ aZ:Int)(be:Bool)(ds:Ds)(w:World):Prop:=
 alE (.cells #[.string aY,.int .i64 aJ,.int .i64 aZ,.bool be] 129) w λr1 aV=>
 dwE aV λaO=>
 ∃S1:World->Prop,S1 aO/\
 ∃n8,(∀w',S1 w'->w'.cell? ((⟨r1,0,none⟩:Addr).add 1)=some (.int .i64 n8))/\
 (
 Calls prog 145 #[] aO λe aI=>
 ∃m6:Option Nat,e=.returned (.map m6)/\
 ∃S2:World->Prop,S2 aI/\(∀u,S2 u->S1 u)/\
 ∃km:Int,∃ko:Int,∃kq:Int,∃kr:Value,∃ku:Value,∃ro:Bool,(∀w',S2 w'->(Instr.lookup 176 (.map m6) (.int .i64 n8) true).run prog w'=.ok (.tuple #[.agg #[.int .u8 km,.int .i64 ko,.int .i64 kq,kr,ku],.bool ro]) w')/\
 alE (.cells #[.int .u8 0,.int .i64 0,.int .i64 0,.nilFunc,.nilFunc] 174) aI λr3 bt=>
 ∃S3:World->Prop,S3 bt/\(∀u,S3 u->S2 u)/\
 stA prog 174 (⟨r3,0,none⟩:Addr) #[.int .u8 km,.int .i64 ko,.int .i64 kq,kr,ku] bt λbr=>
 yK7 R (some (⟨r1,0,none⟩:Addr)) (some (⟨r3,0,none⟩:Addr)) ro ds br)/\(
 alE (.cells #[.int .u8 0,.int .i64 0,.int .i64 0,.nilFunc,.nilFunc] 174) aO λr3 bI=>
 ∃S4:World->Prop,S4 bI/\(∀u,S4 u->S1 u)/\
 Calls prog 145 #[] bI λe bJ=>
 ∃m6:Option Nat,e=.returned (.map m6)/\
 ∃S5:World->Prop,S5 bJ/\(∀u,S5 u->S4 u)/\
 ∃km:Int,∃ko:Int,∃kq:Int,∃kr:Value,∃ku:Value,∃ro:Bool,(∀w',S5 w'->(Instr.lookup 176 (.map m6) (.int .i64 n8) true).run prog w'=.ok (.tuple #[.agg #[.int .u8 km,.int .i64 ko,.int .i64 kq,kr,ku],.bool ro]) w')/\
 stA prog 174 (⟨r3,0,none⟩:Addr) #[.int .u8 km,.int .i64 ko,.int .i64 kq,kr,ku] bJ λbR=>
 yK7 R (some (⟨r1,0,none⟩:Addr)) (some (⟨r3,0,none⟩:Addr)) ro ds bR)
theorem F115_p:Pl prog f115 [aS 0 [.str,.int .i64,.int .i64,.bool]] xWF:=λR=>
 pc 2 (rest [pS 1,pS 3,bS 4] (yK7 R) lf)
theorem yVl (aY:ByteArray) (aJ aZ:Int) (be:Bool) (w:World) (R:Rt) (h:xWF R aY aJ aZ be [] w):Calls prog 115 #[.agg #[.string aY,.int .i64 aJ,.int .i64 aZ,.bool be]] w R:=
 plC F115_p func115 h
def yYs(R:Rt)(s0:ByteArray)(ds:Ds)(w:World):Prop:=
 Br (!(s0.toList == (⟨#[]⟩:ByteArray).toList)) (
 Br (decide ((s0.size:Int)<=10)) (
 Calls prog 190 #[.string s0,.string (⟨#[65,66,67,68,69,70,71,72,73,74,75,76,77,78,79,80,81,82,83,84,85,86,87,88,89,90,48,49,50,51,52,53,54,55,56,57,95]⟩:ByteArray)] w λe w1=>
 ∃sV:ByteArray,e=.returned (.string sV)/\
 Br (sV.toList == (⟨#[]⟩:ByteArray).toList) (
 ∃sW:UInt8,0<=(0:Int)/\s0[(0:Int).toNat]?=some sW/\
 Br (decide ((sW.toNat:Int) >= 65)) (
 ∃qo:UInt8,0<=(0:Int)/\s0[(0:Int).toNat]?=some qo/\
 zQc prog ds w1 λw2=>
 R (.returned (.bool (decide ((qo.toNat:Int)<=90)))) w2) (
 zQc prog ds w1 λw3=>
 R (.returned (.bool false)) w3)) (
 zQc prog ds w1 λw4=>
 R (.returned (.bool false)) w4)) (
 zQc prog ds w λw5=>
 R (.returned (.bool false)) w5)) (
 zQc prog ds w λw6=>
 R (.returned (.bool false)) w6)
theorem F146_p:Pl prog f146 [sS 0] yYs:=λR=>
 lf
theorem yVn (s0:ByteArray) (w:World) (R:Rt) (h:yYs R s0 [] w):Calls prog 146 #[.string s0] w R:=
 plC F146_p func146 h
def xWx(R:Rt)(ds:Ds)(w:World):Prop:=
 alE (.map #[] 0) w λr1 w1=>
 doE prog (Instr.mapUpdate 176 (.map (some r1)) (.int .i64 1) (.agg #[.int .u8 76,.int .i64 1,.int .i64 1,.func (.func 180) #[] #[],.func (.func 181) #[] #[]])) w1 λw2=>
 doE prog (Instr.mapUpdate 176 (.map (some r1)) (.int .i64 2) (.agg #[.int .u8 78,.int .i64 1,.int .i64 15,.func (.func 182) #[] #[],.func (.func 183) #[] #[]])) w2 λw3=>
 doE prog (Instr.mapUpdate 176 (.map (some r1)) (.int .i64 3) (.agg #[.int .u8 68,.int .i64 8,.int .i64 8,.func (.func 184) #[] #[],.func (.func 185) #[] #[]])) w3 λw4=>
 doE prog (Instr.mapUpdate 176 (.map (some r1)) (.int .i64 4) (.agg #[.int .u8 67,.int .i64 1,.int .i64 254,.func (.func 186) #[] #[],.func (.func 187) #[] #[]])) w4 λw5=>
 doE prog (Instr.mapUpdate 176 (.map (some r1)) (.int .i64 5) (.agg #[.int .u8 77,.int .i64 8,.int .i64 8,.func (.func 188) #[] #[],.func (.func 189) #[] #[]])) w5 λw6=>
 zQc prog ds w6 λw7=>
 R (.returned (.map (some r1))) w7
theorem F145_p:Pl prog f145 [] xWx:=λR=>
 lf
theorem yWK  (w:World) (R:Rt) (h:xWx R [] w):Calls prog 145 #[] w R:=
 plC F145_p func145 h
def xVl(R:Rt)(n0:Int)(ds:Ds)(w:World):Prop:=
 Br (decide (n0 >= 0)) (
 zQc prog ds w λw1=>
 R (.returned (.bool (decide (n0<=2)))) w1) (
 zQc prog ds w λw2=>
 R (.returned (.bool false)) w2)
theorem F116_p:Pl prog f116 [iS 0] xVl:=λR=>
 lf
theorem yV8 (n0:Int) (w:World) (R:Rt) (h:xVl R n0 [] w):Calls prog 116 #[.int .i64 n0] w R:=
 plC F116_p func116 h
def F91_1(R:Rt)(aY:ByteArray)(aJ aZ:Int)(be:Bool)(ds:Ds)(w:World):Prop:=
 alE (.cells #[.string aY,.int .i64 aJ,.int .i64 aZ,.bool be] 129) w λr1 w1=>
 ∃s4,w1.cell? (⟨r1,0,none⟩:Addr)=some (.string s4)/\
 Calls prog 130 #[.string s4] w1 λe w2=>
 ∃b5:Bool,e=.returned (.bool b5)/\
 Br (!b5) (
 zQc prog ds w2 λw3=>
 R (.returned (.bool false)) w3) (
 ∃n8,w2.cell? ((⟨r1,0,none⟩:Addr).add 1)=some (.int .i64 n8)/\
 Br (n8 == 1) (
 ∃dy,w2.cell? ((⟨r1,0,none⟩:Addr).add 2)=some (.int .i64 dy)/\
 zQc prog ds w2 λw4=>
 R (.returned (.bool (dy == 1))) w4) (
 Br (n8 == 2) (
 ∃iM,w2.cell? ((⟨r1,0,none⟩:Addr).add 2)=some (.int .i64 iM)/\
 Br (decide (iM >= 1)) (
 ∃kP,w2.cell? ((⟨r1,0,none⟩:Addr).add 2)=some (.int .i64 kP)/\
 zQc prog ds w2 λw5=>
 R (.returned (.bool (decide (kP<=15)))) w5) (
 zQc prog ds w2 λw6=>
 R (.returned (.bool false)) w6)) (
 Br (n8 == 3) (
 Br (n8 == 3) (
 ∃kO,w2.cell? ((⟨r1,0,none⟩:Addr).add 2)=some (.int .i64 kO)/\
 zQc prog ds w2 λw7=>
 R (.returned (.bool (kO == 8))) w7) (
 Br (n8 == 4) (
 ∃kV,w2.cell? ((⟨r1,0,none⟩:Addr).add 2)=some (.int .i64 kV)/\
 Br (decide (kV >= 1)) (
 ∃iw,w2.cell? ((⟨r1,0,none⟩:Addr).add 2)=some (.int .i64 iw)/\
 zQc prog ds w2 λw8=>
 R (.returned (.bool (decide (iw<=254)))) w8) (
 zQc prog ds w2 λw9=>
 R (.returned (.bool false)) w9)) (
 zQc prog ds w2 λaN=>
 R (.returned (.bool false)) aN))) (
 Br (n8 == 5) (
 ∃kO,w2.cell? ((⟨r1,0,none⟩:Addr).add 2)=some (.int .i64 kO)/\
 zQc prog ds w2 λaV=>
 R (.returned (.bool (kO == 8))) aV) (
 Br (n8 == 4) (
 ∃kV,w2.cell? ((⟨r1,0,none⟩:Addr).add 2)=some (.int .i64 kV)/\
 Br (decide (kV >= 1)) (
 ∃iw,w2.cell? ((⟨r1,0,none⟩:Addr).add 2)=some (.int .i64 iw)/\
 zQc prog ds w2 λaO=>
 R (.returned (.bool (decide (iw<=254)))) aO) (
 zQc prog ds w2 λaI=>
 R (.returned (.bool false)) aI)) (
 zQc prog ds w2 λbt=>
 R (.returned (.bool false)) bt))))))
theorem F91_p:Pl prog f91 [aS 0 [.str,.int .i64,.int .i64,.bool]] F91_1:=λR=>
 lf
theorem xXA (aY:ByteArray) (aJ aZ:Int) (be:Bool) (w:World) (R:Rt) (h:F91_1 R aY aJ aZ be [] w):Calls prog 91 #[.agg #[.string aY,.int .i64 aJ,.int .i64 aZ,.bool be]] w R:=
 plC F91_p func91 h
def F52_1(R:Rt)(n0:Int)(ds:Ds)(w:World):Prop:=
 Br (decide (n0 >= 0)) (
 zQc prog ds w λw1=>
 R (.returned (.bool (decide (n0<=2)))) w1) (
 zQc prog ds w λw2=>
 R (.returned (.bool false)) w2)
theorem F52_p:Pl prog f52 [iS 0] F52_1:=λR=>
 lf
theorem xXv (n0:Int) (w:World) (R:Rt) (h:F52_1 R n0 [] w):Calls prog 52 #[.int .i64 n0] w R:=
 plC F52_p func52 h
def xVQ(R:Rt)(ds:Ds)(w:World):Prop:=
 zQc prog ds w λw1=>
 R (.returned (.bool true)) w1
def zWI (R:Rt) (J1:(Int)->World->Prop) (s0:ByteArray) (n3:Int) (ds:Ds) (w:World):Prop:=
 J1 (IntKind.i64.wrap (n3+1)) w
def xWf (R:Rt) (J1:(Int)->World->Prop) (s0:ByteArray) (n3:Int) (ds:Ds) (w:World):Prop:=
 ∃qo:UInt8,0<=n3/\s0[n3.toNat]?=some qo/\
 Br (decide ((qo.toNat:Int) >= 65)) (
 Br (!(decide ((qo.toNat:Int)<=90))) (
 Br (n3 == 0) (
 zQc prog ds w λw2=>
 R (.returned (.bool false)) w2) (
 Br ((qo.toNat:Int) != 95) (
 Calls prog 166 #[.int .u8 (qo.toNat:Int)] w λe w3=>
 ∃tR:Bool,e=.returned (.bool tR)/\
 Br (!tR) (
 zQc prog ds w3 λw4=>
 R (.returned (.bool false)) w4) (
 zWI R J1 s0 n3 ds w3)) (
 zWI R J1 s0 n3 ds w))) (
 zWI R J1 s0 n3 ds w)) (
 Br (n3 == 0) (
 zQc prog ds w λw5=>
 R (.returned (.bool false)) w5) (
 Br ((qo.toNat:Int) != 95) (
 Calls prog 166 #[.int .u8 (qo.toNat:Int)] w λe w6=>
 ∃tR:Bool,e=.returned (.bool tR)/\
 Br (!tR) (
 zQc prog ds w6 λw7=>
 R (.returned (.bool false)) w7) (
 zWI R J1 s0 n3 ds w6)) (
 zWI R J1 s0 n3 ds w)))
def xJI (R:Rt) (J1:(Int)->World->Prop) (s0:ByteArray) (n3:Int) (ds:Ds) (w:World):Prop:=
 Br (decide (n3<(s0.size:Int))) (
 xWf R J1 s0 n3 ds w) (
 xVQ R ds w)
def xKX(R:Rt)(s0:ByteArray)(n3:Int)(ds:Ds)(w:World):Prop:=
 zQF (λ(J1:(Int)->World->Prop) (s:Int) (w:World)=>xJI R J1 s0 s ds w) n3 w
def xV5(R:Rt)(s0:ByteArray)(ds:Ds)(w:World):Prop:=
 Br (decide ((s0.size:Int)<1)) (
 zQc prog ds w λw8=>
 R (.returned (.bool false)) w8) (
 Br (decide ((s0.size:Int) > 10)) (
 zQc prog ds w λw9=>
 R (.returned (.bool false)) w9) (
 xKX R s0 0 ds w))
theorem F130_p:Pl prog f130 [sS 0] xV5:=λR=>
 pc 4 (rest [sS 0,iS 3] (xKX R) (bk 0 (rest [] (xVQ R) lf) (lp [iS 3] [sS 0,iS 3] (xJI R) zXN λJ1=>pc 2 (rest [sS 0,iS 3] (xWf R J1) (pc 1 (rest [sS 0,iS 3] (zWI R J1) lf))))))
theorem yW5 (s0:ByteArray) (w:World) (R:Rt) (h:xV5 R s0 [] w):Calls prog 130 #[.string s0] w R:=
 plC F130_p func130 h
def xWv(R:Rt)(n0:Int)(ds:Ds)(w:World):Prop:=
 Br (decide (n0 >= 48)) (
 zQc prog ds w λw1=>
 R (.returned (.bool (decide (n0<=57)))) w1) (
 zQc prog ds w λw2=>
 R (.returned (.bool false)) w2)
theorem F166_p:Pl prog f166 [kS .u8 0] xWv:=λR=>
 lf
theorem yVj (n0:Int) (w:World) (R:Rt) (h:xWv R n0 [] w):Calls prog 166 #[.int .u8 n0] w R:=
 plC F166_p func166 h
def xKp(R:Rt)(aY:ByteArray)(aJ aZ:Int)(be:Bool)(ds:Ds)(w:World):Prop:=
 alE (.cells #[.string aY,.int .i64 aJ,.int .i64 aZ,.bool be] 129) w λr1 w1=>
 alE (.cells #[.int .i64 0,.int .i64 0,.string (⟨#[]⟩:ByteArray)] 73) w1 λr2 w2=>
 ∃n4,w2.cell? ((⟨r1,0,none⟩:Addr).add 1)=some (.int .i64 n4)/\
 Br (n4 == 5) (
 stA prog 73 (⟨r2,0,none⟩:Addr) #[.int .i64 2,.int .i64 0,.string (⟨#[]⟩:ByteArray)] w2 λw3=>
 zQc prog ds w3 λw4=>
 ∃ag,w4.cell? ((⟨r2,0,none⟩:Addr).add 0)=some (.int .i64 ag)/\
 ∃aj,w4.cell? ((⟨r2,0,none⟩:Addr).add 1)=some (.int .i64 aj)/\
 ∃ak,w4.cell? ((⟨r2,0,none⟩:Addr).add 2)=some (.string ak)/\
 R (.returned (.agg #[.int .i64 ag,.int .i64 aj,.string ak])) w4) (
 ∃n8,w2.cell? ((⟨r1,0,none⟩:Addr).add 1)=some (.int .i64 n8)/\
 stA prog 73 (⟨r2,0,none⟩:Addr) #[.int .i64 n8,.int .i64 0,.string (⟨#[]⟩:ByteArray)] w2 λw5=>
 zQc prog ds w5 λw6=>
 ∃ag,w6.cell? ((⟨r2,0,none⟩:Addr).add 0)=some (.int .i64 ag)/\
 ∃aj,w6.cell? ((⟨r2,0,none⟩:Addr).add 1)=some (.int .i64 aj)/\
 ∃ak,w6.cell? ((⟨r2,0,none⟩:Addr).add 2)=some (.string ak)/\
 R (.returned (.agg #[.int .i64 ag,.int .i64 aj,.string ak])) w6)
theorem F118_p:Pl prog f118 [aS 0 [.str,.int .i64,.int .i64,.bool]] xKp:=λR=>
 lf
theorem yWh (aY:ByteArray) (aJ aZ:Int) (be:Bool) (w:World) (R:Rt) (h:xKp R aY aJ aZ be [] w):Calls prog 118 #[.agg #[.string aY,.int .i64 aJ,.int .i64 aZ,.bool be]] w R:=
 plC F118_p func118 h
end Go.Proofs.YtaeecpjhfmcliaaGreatDoor
/- Shallow texts of functions, printed by program, each checked by the kernel against the loaded code. No condition. -/
namespace Go.Proofs.YtaeecpjhfmcliaaGreatDoor
open Go.Sh Tryz
def xQ6(R:Rt)(n1:Int)(s6:ByteArray)(ds:Ds)(w:World):Prop:=
 Calls prog 155 #[.string (⟨#[32]⟩:ByteArray),.int .i64 (IntKind.i64.wrap (n1 - (s6.size:Int)))] w λe w1=>
 ∃s30:ByteArray,e=.returned (.string s30)/\
 ((s30.size+s6.size:Nat):Int)<=9223372036854775807/\
 zQc prog ds w1 λw2=>
 R (.returned (.tuple #[.string (s30 ++ s6),.int .i64 0])) w2
def xWI(R:Rt)(n0 n1:Int)(ds:Ds)(w:World):Prop:=
 Calls prog 153 #[.int .i64 n0] w λe w3=>
 ∃b8:Bool,e=.returned (.bool b8)/\
 Br (!b8) (
 zQc prog ds w3 λw4=>
 R (.returned (.tuple #[.string (⟨#[]⟩:ByteArray),.int .i64 1])) w4) (
 Br (decide (n1<1)) (
 zQc prog ds w3 λw5=>
 R (.returned (.tuple #[.string (⟨#[]⟩:ByteArray),.int .i64 1])) w5) (
 Br (decide (n1 > 254)) (
 zQc prog ds w3 λw6=>
 R (.returned (.tuple #[.string (⟨#[]⟩:ByteArray),.int .i64 1])) w6) (
 Calls prog 154 #[.int .i64 n0] w3 λe w7=>
 ∃nH:ByteArray,e=.returned (.string nH)/\
 Br (decide ((nH.size:Int) > n1)) (
 Calls prog 155 #[.string (⟨#[42]⟩:ByteArray),.int .i64 n1] w7 λe w8=>
 ∃s25:ByteArray,e=.returned (.string s25)/\
 zQc prog ds w8 λw9=>
 R (.returned (.tuple #[.string s25,.int .i64 0])) w9) (
 xQ6 R n1 nH ds w7))))
theorem F121_p:Pl prog f121 [iS 0,iS 1] xWI:=λR=>
 pc 6 (rest [iS 1,sS 6] (xQ6 R) lf)
theorem yYd (n0 n1:Int) (w:World) (R:Rt) (h:xWI R n0 n1 [] w):Calls prog 121 #[.int .i64 n0,.int .i64 n1] w R:=
 plC F121_p func121 h
def xKi(R:Rt)(n0:Int)(ds:Ds)(w:World):Prop:=
 Br (decide (n0<0)) (
 Calls prog 154 #[.int .i64 (IntKind.i64.wrap (0 - n0))] w λe w1=>
 ∃s8:ByteArray,e=.returned (.string s8)/\
 (((⟨#[45]⟩:ByteArray).size+s8.size:Nat):Int)<=9223372036854775807/\
 zQc prog ds w1 λw2=>
 R (.returned (.string ((⟨#[45]⟩:ByteArray) ++ s8))) w2) (
 Br (decide (n0<10)) (
 0<=(IntKind.i64.wrap (n0+1))/\(IntKind.i64.wrap (n0+1)).toNat<=(⟨#[48,49,50,51,52,53,54,55,56,57]⟩:ByteArray).size/\0<=n0/\n0.toNat<=(IntKind.i64.wrap (n0+1)).toNat/\
 zQc prog ds w λw3=>
 R (.returned (.string ((⟨#[48,49,50,51,52,53,54,55,56,57]⟩:ByteArray).extract n0.toNat ((IntKind.i64.wrap (n0+1)).toNat)))) w3) (
 dwE w λw4=>
 IntKind.i64=IntKind.i64/\(10:Int) ≠ 0/\
 IntKind.i64=IntKind.i64/\(10:Int) ≠ 0/\
 IntKind.i64=IntKind.i64/\(10:Int) ≠ 0/\
 0<=(IntKind.i64.wrap ((n0.tmod 10)+1))/\(IntKind.i64.wrap ((n0.tmod 10)+1)).toNat<=(⟨#[48,49,50,51,52,53,54,55,56,57]⟩:ByteArray).size/\0<=(n0.tmod 10)/\(n0.tmod 10).toNat<=(IntKind.i64.wrap ((n0.tmod 10)+1)).toNat/\
 Calls prog 154 #[.int .i64 (IntKind.i64.wrap (n0.tdiv 10))] w4 λe w5=>
 ∃nH:ByteArray,e=.returned (.string nH)/\
 ((nH.size+((⟨#[48,49,50,51,52,53,54,55,56,57]⟩:ByteArray).extract ((n0.tmod 10).toNat) ((IntKind.i64.wrap ((n0.tmod 10)+1)).toNat)).size:Nat):Int)<=9223372036854775807/\
 zQc prog ds w5 λw6=>
 R (.returned (.string (nH ++ ((⟨#[48,49,50,51,52,53,54,55,56,57]⟩:ByteArray).extract ((n0.tmod 10).toNat) ((IntKind.i64.wrap ((n0.tmod 10)+1)).toNat))))) w6))
theorem F154_p:Pl prog f154 [iS 0] xKi:=λR=>
 lf
theorem yQt (n0:Int) (w:World) (R:Rt) (h:xKi R n0 [] w):Calls prog 154 #[.int .i64 n0] w R:=
 plC F154_p func154 h
def xKK(R:Rt)(n0:Int)(ds:Ds)(w:World):Prop:=
 Br (decide (n0<0)) (
 Br (n0 == (-9223372036854775808)) (
 zQc prog ds w λw1=>
 R (.returned (.string (⟨#[45,57,50,50,51,51,55,50,48,51,54,56,53,52,55,55,53,56,48,56]⟩:ByteArray))) w1) (
 Calls prog 134 #[.int .i64 (IntKind.i64.wrap (0 - n0))] w λe w2=>
 ∃s9:ByteArray,e=.returned (.string s9)/\
 (((⟨#[45]⟩:ByteArray).size+s9.size:Nat):Int)<=9223372036854775807/\
 zQc prog ds w2 λw3=>
 R (.returned (.string ((⟨#[45]⟩:ByteArray) ++ s9))) w3)) (
 Br (decide (n0<10)) (
 0<=(IntKind.i64.wrap (n0+1))/\(IntKind.i64.wrap (n0+1)).toNat<=(⟨#[48,49,50,51,52,53,54,55,56,57]⟩:ByteArray).size/\0<=n0/\n0.toNat<=(IntKind.i64.wrap (n0+1)).toNat/\
 zQc prog ds w λw4=>
 R (.returned (.string ((⟨#[48,49,50,51,52,53,54,55,56,57]⟩:ByteArray).extract n0.toNat ((IntKind.i64.wrap (n0+1)).toNat)))) w4) (
 IntKind.i64=IntKind.i64/\(10:Int) ≠ 0/\
 Calls prog 134 #[.int .i64 (IntKind.i64.wrap (n0.tdiv 10))] w λe w5=>
 ∃nH:ByteArray,e=.returned (.string nH)/\
 IntKind.i64=IntKind.i64/\(10:Int) ≠ 0/\
 Calls prog 134 #[.int .i64 (n0.tmod 10)] w5 λe w6=>
 ∃ya:ByteArray,e=.returned (.string ya)/\
 ((nH.size+ya.size:Nat):Int)<=9223372036854775807/\
 zQc prog ds w6 λw7=>
 R (.returned (.string (nH ++ ya))) w7))
theorem F134_p:Pl prog f134 [iS 0] xKK:=λR=>
 lf
theorem yQM (n0:Int) (w:World) (R:Rt) (h:xKK R n0 [] w):Calls prog 134 #[.int .i64 n0] w R:=
 plC F134_p func134 h
def yZW(R:Rt)(s0:ByteArray)(n3:Int)(ds:Ds)(w:World):Prop:=
 0<=n3/\n3.toNat<=s0.size/\0<=n3.toNat/\
 zQc prog ds w λw1=>
 R (.returned (.string (s0.extract 0 n3.toNat))) w1
def xVW (R:Rt) (J1:(Int)->World->Prop) (s0:ByteArray) (n3:Int) (ds:Ds) (w:World):Prop:=
 Br (decide (n3 > 0)) (
 ∃cN:UInt8,0<=(IntKind.i64.wrap (n3 - 1))/\s0[(IntKind.i64.wrap (n3 - 1)).toNat]?=some cN/\
 Br ((cN.toNat:Int) == 32) (
 J1 (IntKind.i64.wrap (n3 - 1)) w) (
 yZW R s0 n3 ds w)) (
 yZW R s0 n3 ds w)
def xW8(R:Rt)(s0:ByteArray)(n3:Int)(ds:Ds)(w:World):Prop:=
 zQF (λ(J1:(Int)->World->Prop) (s:Int) (w:World)=>xVW R J1 s0 s ds w) n3 w
def xJJ(R:Rt)(s0:ByteArray)(ds:Ds)(w:World):Prop:=
 xW8 R s0 (s0.size:Int) ds w
theorem F135_p:Pl prog f135 [sS 0] xJJ:=λR=>
 pc 2 (rest [sS 0,iS 3] (xW8 R) (bk 0 (rest [sS 0,iS 3] (yZW R) lf) (lp [iS 3] [sS 0,iS 3] (xVW R) zXN λJ1=>lf)))
theorem yKY (s0:ByteArray) (w:World) (R:Rt) (h:xJJ R s0 [] w):Calls prog 135 #[.string s0] w R:=
 plC F135_p func135 h
def xJN(R:Rt)(s0:ByteArray)(ds:Ds)(w:World):Prop:=
 alE (.cells #[.int .i64 0,.int .i64 0,.string (⟨#[]⟩:ByteArray)] 73) w λr2 w1=>
 stA prog 73 (⟨r2,0,none⟩:Addr) #[.int .i64 4,.int .i64 0,.string s0] w1 λw2=>
 zQc prog ds w2 λw3=>
 ∃ag,w3.cell? ((⟨r2,0,none⟩:Addr).add 0)=some (.int .i64 ag)/\
 ∃aj,w3.cell? ((⟨r2,0,none⟩:Addr).add 1)=some (.int .i64 aj)/\
 ∃ak,w3.cell? ((⟨r2,0,none⟩:Addr).add 2)=some (.string ak)/\
 R (.returned (.agg #[.int .i64 ag,.int .i64 aj,.string ak])) w3
theorem F177_p:Pl prog f177 [sS 0] xJN:=λR=>
 lf
theorem yWr (s0:ByteArray) (w:World) (R:Rt) (h:xJN R s0 [] w):Calls prog 177 #[.string s0] w R:=
 plC F177_p func177 h
end Go.Proofs.YtaeecpjhfmcliaaGreatDoor
/- Shallow texts of functions, printed by program, each checked by the kernel against the loaded code. No condition. -/
namespace Go.Proofs.YtaeecpjhfmcliaaGreatDoor
open Go.Sh Tryz
def xWe(R:Rt)(s0:ByteArray)(n1:Int)(ds:Ds)(w:World):Prop:=
 Calls prog 152 #[.string s0,.int .i64 n1] w λe w1=>
 ∃tS:Bool,∃jy:Int,e=.returned (.tuple #[.bool tS,.int .i64 jy])/\
 Br tS (
 zQc prog ds w1 λw2=>
 R (.returned (.bool (jy == 0))) w2) (
 zQc prog ds w1 λw3=>
 R (.returned (.bool false)) w3)
theorem F120_p:Pl prog f120 [sS 0,iS 1] xWe:=λR=>
 lf
theorem yVZ (s0:ByteArray) (n1:Int) (w:World) (R:Rt) (h:xWe R s0 n1 [] w):Calls prog 120 #[.string s0,.int .i64 n1] w R:=
 plC F120_p func120 h
def xKH(R:Rt)(ds:Ds)(w:World):Prop:=
 zQc prog ds w λw1=>
 R (.returned (.tuple #[.bool true,.int .i64 0])) w1
def xK9 (R:Rt) (J1:(Int)->World->Prop) (p7:Option Addr) (cH:SV) (df i5:Int) (ds:Ds) (w:World):Prop:=
 Br (decide (i5<df)) (
 ∃a2,cH.a=some a2/\0<=i5/\i5<(cH.len:Int)/\
 ∃ct,w.cell? (a2.add (i5.toNat * 1))=some (.int .u8 ct)/\
 zQh p7 λa3=>
 0<=ct/\ct<(256:Int)/\
 ∃o0,w.cell? (a3.add (ct.toNat * 1))=some (.int .i32 o0)/\
 Br (decide (o0<0)) (
 zQc prog ds w λw4=>
 R (.returned (.tuple #[.bool false,.int .i64 0])) w4) (
 J1 (IntKind.i64.wrap (i5+1)) w)) (
 xKH R ds w)
def xVP(R:Rt)(p7:Option Addr)(cH:SV)(df i5:Int)(ds:Ds)(w:World):Prop:=
 zQF (λ(J1:(Int)->World->Prop) (s:Int) (w:World)=>xK9 R J1 p7 cH df s ds w) i5 w
def xWX(R:Rt)(s0:ByteArray)(n1:Int)(ds:Ds)(w:World):Prop:=
 alE (.cells #[.string s0] 9) w λnC w5=>
 Calls prog 195 #[.int .i64 n1,.slice (some ⟨nC,0,none⟩) 1 1] w5 λe w6=>
 ∃eI:Int,e=.returned (.int .i64 eI)/\
 Br (eI != 0) (
 zQc prog ds w6 λw7=>
 R (.returned (.tuple #[.bool false,.int .i64 eI])) w7) (
 Calls prog 196 #[] w6 λe w8=>
 ∃c17:Array Value,c17.size=768/\e=.returned (.agg c17)/\
 ∃c19:Array Value,c19.size=256/\∃w9,(Instr.index 213 (.agg c17) (.int .i64 n1)).run prog w8=.ok (.agg c19) w9/\
 alE (.cells (zc prog 212) 212) w9 λr7 aN=>
 stA prog 212 (⟨r7,0,none⟩:Addr) c19 aN λaV=>
 ∃cH:SV,∃aO,(convert 9 22 (.string s0)).run prog aV=.ok (cH.v) aO/\
 xVP R (some (⟨r7,0,none⟩:Addr)) cH (cH.len:Int) 0 ds aO)
theorem F152_p:Pl prog f152 [sS 0,iS 1] xWX:=λR=>
 pc 6 (rest [pS 7,lS 21,iS 22,iS 23] (xVP R) (bk 0 (rest [] (xKH R) lf) (lp [iS 23] [pS 7,lS 21,iS 22,iS 23] (xK9 R) zXN λJ1=>lf)))
theorem yWX (s0:ByteArray) (n1:Int) (w:World) (R:Rt) (h:xWX R s0 n1 [] w):Calls prog 152 #[.string s0,.int .i64 n1] w R:=
 plC F152_p func152 h
def xK4(R:Rt)(n0:Int)(ds:Ds)(w:World):Prop:=
 Br (decide (n0<0)) (
 zQc prog ds w λw1=>
 R (.returned (.int .i64 1)) w1) (
 Br (decide (n0 > 2)) (
 zQc prog ds w λw2=>
 R (.returned (.int .i64 1)) w2) (
 zQc prog ds w λw3=>
 R (.returned (.int .i64 0)) w3))
def xKr (R:Rt) (J1:(Int)->World->Prop) (n0:Int) (l7:SV) (n8 n9:Int) (ds:Ds) (w:World):Prop:=
 Br (decide (n9<n8)) (
 ∃a4,l7.a=some a4/\0<=n9/\n9<(l7.len:Int)/\
 ∃sV,w.cell? (a4.add (n9.toNat * 1))=some (.string sV)/\
 Br (decide ((sV.size:Int) > 2048)) (
 zQc prog ds w λw5=>
 R (.returned (.int .i64 3)) w5) (
 J1 (IntKind.i64.wrap (n9+1)) w)) (
 xK4 R n0 ds w)
def xKN(R:Rt)(n0:Int)(l7:SV)(n8 n9:Int)(ds:Ds)(w:World):Prop:=
 zQF (λ(J1:(Int)->World->Prop) (s:Int) (w:World)=>xKr R J1 n0 l7 n8 s ds w) n9 w
def xKf(R:Rt)(n0:Int)(l1:SV)(ds:Ds)(w:World):Prop:=
 xKN R n0 l1 (l1.len:Int) 0 ds w
theorem F195_p:Pl prog f195 [iS 0,lS 1] xKf:=λR=>
 pc 2 (rest [iS 0,lS 7,iS 8,iS 9] (xKN R) (bk 0 (rest [iS 0] (xK4 R) lf) (lp [iS 9] [iS 0,lS 7,iS 8,iS 9] (xKr R) zXN λJ1=>lf)))
theorem yWi (n0:Int) (l1:SV) (w:World) (R:Rt) (h:xKf R n0 l1 [] w):Calls prog 195 #[.int .i64 n0,l1.v] w R:=
 plC F195_p func195 h
def xZm(R:Rt)(p0 p1:Option Addr)(ds:Ds)(w:World):Prop:=
 zQh p1 λa1=>
 ∃c48:Array Value,c48.size=768/\(∀i,i<768->w.cell? (a1.add i)=c48[i]?)/\
 zQh p0 λa2=>
 stA prog 213 a2 c48 w λw3=>
 zQc prog ds w3 λw4=>
 zQh p0 λa5=>
 ∃cR0:Array Value,cR0.size=768/\(∀i,i<768->w4.cell? (a5.add i)=cR0[i]?)/\
 R (.returned (.agg cR0)) w4
def xWT (R:Rt) (J1:(Int)->World->Prop) (p0 p1:Option Addr) (n5:Int) (ds:Ds) (w:World):Prop:=
 Br (decide (n5<=239)) (
 zQh p1 λa6=>
 0<=(2:Int)/\(2:Int)<(3:Int)/\
 0<=n5/\n5<(256:Int)/\
 st1 ((a6.add ((2:Int).toNat * 256)).add (n5.toNat * 1)) (.int .i32 (IntKind.i32.wrap ((1088:Int)+(IntKind.i32.wrap (IntKind.i64.wrap (n5 - 224)))))) w λw7=>
 J1 (IntKind.i64.wrap (n5+1)) w7) (
 xZm R p0 p1 ds w)
def xW3(R:Rt)(p0 p1:Option Addr)(n5:Int)(ds:Ds)(w:World):Prop:=
 zQF (λ(J1:(Int)->World->Prop) (s:Int) (w:World)=>xWT R J1 p0 p1 s ds w) n5 w
def xJA(R:Rt)(p0 p1:Option Addr)(ds:Ds)(w:World):Prop:=
 xW3 R p0 p1 224 ds w
def xV1 (R:Rt) (J1:(Int)->World->Prop) (p0 p1:Option Addr) (n4:Int) (ds:Ds) (w:World):Prop:=
 Br (decide (n4<=175)) (
 zQh p1 λa8=>
 0<=(2:Int)/\(2:Int)<(3:Int)/\
 0<=n4/\n4<(256:Int)/\
 st1 ((a8.add ((2:Int).toNat * 256)).add (n4.toNat * 1)) (.int .i32 (IntKind.i32.wrap ((1040:Int)+(IntKind.i32.wrap (IntKind.i64.wrap (n4 - 128)))))) w λw9=>
 J1 (IntKind.i64.wrap (n4+1)) w9) (
 xJA R p0 p1 ds w)
def xKS(R:Rt)(p0 p1:Option Addr)(n4:Int)(ds:Ds)(w:World):Prop:=
 zQF (λ(J1:(Int)->World->Prop) (s:Int) (w:World)=>xV1 R J1 p0 p1 s ds w) n4 w
def xKq(R:Rt)(p0 p1:Option Addr)(ds:Ds)(w:World):Prop:=
 xKS R p0 p1 128 ds w
def xX2 (R:Rt) (J1:(Int)->World->Prop) (p0 p1:Option Addr) (n6:Int) (ds:Ds) (w:World):Prop:=
 Br (decide (n6<256)) (
 zQh p1 λeu=>
 0<=(1:Int)/\(1:Int)<(3:Int)/\
 0<=n6/\n6<(256:Int)/\
 st1 ((eu.add ((1:Int).toNat * 256)).add (n6.toNat * 1)) (.int .i32 (IntKind.i32.wrap n6)) w λaV=>
 Br (decide (n6 >= 128)) (
 zQh p1 λkQ=>
 0<=(0:Int)/\(0:Int)<(3:Int)/\
 0<=n6/\n6<(256:Int)/\
 st1 ((kQ.add ((0:Int).toNat * 256)).add (n6.toNat * 1)) (.int .i32 (-1)) aV λaI=>
 zQh p1 λga=>
 0<=(2:Int)/\(2:Int)<(3:Int)/\
 0<=n6/\n6<(256:Int)/\
 st1 ((ga.add ((2:Int).toNat * 256)).add (n6.toNat * 1)) (.int .i32 (-1)) aI λbr=>
 J1 (IntKind.i64.wrap (n6+1)) br) (
 zQh p1 λiJ=>
 0<=(0:Int)/\(0:Int)<(3:Int)/\
 0<=n6/\n6<(256:Int)/\
 st1 ((iJ.add ((0:Int).toNat * 256)).add (n6.toNat * 1)) (.int .i32 (IntKind.i32.wrap n6)) aV λbJ=>
 zQh p1 λjz=>
 0<=(2:Int)/\(2:Int)<(3:Int)/\
 0<=n6/\n6<(256:Int)/\
 st1 ((jz.add ((2:Int).toNat * 256)).add (n6.toNat * 1)) (.int .i32 (IntKind.i32.wrap n6)) bJ λcK=>
 J1 (IntKind.i64.wrap (n6+1)) cK)) (
 xKq R p0 p1 ds w)
def yYm(R:Rt)(p0 p1:Option Addr)(n6:Int)(ds:Ds)(w:World):Prop:=
 zQF (λ(J1:(Int)->World->Prop) (s:Int) (w:World)=>xX2 R J1 p0 p1 s ds w) n6 w
def xQS(R:Rt)(ds:Ds)(w:World):Prop:=
 alE (.cells (zc prog 213) 213) w λr0 cj=>
 alE (.cells (zc prog 213) 213) cj λr1 cr=>
 yYm R (some (⟨r0,0,none⟩:Addr)) (some (⟨r1,0,none⟩:Addr)) 0 ds cr
theorem F196_p:Pl prog f196 [] xQS:=λR=>
 pc 3 (rest [pS 0,pS 1,iS 6] (yYm R) (bk 0 (rest [pS 0,pS 1] (xKq R) (pc 1 (rest [pS 0,pS 1,iS 4] (xKS R) (bk 2 (rest [pS 0,pS 1] (xJA R) (pc 1 (rest [pS 0,pS 1,iS 5] (xW3 R) (bk 4 (rest [pS 0,pS 1] (xZm R) lf) (lp [iS 5] [pS 0,pS 1,iS 5] (xWT R) zXN λJ1=>lf))))) (lp [iS 4] [pS 0,pS 1,iS 4] (xV1 R) zXN λJ1=>lf))))) (lp [iS 6] [pS 0,pS 1,iS 6] (xX2 R) zXN λJ1=>lf)))
theorem yW7  (w:World) (R:Rt) (h:xQS R [] w):Calls prog 196 #[] w R:=
 plC F196_p func196 h
def xVT(R:Rt)(ds:Ds)(w:World):Prop:=
 zQc prog ds w λw1=>
 R (.returned (.bool true)) w1
def xWU (R:Rt) (J1:(Int)->World->Prop) (s0:ByteArray) (n1 n5:Int) (ds:Ds) (w:World):Prop:=
 Br (decide (n5<(s0.size:Int))) (
 ∃iE:UInt8,0<=n5/\s0[n5.toNat]?=some iE/\
 Calls prog 168 #[.int .u8 (iE.toNat:Int),.int .i64 n1] w λe w2=>
 ∃kb:Bool,e=.returned (.bool kb)/\
 Br (!kb) (
 zQc prog ds w2 λw3=>
 R (.returned (.bool false)) w3) (
 J1 (IntKind.i64.wrap (n5+1)) w2)) (
 xVT R ds w)
def xKU(R:Rt)(s0:ByteArray)(n1 n5:Int)(ds:Ds)(w:World):Prop:=
 zQF (λ(J1:(Int)->World->Prop) (s:Int) (w:World)=>xWU R J1 s0 n1 s ds w) n5 w
def xW0(R:Rt)(s0:ByteArray)(n1:Int)(ds:Ds)(w:World):Prop:=
 xKU R s0 n1 0 ds w
theorem F136_p:Pl prog f136 [sS 0,iS 1] xW0:=λR=>
 pc 2 (rest [sS 0,iS 1,iS 5] (xKU R) (bk 0 (rest [] (xVT R) lf) (lp [iS 5] [sS 0,iS 1,iS 5] (xWU R) zXN λJ1=>lf)))
theorem yWF (s0:ByteArray) (n1:Int) (w:World) (R:Rt) (h:xW0 R s0 n1 [] w):Calls prog 136 #[.string s0,.int .i64 n1] w R:=
 plC F136_p func136 h
def xVw(R:Rt)(n0 n1:Int)(ds:Ds)(w:World):Prop:=
 Br (n1 == 0) (
 zQc prog ds w λw1=>
 R (.returned (.bool (decide (n0<128)))) w1) (
 Br (n1 == 1) (
 zQc prog ds w λw2=>
 R (.returned (.bool true)) w2) (
 Br (decide (n0<176)) (
 zQc prog ds w λw3=>
 R (.returned (.bool true)) w3) (
 Br (decide (n0 >= 224)) (
 zQc prog ds w λw4=>
 R (.returned (.bool (decide (n0<240)))) w4) (
 zQc prog ds w λw5=>
 R (.returned (.bool false)) w5))))
theorem F168_p:Pl prog f168 [kS .u8 0,iS 1] xVw:=λR=>
 lf
theorem yWI (n0 n1:Int) (w:World) (R:Rt) (h:xVw R n0 n1 [] w):Calls prog 168 #[.int .u8 n0,.int .i64 n1] w R:=
 plC F168_p func168 h
end Go.Proofs.YtaeecpjhfmcliaaGreatDoor
/- Shallow texts of functions, printed by program, each checked by the kernel against the loaded code. No condition. -/
namespace Go.Proofs.YtaeecpjhfmcliaaGreatDoor
open Go.Sh Tryz
def F83_1(R:Rt)(n1:Int)(p3 p5 p6:Option Addr)(m8:Int)(ds:Ds)(w:World):Prop:=
 Br (m8 == 4) (
 zQh p5 λa1=>
 ∃s46,w.cell? (a1.add 2)=some (.string s46)/\
 zQh p5 λa2=>
 ∃s48,w.cell? (a2.add 2)=some (.string s48)/\
 zQh p3 λa3=>
 ∃o1,w.cell? (a3.add 2)=some (.int .i64 o1)/\
 ∃tT:Int,∃w4,(Builtin.min_ #[3,3] 3 #[.int .i64 (s48.size:Int),.int .i64 o1]).run prog w=.ok (.int .i64 tT) w4/\
 0<=tT/\tT.toNat<=s46.size/\0<=tT.toNat/\
 Calls prog 119 #[.string (s46.extract 0 tT.toNat),.string (⟨#[32]⟩:ByteArray)] w4 λe w5=>
 ∃pB:ByteArray,e=.returned (.string pB)/\
 zQh p5 λa6=>
 st1 (a6.add 2) (.string pB) w5 λw7=>
 zQh p5 λa8=>
 ∃yK,w7.cell? (a8.add 2)=some (.string yK)/\
 Calls prog 120 #[.string yK,.int .i64 n1] w7 λe w9=>
 ∃b59:Bool,e=.returned (.bool b59)/\
 Br (!b59) (
 zQh p6 λeu=>
 stA prog 73 eu #[.int .i64 0,.int .i64 0,.string (⟨#[]⟩:ByteArray)] w9 λaV=>
 zQc prog ds aV λaO=>
 zQh p6 λlq=>
 ∃ag,aO.cell? (lq.add 0)=some (.int .i64 ag)/\
 ∃aj,aO.cell? (lq.add 1)=some (.int .i64 aj)/\
 ∃ak,aO.cell? (lq.add 2)=some (.string ak)/\
 R (.returned (.tuple #[.agg #[.int .i64 ag,.int .i64 aj,.string ak],.int .i64 10])) aO) (
 zQh p5 λga=>
 ∃gp,w9.cell? (ga.add 0)=some (.int .i64 gp)/\
 ∃gq,w9.cell? (ga.add 1)=some (.int .i64 gq)/\
 ∃gr,w9.cell? (ga.add 2)=some (.string gr)/\
 zQh p6 λjA=>
 stA prog 73 jA #[.int .i64 gp,.int .i64 gq,.string gr] w9 λbI=>
 zQc prog ds bI λbJ=>
 zQh p6 λjz=>
 ∃ag,bJ.cell? (jz.add 0)=some (.int .i64 ag)/\
 ∃aj,bJ.cell? (jz.add 1)=some (.int .i64 aj)/\
 ∃ak,bJ.cell? (jz.add 2)=some (.string ak)/\
 R (.returned (.tuple #[.agg #[.int .i64 ag,.int .i64 aj,.string ak],.int .i64 0])) bJ)) (
 Br (m8 == 2) (
 zQh p5 λke=>
 ∃yL,w.cell? (ke.add 1)=some (.int .i64 yL)/\
 zQh p3 λa20=>
 ∃yM,w.cell? (a20.add 2)=some (.int .i64 yM)/\
 Calls prog 121 #[.int .i64 yL,.int .i64 yM] w λe cr=>
 ∃tU:ByteArray,∃tV:Int,e=.returned (.tuple #[.string tU,.int .i64 tV])/\
 Br (tV != 0) (
 zQh p6 λo2=>
 stA prog 73 o2 #[.int .i64 0,.int .i64 0,.string (⟨#[]⟩:ByteArray)] cr λdQ=>
 zQc prog ds dQ λdx=>
 zQh p6 λna=>
 ∃ag,dx.cell? (na.add 0)=some (.int .i64 ag)/\
 ∃aj,dx.cell? (na.add 1)=some (.int .i64 aj)/\
 ∃ak,dx.cell? (na.add 2)=some (.string ak)/\
 R (.returned (.tuple #[.agg #[.int .i64 ag,.int .i64 aj,.string ak],.int .i64 10])) dx) (
 Calls prog 122 #[.string tU,.string (⟨#[42]⟩:ByteArray)] cr λe fm=>
 ∃b76:Bool,e=.returned (.bool b76)/\
 Br b76 (
 zQh p6 λa27=>
 stA prog 73 a27 #[.int .i64 0,.int .i64 0,.string (⟨#[]⟩:ByteArray)] fm λcy=>
 zQc prog ds cy λgb=>
 zQh p6 λo3=>
 ∃ag,gb.cell? (o3.add 0)=some (.int .i64 ag)/\
 ∃aj,gb.cell? (o3.add 1)=some (.int .i64 aj)/\
 ∃ak,gb.cell? (o3.add 2)=some (.string ak)/\
 R (.returned (.tuple #[.agg #[.int .i64 ag,.int .i64 aj,.string ak],.int .i64 10])) gb) (
 zQh p5 λsX=>
 ∃gp,fm.cell? (sX.add 0)=some (.int .i64 gp)/\
 ∃gq,fm.cell? (sX.add 1)=some (.int .i64 gq)/\
 ∃gr,fm.cell? (sX.add 2)=some (.string gr)/\
 zQh p6 λsL=>
 stA prog 73 sL #[.int .i64 gp,.int .i64 gq,.string gr] fm λfW=>
 zQc prog ds fW λfo=>
 zQh p6 λsY=>
 ∃ag,fo.cell? (sY.add 0)=some (.int .i64 ag)/\
 ∃aj,fo.cell? (sY.add 1)=some (.int .i64 aj)/\
 ∃ak,fo.cell? (sY.add 2)=some (.string ak)/\
 R (.returned (.tuple #[.agg #[.int .i64 ag,.int .i64 aj,.string ak],.int .i64 0])) fo))) (
 Br (m8 == 5) (
 zQh p5 λqR=>
 ∃n82,w.cell? (qR.add 1)=some (.int .i64 n82)/\
 Br (decide (n82<0)) (
 zQh p6 λa37=>
 stA prog 73 a37 #[.int .i64 0,.int .i64 0,.string (⟨#[]⟩:ByteArray)] w λkR=>
 zQc prog ds kR λkW=>
 zQh p6 λsZ=>
 ∃ag,kW.cell? (sZ.add 0)=some (.int .i64 ag)/\
 ∃aj,kW.cell? (sZ.add 1)=some (.int .i64 aj)/\
 ∃ak,kW.cell? (sZ.add 2)=some (.string ak)/\
 R (.returned (.tuple #[.agg #[.int .i64 ag,.int .i64 aj,.string ak],.int .i64 10])) kW) (
 zQh p5 λyN=>
 ∃n86,w.cell? (yN.add 1)=some (.int .i64 n86)/\
 Br (decide (n86 > 99999999)) (
 zQh p6 λta=>
 stA prog 73 ta #[.int .i64 0,.int .i64 0,.string (⟨#[]⟩:ByteArray)] w λpC=>
 zQc prog ds pC λi9=>
 zQh p6 λxa=>
 ∃ag,i9.cell? (xa.add 0)=some (.int .i64 ag)/\
 ∃aj,i9.cell? (xa.add 1)=some (.int .i64 aj)/\
 ∃ak,i9.cell? (xa.add 2)=some (.string ak)/\
 R (.returned (.tuple #[.agg #[.int .i64 ag,.int .i64 aj,.string ak],.int .i64 10])) i9) (
 zQh p5 λa46=>
 ∃gp,w.cell? (a46.add 0)=some (.int .i64 gp)/\
 ∃gq,w.cell? (a46.add 1)=some (.int .i64 gq)/\
 ∃gr,w.cell? (a46.add 2)=some (.string gr)/\
 zQh p6 λyO=>
 stA prog 73 yO #[.int .i64 gp,.int .i64 gq,.string gr] w λkX=>
 zQc prog ds kX λrp=>
 zQh p6 λxb=>
 ∃ag,rp.cell? (xb.add 0)=some (.int .i64 ag)/\
 ∃aj,rp.cell? (xb.add 1)=some (.int .i64 aj)/\
 ∃ak,rp.cell? (xb.add 2)=some (.string ak)/\
 R (.returned (.tuple #[.agg #[.int .i64 ag,.int .i64 aj,.string ak],.int .i64 0])) rp))) (
 zQh p5 λa51=>
 ∃gp,w.cell? (a51.add 0)=some (.int .i64 gp)/\
 ∃gq,w.cell? (a51.add 1)=some (.int .i64 gq)/\
 ∃gr,w.cell? (a51.add 2)=some (.string gr)/\
 zQh p6 λxc=>
 stA prog 73 xc #[.int .i64 gp,.int .i64 gq,.string gr] w λrq=>
 zQc prog ds rq λtW=>
 zQh p6 λa55=>
 ∃ag,tW.cell? (a55.add 0)=some (.int .i64 ag)/\
 ∃aj,tW.cell? (a55.add 1)=some (.int .i64 aj)/\
 ∃ak,tW.cell? (a55.add 2)=some (.string ak)/\
 R (.returned (.tuple #[.agg #[.int .i64 ag,.int .i64 aj,.string ak],.int .i64 0])) tW)))
def F83_2(R:Rt)(aY:ByteArray)(aJ aZ:Int)(be:Bool)(n1 dm d8:Int)(eb:ByteArray)(ds:Ds)(w:World):Prop:=
 alE (.cells #[.string aY,.int .i64 aJ,.int .i64 aZ,.bool be] 129) w λr3 xd=>
 alE (.cells #[.int .i64 dm,.int .i64 d8,.string eb] 73) xd λr5 xe=>
 alE (.cells #[.int .i64 0,.int .i64 0,.string (⟨#[]⟩:ByteArray)] 73) xe λr6 qS=>
 ∃jB,qS.cell? ((⟨r3,0,none⟩:Addr).add 0)=some (.string jB)/\
 ∃dV,qS.cell? ((⟨r3,0,none⟩:Addr).add 1)=some (.int .i64 dV)/\
 ∃jC,qS.cell? ((⟨r3,0,none⟩:Addr).add 2)=some (.int .i64 jC)/\
 ∃jD,qS.cell? ((⟨r3,0,none⟩:Addr).add 3)=some (.bool jD)/\
 Calls prog 115 #[.agg #[.string jB,.int .i64 dV,.int .i64 jC,.bool jD]] qS λe nI=>
 ∃cN:Bool,e=.returned (.bool cN)/\
 Br (!cN) (
 stA prog 73 (⟨r6,0,none⟩:Addr) #[.int .i64 0,.int .i64 0,.string (⟨#[]⟩:ByteArray)] nI λpD=>
 zQc prog ds pD λqp=>
 ∃ag,qp.cell? ((⟨r6,0,none⟩:Addr).add 0)=some (.int .i64 ag)/\
 ∃aj,qp.cell? ((⟨r6,0,none⟩:Addr).add 1)=some (.int .i64 aj)/\
 ∃ak,qp.cell? ((⟨r6,0,none⟩:Addr).add 2)=some (.string ak)/\
 R (.returned (.tuple #[.agg #[.int .i64 ag,.int .i64 aj,.string ak],.int .i64 1])) qp) (
 Calls prog 116 #[.int .i64 n1] nI λe rt=>
 ∃kb:Bool,e=.returned (.bool kb)/\
 Br (!kb) (
 stA prog 73 (⟨r6,0,none⟩:Addr) #[.int .i64 0,.int .i64 0,.string (⟨#[]⟩:ByteArray)] rt λoU=>
 zQc prog ds oU λoV=>
 ∃ag,oV.cell? ((⟨r6,0,none⟩:Addr).add 0)=some (.int .i64 ag)/\
 ∃aj,oV.cell? ((⟨r6,0,none⟩:Addr).add 1)=some (.int .i64 aj)/\
 ∃ak,oV.cell? ((⟨r6,0,none⟩:Addr).add 2)=some (.string ak)/\
 R (.returned (.tuple #[.agg #[.int .i64 ag,.int .i64 aj,.string ak],.int .i64 1])) oV) (
 ∃gt,rt.cell? ((⟨r5,0,none⟩:Addr).add 0)=some (.int .i64 gt)/\
 ∃dW,rt.cell? ((⟨r5,0,none⟩:Addr).add 1)=some (.int .i64 dW)/\
 ∃gu,rt.cell? ((⟨r5,0,none⟩:Addr).add 2)=some (.string gu)/\
 Calls prog 117 #[.agg #[.int .i64 gt,.int .i64 dW,.string gu]] rt λe o4=>
 ∃kP:Int,e=.returned (.int .i64 kP)/\
 Br (kP != 0) (
 stA prog 73 (⟨r6,0,none⟩:Addr) #[.int .i64 0,.int .i64 0,.string (⟨#[]⟩:ByteArray)] o4 λpE=>
 zQc prog ds pE λw67=>
 ∃ag,w67.cell? ((⟨r6,0,none⟩:Addr).add 0)=some (.int .i64 ag)/\
 ∃aj,w67.cell? ((⟨r6,0,none⟩:Addr).add 1)=some (.int .i64 aj)/\
 ∃ak,w67.cell? ((⟨r6,0,none⟩:Addr).add 2)=some (.string ak)/\
 R (.returned (.tuple #[.agg #[.int .i64 ag,.int .i64 aj,.string ak],.int .i64 kP])) w67) (
 ∃gn,o4.cell? (⟨r5,0,none⟩:Addr)=some (.int .i64 gn)/\
 Br (gn == 0) (
 ∃tX,o4.cell? ((⟨r3,0,none⟩:Addr).add 3)=some (.bool tX)/\
 Br (!tX) (
 stA prog 73 (⟨r6,0,none⟩:Addr) #[.int .i64 0,.int .i64 0,.string (⟨#[]⟩:ByteArray)] o4 λyP=>
 zQc prog ds yP λtc=>
 ∃ag,tc.cell? ((⟨r6,0,none⟩:Addr).add 0)=some (.int .i64 ag)/\
 ∃aj,tc.cell? ((⟨r6,0,none⟩:Addr).add 1)=some (.int .i64 aj)/\
 ∃ak,tc.cell? ((⟨r6,0,none⟩:Addr).add 2)=some (.string ak)/\
 R (.returned (.tuple #[.agg #[.int .i64 ag,.int .i64 aj,.string ak],.int .i64 7])) tc) (
 ∃nJ,o4.cell? ((⟨r5,0,none⟩:Addr).add 0)=some (.int .i64 nJ)/\
 ∃nK,o4.cell? ((⟨r5,0,none⟩:Addr).add 1)=some (.int .i64 nK)/\
 ∃nL,o4.cell? ((⟨r5,0,none⟩:Addr).add 2)=some (.string nL)/\
 stA prog 73 (⟨r6,0,none⟩:Addr) #[.int .i64 nJ,.int .i64 nK,.string nL] o4 λyQ=>
 zQc prog ds yQ λqT=>
 ∃ag,qT.cell? ((⟨r6,0,none⟩:Addr).add 0)=some (.int .i64 ag)/\
 ∃aj,qT.cell? ((⟨r6,0,none⟩:Addr).add 1)=some (.int .i64 aj)/\
 ∃ak,qT.cell? ((⟨r6,0,none⟩:Addr).add 2)=some (.string ak)/\
 R (.returned (.tuple #[.agg #[.int .i64 ag,.int .i64 aj,.string ak],.int .i64 0])) qT)) (
 dwE o4 λyR=>
 ∃S1:World->Prop,S1 yR/\
 ∃tQ,(∀w',S1 w'->w'.cell? (⟨r5,0,none⟩:Addr)=some (.int .i64 tQ))/\
 ∃tY,(∀w',S1 w'->w'.cell? ((⟨r3,0,none⟩:Addr).add 0)=some (.string tY))/\
 ∃nM,(∀w',S1 w'->w'.cell? ((⟨r3,0,none⟩:Addr).add 1)=some (.int .i64 nM))/\
 ∃tZ,(∀w',S1 w'->w'.cell? ((⟨r3,0,none⟩:Addr).add 2)=some (.int .i64 tZ))/\
 ∃t6,(∀w',S1 w'->w'.cell? ((⟨r3,0,none⟩:Addr).add 3)=some (.bool t6))/\
 Calls prog 118 #[.agg #[.string tY,.int .i64 nM,.int .i64 tZ,.bool t6]] yR λe t7=>
 ∃gv:Int,∃yS:Int,∃yT:ByteArray,e=.returned (.agg #[.int .i64 gv,.int .i64 yS,.string yT])/\
 S1 t7/\
 Br (tQ != gv) (
 stA prog 73 (⟨r6,0,none⟩:Addr) #[.int .i64 0,.int .i64 0,.string (⟨#[]⟩:ByteArray)] t7 λxf=>
 zQc prog ds xf λo5=>
 ∃ag,o5.cell? ((⟨r6,0,none⟩:Addr).add 0)=some (.int .i64 ag)/\
 ∃aj,o5.cell? ((⟨r6,0,none⟩:Addr).add 1)=some (.int .i64 aj)/\
 ∃ak,o5.cell? ((⟨r6,0,none⟩:Addr).add 2)=some (.string ak)/\
 R (.returned (.tuple #[.agg #[.int .i64 ag,.int .i64 aj,.string ak],.int .i64 6])) o5) (
 ∃m8,t7.cell? ((⟨r3,0,none⟩:Addr).add 1)=some (.int .i64 m8)/\
 F83_1 R n1 (some (⟨r3,0,none⟩:Addr)) (some (⟨r5,0,none⟩:Addr)) (some (⟨r6,0,none⟩:Addr)) m8 ds t7)))))
theorem F83_p:Pl prog f83 [aS 0 [.str,.int .i64,.int .i64,.bool],iS 1,aS 2 [.int .i64,.int .i64,.str]] F83_2:=λR=>
 pc 11 (rest [iS 1,pS 3,pS 5,pS 6,iS 42] (F83_1 R) lf)
theorem yY6 (aY:ByteArray) (aJ aZ:Int) (be:Bool) (n1 dm d8:Int) (eb:ByteArray) (w:World) (R:Rt) (h:F83_2 R aY aJ aZ be n1 dm d8 eb [] w):Calls prog 83 #[.agg #[.string aY,.int .i64 aJ,.int .i64 aZ,.bool be],.int .i64 n1,.agg #[.int .i64 dm,.int .i64 d8,.string eb]] w R:=
 plC F83_p func83 h
def xWs(R:Rt)(aY:ByteArray)(aJ aZ:Int)(be:Bool)(n1 dm d8:Int)(eb:ByteArray)(ds:Ds)(w:World):Prop:=
 alE (.cells #[.string aY,.int .i64 aJ,.int .i64 aZ,.bool be] 129) w λr3 w1=>
 alE (.cells #[.int .i64 dm,.int .i64 d8,.string eb] 73) w1 λr5 w2=>
 alE (.cells #[.int .i64 0,.int .i64 0,.string (⟨#[]⟩:ByteArray)] 73) w2 λr6 w3=>
 ∃yU,w3.cell? ((⟨r3,0,none⟩:Addr).add 0)=some (.string yU)/\
 ∃ed,w3.cell? ((⟨r3,0,none⟩:Addr).add 1)=some (.int .i64 ed)/\
 ∃rv,w3.cell? ((⟨r3,0,none⟩:Addr).add 2)=some (.int .i64 rv)/\
 ∃yV,w3.cell? ((⟨r3,0,none⟩:Addr).add 3)=some (.bool yV)/\
 Calls prog 91 #[.agg #[.string yU,.int .i64 ed,.int .i64 rv,.bool yV]] w3 λe w4=>
 ∃dO:Bool,e=.returned (.bool dO)/\
 Br (!dO) (
 stA prog 73 (⟨r6,0,none⟩:Addr) #[.int .i64 0,.int .i64 0,.string (⟨#[]⟩:ByteArray)] w4 λw5=>
 zQc prog ds w5 λw6=>
 ∃ag,w6.cell? ((⟨r6,0,none⟩:Addr).add 0)=some (.int .i64 ag)/\
 ∃aj,w6.cell? ((⟨r6,0,none⟩:Addr).add 1)=some (.int .i64 aj)/\
 ∃ak,w6.cell? ((⟨r6,0,none⟩:Addr).add 2)=some (.string ak)/\
 R (.returned (.tuple #[.agg #[.int .i64 ag,.int .i64 aj,.string ak],.int .i64 1])) w6) (
 Calls prog 52 #[.int .i64 n1] w4 λe w7=>
 ∃iE:Bool,e=.returned (.bool iE)/\
 Br (!iE) (
 stA prog 73 (⟨r6,0,none⟩:Addr) #[.int .i64 0,.int .i64 0,.string (⟨#[]⟩:ByteArray)] w7 λw8=>
 zQc prog ds w8 λw9=>
 ∃ag,w9.cell? ((⟨r6,0,none⟩:Addr).add 0)=some (.int .i64 ag)/\
 ∃aj,w9.cell? ((⟨r6,0,none⟩:Addr).add 1)=some (.int .i64 aj)/\
 ∃ak,w9.cell? ((⟨r6,0,none⟩:Addr).add 2)=some (.string ak)/\
 R (.returned (.tuple #[.agg #[.int .i64 ag,.int .i64 aj,.string ak],.int .i64 1])) w9) (
 ∃gw,w7.cell? ((⟨r5,0,none⟩:Addr).add 0)=some (.int .i64 gw)/\
 ∃gf,w7.cell? ((⟨r5,0,none⟩:Addr).add 1)=some (.int .i64 gf)/\
 ∃t8,w7.cell? ((⟨r5,0,none⟩:Addr).add 2)=some (.string t8)/\
 Calls prog 132 #[.agg #[.int .i64 gw,.int .i64 gf,.string t8]] w7 λe aN=>
 ∃ja:Int,e=.returned (.int .i64 ja)/\
 Br (ja != 0) (
 stA prog 73 (⟨r6,0,none⟩:Addr) #[.int .i64 0,.int .i64 0,.string (⟨#[]⟩:ByteArray)] aN λaV=>
 zQc prog ds aV λaO=>
 ∃ag,aO.cell? ((⟨r6,0,none⟩:Addr).add 0)=some (.int .i64 ag)/\
 ∃aj,aO.cell? ((⟨r6,0,none⟩:Addr).add 1)=some (.int .i64 aj)/\
 ∃ak,aO.cell? ((⟨r6,0,none⟩:Addr).add 2)=some (.string ak)/\
 R (.returned (.tuple #[.agg #[.int .i64 ag,.int .i64 aj,.string ak],.int .i64 ja])) aO) (
 ∃nN,aN.cell? ((⟨r3,0,none⟩:Addr).add 0)=some (.string nN)/\
 ∃jE,aN.cell? ((⟨r3,0,none⟩:Addr).add 1)=some (.int .i64 jE)/\
 ∃nO,aN.cell? ((⟨r3,0,none⟩:Addr).add 2)=some (.int .i64 nO)/\
 ∃nP,aN.cell? ((⟨r3,0,none⟩:Addr).add 3)=some (.bool nP)/\
 ∃eM,aN.cell? ((⟨r5,0,none⟩:Addr).add 0)=some (.int .i64 eM)/\
 ∃fp,aN.cell? ((⟨r5,0,none⟩:Addr).add 1)=some (.int .i64 fp)/\
 ∃ua,aN.cell? ((⟨r5,0,none⟩:Addr).add 2)=some (.string ua)/\
 Calls prog 139 #[.agg #[.string nN,.int .i64 jE,.int .i64 nO,.bool nP],.int .i64 n1,.agg #[.int .i64 eM,.int .i64 fp,.string ua]] aN λe aI=>
 ∃pF:Int,∃pG:Int,∃pH:ByteArray,∃ub:Int,e=.returned (.tuple #[.agg #[.int .i64 pF,.int .i64 pG,.string pH],.int .i64 ub])/\
 stA prog 73 (⟨r6,0,none⟩:Addr) #[.int .i64 pF,.int .i64 pG,.string pH] aI λbt=>
 zQc prog ds bt λbr=>
 ∃ag,br.cell? ((⟨r6,0,none⟩:Addr).add 0)=some (.int .i64 ag)/\
 ∃aj,br.cell? ((⟨r6,0,none⟩:Addr).add 1)=some (.int .i64 aj)/\
 ∃ak,br.cell? ((⟨r6,0,none⟩:Addr).add 2)=some (.string ak)/\
 R (.returned (.tuple #[.agg #[.int .i64 ag,.int .i64 aj,.string ak],.int .i64 ub])) br)))
theorem F104_p:Pl prog f104 [aS 0 [.str,.int .i64,.int .i64,.bool],iS 1,aS 2 [.int .i64,.int .i64,.str]] xWs:=λR=>
 lf
theorem yVB (aY:ByteArray) (aJ aZ:Int) (be:Bool) (n1 dm d8:Int) (eb:ByteArray) (w:World) (R:Rt) (h:xWs R aY aJ aZ be n1 dm d8 eb [] w):Calls prog 104 #[.agg #[.string aY,.int .i64 aJ,.int .i64 aZ,.bool be],.int .i64 n1,.agg #[.int .i64 dm,.int .i64 d8,.string eb]] w R:=
 plC F104_p func104 h
def xJY(R:Rt)(aY:ByteArray)(aJ aZ:Int)(be:Bool)(n1 dm d8:Int)(eb:ByteArray)(ds:Ds)(w:World):Prop:=
 alE (.cells #[.string aY,.int .i64 aJ,.int .i64 aZ,.bool be] 129) w λr3 w1=>
 alE (.cells #[.int .i64 dm,.int .i64 d8,.string eb] 73) w1 λr5 w2=>
 alE (.cells #[.int .i64 0,.int .i64 0,.string (⟨#[]⟩:ByteArray)] 73) w2 λr6 w3=>
 ∃dC,w3.cell? (⟨r5,0,none⟩:Addr)=some (.int .i64 dC)/\
 Br (dC == 0) (
 ∃iE,w3.cell? ((⟨r3,0,none⟩:Addr).add 3)=some (.bool iE)/\
 Br (!iE) (
 stA prog 73 (⟨r6,0,none⟩:Addr) #[.int .i64 0,.int .i64 0,.string (⟨#[]⟩:ByteArray)] w3 λw4=>
 zQc prog ds w4 λw5=>
 ∃ag,w5.cell? ((⟨r6,0,none⟩:Addr).add 0)=some (.int .i64 ag)/\
 ∃aj,w5.cell? ((⟨r6,0,none⟩:Addr).add 1)=some (.int .i64 aj)/\
 ∃ak,w5.cell? ((⟨r6,0,none⟩:Addr).add 2)=some (.string ak)/\
 R (.returned (.tuple #[.agg #[.int .i64 ag,.int .i64 aj,.string ak],.int .i64 7])) w5) (
 ∃gx,w3.cell? ((⟨r5,0,none⟩:Addr).add 0)=some (.int .i64 gx)/\
 ∃iy,w3.cell? ((⟨r5,0,none⟩:Addr).add 1)=some (.int .i64 iy)/\
 ∃uc,w3.cell? ((⟨r5,0,none⟩:Addr).add 2)=some (.string uc)/\
 stA prog 73 (⟨r6,0,none⟩:Addr) #[.int .i64 gx,.int .i64 iy,.string uc] w3 λw6=>
 zQc prog ds w6 λw7=>
 ∃ag,w7.cell? ((⟨r6,0,none⟩:Addr).add 0)=some (.int .i64 ag)/\
 ∃aj,w7.cell? ((⟨r6,0,none⟩:Addr).add 1)=some (.int .i64 aj)/\
 ∃ak,w7.cell? ((⟨r6,0,none⟩:Addr).add 2)=some (.string ak)/\
 R (.returned (.tuple #[.agg #[.int .i64 ag,.int .i64 aj,.string ak],.int .i64 0])) w7)) (
 ∃ja,w3.cell? ((⟨r3,0,none⟩:Addr).add 1)=some (.int .i64 ja)/\
 Br (ja == 5) (
 ∃i5,w3.cell? (⟨r5,0,none⟩:Addr)=some (.int .i64 i5)/\
 Br (i5 != 2) (
 stA prog 73 (⟨r6,0,none⟩:Addr) #[.int .i64 0,.int .i64 0,.string (⟨#[]⟩:ByteArray)] w3 λw8=>
 zQc prog ds w8 λw9=>
 ∃ag,w9.cell? ((⟨r6,0,none⟩:Addr).add 0)=some (.int .i64 ag)/\
 ∃aj,w9.cell? ((⟨r6,0,none⟩:Addr).add 1)=some (.int .i64 aj)/\
 ∃ak,w9.cell? ((⟨r6,0,none⟩:Addr).add 2)=some (.string ak)/\
 R (.returned (.tuple #[.agg #[.int .i64 ag,.int .i64 aj,.string ak],.int .i64 6])) w9) (
 ∃kO,w3.cell? ((⟨r3,0,none⟩:Addr).add 1)=some (.int .i64 kO)/\
 Br (kO == 4) (
 ∃rx,w3.cell? ((⟨r5,0,none⟩:Addr).add 2)=some (.string rx)/\
 ∃ud,w3.cell? ((⟨r5,0,none⟩:Addr).add 2)=some (.string ud)/\
 ∃j3,w3.cell? ((⟨r3,0,none⟩:Addr).add 2)=some (.int .i64 j3)/\
 ∃iw:Int,∃aN,(Builtin.min_ #[3,3] 3 #[.int .i64 (ud.size:Int),.int .i64 j3]).run prog w3=.ok (.int .i64 iw) aN/\
 0<=iw/\iw.toNat<=rx.size/\0<=iw.toNat/\
 Calls prog 135 #[.string (rx.extract 0 iw.toNat)] aN λe aV=>
 ∃rz:ByteArray,e=.returned (.string rz)/\
 Calls prog 136 #[.string rz,.int .i64 n1] aV λe aO=>
 ∃rm:Bool,e=.returned (.bool rm)/\
 Br (!rm) (
 stA prog 73 (⟨r6,0,none⟩:Addr) #[.int .i64 0,.int .i64 0,.string (⟨#[]⟩:ByteArray)] aO λaI=>
 zQc prog ds aI λbt=>
 ∃ag,bt.cell? ((⟨r6,0,none⟩:Addr).add 0)=some (.int .i64 ag)/\
 ∃aj,bt.cell? ((⟨r6,0,none⟩:Addr).add 1)=some (.int .i64 aj)/\
 ∃ak,bt.cell? ((⟨r6,0,none⟩:Addr).add 2)=some (.string ak)/\
 R (.returned (.tuple #[.agg #[.int .i64 ag,.int .i64 aj,.string ak],.int .i64 10])) bt) (
 Calls prog 177 #[.string rz] aO λe br=>
 ∃gg:Int,∃gh:Int,∃gi:ByteArray,e=.returned (.agg #[.int .i64 gg,.int .i64 gh,.string gi])/\
 stA prog 73 (⟨r6,0,none⟩:Addr) #[.int .i64 gg,.int .i64 gh,.string gi] br λbI=>
 zQc prog ds bI λbJ=>
 ∃ag,bJ.cell? ((⟨r6,0,none⟩:Addr).add 0)=some (.int .i64 ag)/\
 ∃aj,bJ.cell? ((⟨r6,0,none⟩:Addr).add 1)=some (.int .i64 aj)/\
 ∃ak,bJ.cell? ((⟨r6,0,none⟩:Addr).add 2)=some (.string ak)/\
 R (.returned (.tuple #[.agg #[.int .i64 ag,.int .i64 aj,.string ak],.int .i64 0])) bJ)) (
 ∃jF,w3.cell? ((⟨r3,0,none⟩:Addr).add 0)=some (.string jF)/\
 ∃cF,w3.cell? ((⟨r3,0,none⟩:Addr).add 1)=some (.int .i64 cF)/\
 ∃jG,w3.cell? ((⟨r3,0,none⟩:Addr).add 2)=some (.int .i64 jG)/\
 ∃jH,w3.cell? ((⟨r3,0,none⟩:Addr).add 3)=some (.bool jH)/\
 ∃gy,w3.cell? ((⟨r5,0,none⟩:Addr).add 0)=some (.int .i64 gy)/\
 ∃jI,w3.cell? ((⟨r5,0,none⟩:Addr).add 1)=some (.int .i64 jI)/\
 ∃jJ,w3.cell? ((⟨r5,0,none⟩:Addr).add 2)=some (.string jJ)/\
 Calls prog 93 #[.agg #[.string jF,.int .i64 cF,.int .i64 jG,.bool jH],.int .i64 n1,.agg #[.int .i64 gy,.int .i64 jI,.string jJ]] w3 λe bR=>
 ∃ue:Bool,e=.returned (.bool ue)/\
 Br (!ue) (
 stA prog 73 (⟨r6,0,none⟩:Addr) #[.int .i64 0,.int .i64 0,.string (⟨#[]⟩:ByteArray)] bR λcK=>
 zQc prog ds cK λcj=>
 ∃ag,cj.cell? ((⟨r6,0,none⟩:Addr).add 0)=some (.int .i64 ag)/\
 ∃aj,cj.cell? ((⟨r6,0,none⟩:Addr).add 1)=some (.int .i64 aj)/\
 ∃ak,cj.cell? ((⟨r6,0,none⟩:Addr).add 2)=some (.string ak)/\
 R (.returned (.tuple #[.agg #[.int .i64 ag,.int .i64 aj,.string ak],.int .i64 10])) cj) (
 ∃eO,bR.cell? ((⟨r5,0,none⟩:Addr).add 0)=some (.int .i64 eO)/\
 ∃eQ,bR.cell? ((⟨r5,0,none⟩:Addr).add 1)=some (.int .i64 eQ)/\
 ∃jK,bR.cell? ((⟨r5,0,none⟩:Addr).add 2)=some (.string jK)/\
 stA prog 73 (⟨r6,0,none⟩:Addr) #[.int .i64 eO,.int .i64 eQ,.string jK] bR λcr=>
 zQc prog ds cr λdX=>
 ∃ag,dX.cell? ((⟨r6,0,none⟩:Addr).add 0)=some (.int .i64 ag)/\
 ∃aj,dX.cell? ((⟨r6,0,none⟩:Addr).add 1)=some (.int .i64 aj)/\
 ∃ak,dX.cell? ((⟨r6,0,none⟩:Addr).add 2)=some (.string ak)/\
 R (.returned (.tuple #[.agg #[.int .i64 ag,.int .i64 aj,.string ak],.int .i64 0])) dX)))) (
 ∃i5,w3.cell? (⟨r5,0,none⟩:Addr)=some (.int .i64 i5)/\
 Br (i5 != ja) (
 stA prog 73 (⟨r6,0,none⟩:Addr) #[.int .i64 0,.int .i64 0,.string (⟨#[]⟩:ByteArray)] w3 λdQ=>
 zQc prog ds dQ λdx=>
 ∃ag,dx.cell? ((⟨r6,0,none⟩:Addr).add 0)=some (.int .i64 ag)/\
 ∃aj,dx.cell? ((⟨r6,0,none⟩:Addr).add 1)=some (.int .i64 aj)/\
 ∃ak,dx.cell? ((⟨r6,0,none⟩:Addr).add 2)=some (.string ak)/\
 R (.returned (.tuple #[.agg #[.int .i64 ag,.int .i64 aj,.string ak],.int .i64 6])) dx) (
 ∃kO,w3.cell? ((⟨r3,0,none⟩:Addr).add 1)=some (.int .i64 kO)/\
 Br (kO == 4) (
 ∃rx,w3.cell? ((⟨r5,0,none⟩:Addr).add 2)=some (.string rx)/\
 ∃ud,w3.cell? ((⟨r5,0,none⟩:Addr).add 2)=some (.string ud)/\
 ∃j3,w3.cell? ((⟨r3,0,none⟩:Addr).add 2)=some (.int .i64 j3)/\
 ∃iw:Int,∃gj,(Builtin.min_ #[3,3] 3 #[.int .i64 (ud.size:Int),.int .i64 j3]).run prog w3=.ok (.int .i64 iw) gj/\
 0<=iw/\iw.toNat<=rx.size/\0<=iw.toNat/\
 Calls prog 135 #[.string (rx.extract 0 iw.toNat)] gj λe fm=>
 ∃rz:ByteArray,e=.returned (.string rz)/\
 Calls prog 136 #[.string rz,.int .i64 n1] fm λe gS=>
 ∃rm:Bool,e=.returned (.bool rm)/\
 Br (!rm) (
 stA prog 73 (⟨r6,0,none⟩:Addr) #[.int .i64 0,.int .i64 0,.string (⟨#[]⟩:ByteArray)] gS λcy=>
 zQc prog ds cy λgb=>
 ∃ag,gb.cell? ((⟨r6,0,none⟩:Addr).add 0)=some (.int .i64 ag)/\
 ∃aj,gb.cell? ((⟨r6,0,none⟩:Addr).add 1)=some (.int .i64 aj)/\
 ∃ak,gb.cell? ((⟨r6,0,none⟩:Addr).add 2)=some (.string ak)/\
 R (.returned (.tuple #[.agg #[.int .i64 ag,.int .i64 aj,.string ak],.int .i64 10])) gb) (
 Calls prog 177 #[.string rz] gS λe gT=>
 ∃gg:Int,∃gh:Int,∃gi:ByteArray,e=.returned (.agg #[.int .i64 gg,.int .i64 gh,.string gi])/\
 stA prog 73 (⟨r6,0,none⟩:Addr) #[.int .i64 gg,.int .i64 gh,.string gi] gT λfX=>
 zQc prog ds fX λgz=>
 ∃ag,gz.cell? ((⟨r6,0,none⟩:Addr).add 0)=some (.int .i64 ag)/\
 ∃aj,gz.cell? ((⟨r6,0,none⟩:Addr).add 1)=some (.int .i64 aj)/\
 ∃ak,gz.cell? ((⟨r6,0,none⟩:Addr).add 2)=some (.string ak)/\
 R (.returned (.tuple #[.agg #[.int .i64 ag,.int .i64 aj,.string ak],.int .i64 0])) gz)) (
 ∃jF,w3.cell? ((⟨r3,0,none⟩:Addr).add 0)=some (.string jF)/\
 ∃cF,w3.cell? ((⟨r3,0,none⟩:Addr).add 1)=some (.int .i64 cF)/\
 ∃jG,w3.cell? ((⟨r3,0,none⟩:Addr).add 2)=some (.int .i64 jG)/\
 ∃jH,w3.cell? ((⟨r3,0,none⟩:Addr).add 3)=some (.bool jH)/\
 ∃gy,w3.cell? ((⟨r5,0,none⟩:Addr).add 0)=some (.int .i64 gy)/\
 ∃jI,w3.cell? ((⟨r5,0,none⟩:Addr).add 1)=some (.int .i64 jI)/\
 ∃jJ,w3.cell? ((⟨r5,0,none⟩:Addr).add 2)=some (.string jJ)/\
 Calls prog 93 #[.agg #[.string jF,.int .i64 cF,.int .i64 jG,.bool jH],.int .i64 n1,.agg #[.int .i64 gy,.int .i64 jI,.string jJ]] w3 λe fW=>
 ∃ue:Bool,e=.returned (.bool ue)/\
 Br (!ue) (
 stA prog 73 (⟨r6,0,none⟩:Addr) #[.int .i64 0,.int .i64 0,.string (⟨#[]⟩:ByteArray)] fW λfo=>
 zQc prog ds fo λiN=>
 ∃ag,iN.cell? ((⟨r6,0,none⟩:Addr).add 0)=some (.int .i64 ag)/\
 ∃aj,iN.cell? ((⟨r6,0,none⟩:Addr).add 1)=some (.int .i64 aj)/\
 ∃ak,iN.cell? ((⟨r6,0,none⟩:Addr).add 2)=some (.string ak)/\
 R (.returned (.tuple #[.agg #[.int .i64 ag,.int .i64 aj,.string ak],.int .i64 10])) iN) (
 ∃eO,fW.cell? ((⟨r5,0,none⟩:Addr).add 0)=some (.int .i64 eO)/\
 ∃eQ,fW.cell? ((⟨r5,0,none⟩:Addr).add 1)=some (.int .i64 eQ)/\
 ∃jK,fW.cell? ((⟨r5,0,none⟩:Addr).add 2)=some (.string jK)/\
 stA prog 73 (⟨r6,0,none⟩:Addr) #[.int .i64 eO,.int .i64 eQ,.string jK] fW λqU=>
 zQc prog ds qU λnc=>
 ∃ag,nc.cell? ((⟨r6,0,none⟩:Addr).add 0)=some (.int .i64 ag)/\
 ∃aj,nc.cell? ((⟨r6,0,none⟩:Addr).add 1)=some (.int .i64 aj)/\
 ∃ak,nc.cell? ((⟨r6,0,none⟩:Addr).add 2)=some (.string ak)/\
 R (.returned (.tuple #[.agg #[.int .i64 ag,.int .i64 aj,.string ak],.int .i64 0])) nc)))))
theorem F139_p:Pl prog f139 [aS 0 [.str,.int .i64,.int .i64,.bool],iS 1,aS 2 [.int .i64,.int .i64,.str]] xJY:=λR=>
 lf
theorem yW3 (aY:ByteArray) (aJ aZ:Int) (be:Bool) (n1 dm d8:Int) (eb:ByteArray) (w:World) (R:Rt) (h:xJY R aY aJ aZ be n1 dm d8 eb [] w):Calls prog 139 #[.agg #[.string aY,.int .i64 aJ,.int .i64 aZ,.bool be],.int .i64 n1,.agg #[.int .i64 dm,.int .i64 d8,.string eb]] w R:=
 plC F139_p func139 h
def F93_1(R:Rt)(aY:ByteArray)(aJ aZ:Int)(be:Bool)(n1 dm d8:Int)(eb:ByteArray)(ds:Ds)(w:World):Prop:=
 alE (.cells #[.string aY,.int .i64 aJ,.int .i64 aZ,.bool be] 129) w λr3 w1=>
 alE (.cells #[.int .i64 dm,.int .i64 d8,.string eb] 73) w1 λr5 w2=>
 ∃eD,w2.cell? ((⟨r5,0,none⟩:Addr).add 0)=some (.int .i64 eD)/\
 ∃eE,w2.cell? ((⟨r5,0,none⟩:Addr).add 1)=some (.int .i64 eE)/\
 ∃rk,w2.cell? ((⟨r5,0,none⟩:Addr).add 2)=some (.string rk)/\
 Calls prog 132 #[.agg #[.int .i64 eD,.int .i64 eE,.string rk]] w2 λe w3=>
 ∃n8:Int,e=.returned (.int .i64 n8)/\
 Br (n8 != 0) (
 zQc prog ds w3 λw4=>
 R (.returned (.bool false)) w4) (
 ∃dy,w3.cell? (⟨r5,0,none⟩:Addr)=some (.int .i64 dy)/\
 Br (dy == 0) (
 ∃j4,w3.cell? ((⟨r3,0,none⟩:Addr).add 3)=some (.bool j4)/\
 zQc prog ds w3 λw5=>
 R (.returned (.bool j4)) w5) (
 ∃iI,w3.cell? ((⟨r3,0,none⟩:Addr).add 1)=some (.int .i64 iI)/\
 Br (iI == 5) (
 ∃kP,w3.cell? (⟨r5,0,none⟩:Addr)=some (.int .i64 kP)/\
 Br (kP == 2) (
 ∃cn,w3.cell? ((⟨r5,0,none⟩:Addr).add 1)=some (.int .i64 cn)/\
 Calls prog 133 #[.int .i64 cn] w3 λe w6=>
 ∃o6:Bool,e=.returned (.bool o6)/\
 zQc prog ds w6 λw7=>
 R (.returned (.bool o6)) w7) (
 zQc prog ds w3 λw8=>
 R (.returned (.bool false)) w8)) (
 ∃rA,w3.cell? (⟨r5,0,none⟩:Addr)=some (.int .i64 rA)/\
 ∃nD,w3.cell? ((⟨r3,0,none⟩:Addr).add 1)=some (.int .i64 nD)/\
 Br (rA != nD) (
 zQc prog ds w3 λw9=>
 R (.returned (.bool false)) w9) (
 ∃j3,w3.cell? ((⟨r3,0,none⟩:Addr).add 1)=some (.int .i64 j3)/\
 Br (j3 == 2) (
 dwE w3 λaN=>
 ∃S1:World->Prop,S1 aN/\
 ∃eJ,(∀w',S1 w'->w'.cell? ((⟨r5,0,none⟩:Addr).add 1)=some (.int .i64 eJ))/\
 ∃ez,(∀w',S1 w'->w'.cell? ((⟨r3,0,none⟩:Addr).add 2)=some (.int .i64 ez))/\
 Calls prog 134 #[.int .i64 eJ] aN λe aV=>
 ∃s40:ByteArray,e=.returned (.string s40)/\
 S1 aV/\
 zQc prog ds aV λaO=>
 R (.returned (.bool (decide ((s40.size:Int)<=ez)))) aO) (
 ∃yW,w3.cell? ((⟨r3,0,none⟩:Addr).add 1)=some (.int .i64 yW)/\
 Br (yW == 4) (
 dwE w3 λaI=>
 ∃S2:World->Prop,S2 aI/\
 ∃s50,(∀w',S2 w'->w'.cell? ((⟨r5,0,none⟩:Addr).add 2)=some (.string s50))/\
 ∃lr,(∀w',S2 w'->w'.cell? ((⟨r3,0,none⟩:Addr).add 2)=some (.int .i64 lr))/\
 Br (decide ((s50.size:Int)<=lr)) (
 ∃yK,(∀w',S2 w'->w'.cell? ((⟨r5,0,none⟩:Addr).add 2)=some (.string yK))/\
 ∃s60,(∀w',S2 w'->w'.cell? ((⟨r5,0,none⟩:Addr).add 2)=some (.string s60))/\
 Calls prog 135 #[.string yK] aI λe bt=>
 ∃s58:ByteArray,e=.returned (.string s58)/\
 S2 bt/\
 Br (s58.toList == s60.toList) (
 ∃s65,(∀w',S2 w'->w'.cell? ((⟨r5,0,none⟩:Addr).add 2)=some (.string s65))/\
 Calls prog 136 #[.string s65,.int .i64 n1] bt λe br=>
 ∃uf:Bool,e=.returned (.bool uf)/\
 zQc prog ds br λbI=>
 R (.returned (.bool uf)) bI) (
 zQc prog ds bt λbJ=>
 R (.returned (.bool false)) bJ)) (
 zQc prog ds aI λbR=>
 R (.returned (.bool false)) bR)) (
 zQc prog ds w3 λcK=>
 R (.returned (.bool true)) cK))))))
theorem F93_p:Pl prog f93 [aS 0 [.str,.int .i64,.int .i64,.bool],iS 1,aS 2 [.int .i64,.int .i64,.str]] F93_1:=λR=>
 lf
theorem xXj (aY:ByteArray) (aJ aZ:Int) (be:Bool) (n1 dm d8:Int) (eb:ByteArray) (w:World) (R:Rt) (h:F93_1 R aY aJ aZ be n1 dm d8 eb [] w):Calls prog 93 #[.agg #[.string aY,.int .i64 aJ,.int .i64 aZ,.bool be],.int .i64 n1,.agg #[.int .i64 dm,.int .i64 d8,.string eb]] w R:=
 plC F93_p func93 h
def xYc(R:Rt)(n0:Int)(ds:Ds)(w:World):Prop:=
 Br (decide (n0 >= 0)) (
 zQc prog ds w λw1=>
 R (.returned (.bool (decide (n0<=99999999)))) w1) (
 zQc prog ds w λw2=>
 R (.returned (.bool false)) w2)
theorem F133_p:Pl prog f133 [iS 0] xYc:=λR=>
 lf
theorem yWB (n0:Int) (w:World) (R:Rt) (h:xYc R n0 [] w):Calls prog 133 #[.int .i64 n0] w R:=
 plC F133_p func133 h
end Go.Proofs.YtaeecpjhfmcliaaGreatDoor
/- Shallow texts of functions, printed by program, each checked by the kernel against the loaded code. No condition. -/
namespace Go.Proofs.YtaeecpjhfmcliaaGreatDoor
open Go.Sh Tryz
def xV2(R:Rt)(l0:SV)(ds:Ds)(w:World):Prop:=
 Br (decide ((l0.len:Int) > 16)) (
 zQc prog ds w λw1=>
 R (.returned (.int .i64 3)) w1) (
 Calls prog 161 #[l0.v] w λe w2=>
 ∃kV:Int,e=.returned (.int .i64 kV)/\
 Br (decide (kV > 2000)) (
 zQc prog ds w2 λw3=>
 R (.returned (.int .i64 3)) w3) (
 zQc prog ds w2 λw4=>
 R (.returned (.int .i64 0)) w4))
def xVs (R:Rt) (J1:(Int)->World->Prop) (l0:SV) (m3:Option Nat) (aW:SV) (kv n16:Int) (ds:Ds) (w:World):Prop:=
 Br (decide (n16<kv)) (
 ∃a5,aW.a=some a5/\0<=n16/\n16<(aW.len:Int)/\
 ∃jL,w.cell? ((a5.add (n16.toNat * 4)).add 0)=some (.string jL)/\
 ∃bT,w.cell? ((a5.add (n16.toNat * 4)).add 1)=some (.int .i64 bT)/\
 ∃jM,w.cell? ((a5.add (n16.toNat * 4)).add 2)=some (.int .i64 jM)/\
 ∃gA,w.cell? ((a5.add (n16.toNat * 4)).add 3)=some (.bool gA)/\
 alE (.cells #[.string (⟨#[]⟩:ByteArray),.int .i64 0,.int .i64 0,.bool false] 129) w λr5 w6=>
 stA prog 129 (⟨r5,0,none⟩:Addr) #[.string jL,.int .i64 bT,.int .i64 jM,.bool gA] w6 λw7=>
 ∃ya,w7.cell? (⟨r5,0,none⟩:Addr)=some (.string ya)/\
 ∃qq:Bool,∃w8,(Instr.lookup 206 (.map m3) (.string ya) false).run prog w7=.ok (.bool qq) w8/\
 Br qq (
 zQc prog ds w8 λw9=>
 R (.returned (.int .i64 5)) w9) (
 ∃s26,w8.cell? (⟨r5,0,none⟩:Addr)=some (.string s26)/\
 doE prog (Instr.mapUpdate 206 (.map m3) (.string s26) (.bool true)) w8 λaN=>
 J1 (IntKind.i64.wrap (n16+1)) aN)) (
 xV2 R l0 ds w)
def xKn(R:Rt)(l0:SV)(m3:Option Nat)(aW:SV)(kv n16:Int)(ds:Ds)(w:World):Prop:=
 zQF (λ(J1:(Int)->World->Prop) (s:Int) (w:World)=>xVs R J1 l0 m3 aW kv s ds w) n16 w
def xW1(R:Rt)(l0:SV)(ds:Ds)(w:World):Prop:=
 Br ((l0.len:Int) == 0) (
 zQc prog ds w λaV=>
 R (.returned (.int .i64 1)) aV) (
 Calls prog 178 #[l0.v,.func (.func 179) #[] #[]] w λe aO=>
 ∃qt:Bool,e=.returned (.bool qt)/\
 Br qt (
 zQc prog ds aO λaI=>
 R (.returned (.int .i64 1)) aI) (
 alE (.map #[] 0) aO λkT bt=>
 xKn R l0 (some kT) l0 (l0.len:Int) 0 ds bt))
theorem F141_p:Pl prog f141 [lS 0] xW1:=λR=>
 pc 5 (rest [lS 0,mS 3,lS 14,iS 15,iS 16] (xKn R) (bk 0 (rest [lS 0] (xV2 R) lf) (lp [iS 16] [lS 0,mS 3,lS 14,iS 15,iS 16] (xVs R) zXN λJ1=>lf)))
theorem yWj (l0:SV) (w:World) (R:Rt) (h:xW1 R l0 [] w):Calls prog 141 #[l0.v] w R:=
 plC F141_p func141 h
def xJE(R:Rt)(l0:SV)(v1:Value)(ds:Ds)(w:World):Prop:=
 Calls prog 113 #[l0.v,v1] w λe w1=>
 ∃n7:Int,e=.returned (.int .i64 n7)/\
 zQc prog ds w1 λw2=>
 R (.returned (.bool (decide (n7 >= 0)))) w2
theorem F178_p:Pl prog f178 [lS 0,vS 1] xJE:=λR=>
 lf
theorem yVv (l0:SV) (v1:Value) (w:World) (R:Rt) (h:xJE R l0 v1 [] w):Calls prog 178 #[l0.v,v1] w R:=
 plC F178_p func178 h
def xKd(R:Rt)(aY:ByteArray)(aJ aZ:Int)(be:Bool)(ds:Ds)(w:World):Prop:=
 alE (.cells #[.string aY,.int .i64 aJ,.int .i64 aZ,.bool be] 129) w λr1 w1=>
 ∃yX,w1.cell? ((⟨r1,0,none⟩:Addr).add 0)=some (.string yX)/\
 ∃gB,w1.cell? ((⟨r1,0,none⟩:Addr).add 1)=some (.int .i64 gB)/\
 ∃o7,w1.cell? ((⟨r1,0,none⟩:Addr).add 2)=some (.int .i64 o7)/\
 ∃yY,w1.cell? ((⟨r1,0,none⟩:Addr).add 3)=some (.bool yY)/\
 Calls prog 115 #[.agg #[.string yX,.int .i64 gB,.int .i64 o7,.bool yY]] w1 λe w2=>
 ∃b4:Bool,e=.returned (.bool b4)/\
 zQc prog ds w2 λw3=>
 R (.returned (.bool (!b4))) w3
theorem F179_p:Pl prog f179 [aS 0 [.str,.int .i64,.int .i64,.bool]] xKd:=λR=>
 lf
theorem yWM (aY:ByteArray) (aJ aZ:Int) (be:Bool) (w:World) (R:Rt) (h:xKd R aY aJ aZ be [] w):Calls prog 179 #[.agg #[.string aY,.int .i64 aJ,.int .i64 aZ,.bool be]] w R:=
 plC F179_p func179 h
def xWQ(R:Rt)(n3:Int)(ds:Ds)(w:World):Prop:=
 zQc prog ds w λw1=>
 R (.returned (.int .i64 n3)) w1
def xJO (R:Rt) (J1:(Int × Int)->World->Prop) (n3:Int) (l9:SV) (jb dC:Int) (ds:Ds) (w:World):Prop:=
 Br (decide (dC<jb)) (
 ∃a2,l9.a=some a2/\0<=dC/\dC<(l9.len:Int)/\
 ∃ug,w.cell? ((a2.add (dC.toNat * 4)).add 0)=some (.string ug)/\
 ∃uh,w.cell? ((a2.add (dC.toNat * 4)).add 1)=some (.int .i64 uh)/\
 ∃ui,w.cell? ((a2.add (dC.toNat * 4)).add 2)=some (.int .i64 ui)/\
 ∃uj,w.cell? ((a2.add (dC.toNat * 4)).add 3)=some (.bool uj)/\
 alE (.cells #[.string (⟨#[]⟩:ByteArray),.int .i64 0,.int .i64 0,.bool false] 129) w λr5 w3=>
 stA prog 129 (⟨r5,0,none⟩:Addr) #[.string ug,.int .i64 uh,.int .i64 ui,.bool uj] w3 λw4=>
 ∃iM,w4.cell? ((⟨r5,0,none⟩:Addr).add 2)=some (.int .i64 iM)/\
 J1 ((IntKind.i64.wrap (n3+iM)),(IntKind.i64.wrap (dC+1))) w4) (
 xWQ R n3 ds w)
def xKw(R:Rt)(n3:Int)(l9:SV)(jb dC:Int)(ds:Ds)(w:World):Prop:=
 zQF (λ(J1:(Int × Int)->World->Prop) (s:Int × Int) (w:World)=>xJO R J1 s.1 l9 jb s.2 ds w) (n3,dC) w
def xKL(R:Rt)(l0:SV)(ds:Ds)(w:World):Prop:=
 Calls prog 203 #[l0.v] w λe w5=>
 ∃n7:Int,e=.returned (.int .i64 n7)/\
 xKw R (IntKind.i64.wrap ((1:Int)+n7)) l0 (l0.len:Int) 0 ds w5
theorem F161_p:Pl prog f161 [lS 0] xKL:=λR=>
 pc 3 (rest [iS 3,lS 9,iS 10,iS 11] (xKw R) (bk 0 (rest [iS 3] (xWQ R) lf) (lp [iS 3,iS 11] [iS 3,lS 9,iS 10,iS 11] (xJO R) zXN λJ1=>lf)))
theorem yVP (l0:SV) (w:World) (R:Rt) (h:xKL R l0 [] w):Calls prog 161 #[l0.v] w R:=
 plC F161_p func161 h
def xWq(R:Rt)(n3:Int)(ds:Ds)(w:World):Prop:=
 IntKind.i64=IntKind.i64/\(8:Int) ≠ 0/\
 zQc prog ds w λw1=>
 R (.returned (.int .i64 (IntKind.i64.wrap ((IntKind.i64.wrap (n3+7)).tdiv 8)))) w1
def xWE (R:Rt) (J1:(Int × Int)->World->Prop) (n3:Int) (l6:SV) (n7 n8:Int) (ds:Ds) (w:World):Prop:=
 Br (decide (n8<n7)) (
 ∃a2,l6.a=some a2/\0<=n8/\n8<(l6.len:Int)/\
 ∃jB,w.cell? ((a2.add (n8.toNat * 4)).add 0)=some (.string jB)/\
 ∃dV,w.cell? ((a2.add (n8.toNat * 4)).add 1)=some (.int .i64 dV)/\
 ∃jC,w.cell? ((a2.add (n8.toNat * 4)).add 2)=some (.int .i64 jC)/\
 ∃jD,w.cell? ((a2.add (n8.toNat * 4)).add 3)=some (.bool jD)/\
 alE (.cells #[.string (⟨#[]⟩:ByteArray),.int .i64 0,.int .i64 0,.bool false] 129) w λr5 w3=>
 stA prog 129 (⟨r5,0,none⟩:Addr) #[.string jB,.int .i64 dV,.int .i64 jC,.bool jD] w3 λw4=>
 ∃kU,w4.cell? ((⟨r5,0,none⟩:Addr).add 3)=some (.bool kU)/\
 Br kU (
 J1 ((IntKind.i64.wrap (n3+1)),(IntKind.i64.wrap (n8+1))) w4) (
 J1 (n3,(IntKind.i64.wrap (n8+1))) w4)) (
 xWq R n3 ds w)
def xKh(R:Rt)(n3:Int)(l6:SV)(n7 n8:Int)(ds:Ds)(w:World):Prop:=
 zQF (λ(J1:(Int × Int)->World->Prop) (s:Int × Int) (w:World)=>xWE R J1 s.1 l6 n7 s.2 ds w) (n3,n8) w
def xWp(R:Rt)(l0:SV)(ds:Ds)(w:World):Prop:=
 xKh R 0 l0 (l0.len:Int) 0 ds w
theorem F203_p:Pl prog f203 [lS 0] xWp:=λR=>
 pc 3 (rest [iS 3,lS 6,iS 7,iS 8] (xKh R) (bk 0 (rest [iS 3] (xWq R) lf) (lp [iS 3,iS 8] [iS 3,lS 6,iS 7,iS 8] (xWE R) zXN λJ1=>lf)))
theorem yV1 (l0:SV) (w:World) (R:Rt) (h:xWp R l0 [] w):Calls prog 203 #[l0.v] w R:=
 plC F203_p func203 h
def F53_1(R:Rt)(l0:SV)(ds:Ds)(w:World):Prop:=
 Br (decide ((l0.len:Int) > 16)) (
 zQc prog ds w λw1=>
 R (.returned (.int .i64 3)) w1) (
 Calls prog 92 #[l0.v] w λe w2=>
 ∃dp:Int,e=.returned (.int .i64 dp)/\
 Br (decide (dp > 2000)) (
 zQc prog ds w2 λw3=>
 R (.returned (.int .i64 3)) w3) (
 zQc prog ds w2 λw4=>
 R (.returned (.int .i64 0)) w4))
def F53_2 (R:Rt) (J1:(Int)->World->Prop) (l0:SV) (n4:Int) (ds:Ds) (w:World):Prop:=
 J1 (IntKind.i64.wrap (n4+1)) w
def F53_3 (R:Rt) (J1:(Int)->World->Prop) (J2:(Int)->World->Prop) (l0:SV) (n4 n5:Int) (ds:Ds) (w:World):Prop:=
 Br (decide (n5<n4)) (
 dwE w λw5=>
 ∃a6,l0.a=some a6/\0<=n4/\n4<(l0.len:Int)/\
 ∃s36,w5.cell? (a6.add (n4.toNat * 4))=some (.string s36)/\
 ∃a7,l0.a=some a7/\0<=n5/\n5<(l0.len:Int)/\
 ∃s41,w5.cell? (a7.add (n5.toNat * 4))=some (.string s41)/\
 Br (s36.toList == s41.toList) (
 zQc prog ds w5 λw8=>
 R (.returned (.int .i64 5)) w8) (
 J2 (IntKind.i64.wrap (n5+1)) w5)) (
 F53_2 R J1 l0 n4 ds w)
def F53_4 (R:Rt) (J1:(Int)->World->Prop) (l0:SV) (n4 n5:Int) (ds:Ds) (w:World):Prop:=
 zQF (λ(J2:(Int)->World->Prop) (s:Int) (w:World)=>F53_3 R J1 J2 l0 n4 s ds w) n5 w
def F53_6 (R:Rt) (J1:(Int)->World->Prop) (l0:SV) (n4:Int) (ds:Ds) (w:World):Prop:=
 F53_4 R J1 l0 n4 0 ds w
def F53_8 (R:Rt) (J1:(Int)->World->Prop) (l0:SV) (n4:Int) (ds:Ds) (w:World):Prop:=
 Br (decide (n4<(l0.len:Int))) (
 F53_6 R J1 l0 n4 ds w) (
 F53_1 R l0 ds w)
def F53_9(R:Rt)(l0:SV)(n4:Int)(ds:Ds)(w:World):Prop:=
 zQF (λ(J1:(Int)->World->Prop) (s:Int) (w:World)=>F53_8 R J1 l0 s ds w) n4 w
def xWA(R:Rt)(l0:SV)(ds:Ds)(w:World):Prop:=
 F53_9 R l0 0 ds w
def xJH (R:Rt) (J1:(Int)->World->Prop) (l0:SV) (n3:Int) (ds:Ds) (w:World):Prop:=
 Br (decide (n3<(l0.len:Int))) (
 ∃a9,l0.a=some a9/\0<=n3/\n3<(l0.len:Int)/\
 ∃uk,w.cell? ((a9.add (n3.toNat * 4)).add 0)=some (.string uk)/\
 ∃gf,w.cell? ((a9.add (n3.toNat * 4)).add 1)=some (.int .i64 gf)/\
 ∃ul,w.cell? ((a9.add (n3.toNat * 4)).add 2)=some (.int .i64 ul)/\
 ∃um,w.cell? ((a9.add (n3.toNat * 4)).add 3)=some (.bool um)/\
 Calls prog 91 #[.agg #[.string uk,.int .i64 gf,.int .i64 ul,.bool um]] w λe aN=>
 ∃b19:Bool,e=.returned (.bool b19)/\
 Br (!b19) (
 zQc prog ds aN λaV=>
 R (.returned (.int .i64 1)) aV) (
 J1 (IntKind.i64.wrap (n3+1)) aN)) (
 xWA R l0 ds w)
def xVY(R:Rt)(l0:SV)(n3:Int)(ds:Ds)(w:World):Prop:=
 zQF (λ(J1:(Int)->World->Prop) (s:Int) (w:World)=>xJH R J1 l0 s ds w) n3 w
def xVF(R:Rt)(l0:SV)(ds:Ds)(w:World):Prop:=
 Br ((l0.len:Int) == 0) (
 zQc prog ds w λaO=>
 R (.returned (.int .i64 1)) aO) (
 xVY R l0 0 ds w)
theorem F53_p:Pl prog f53 [lS 0] xVF:=λR=>
 pc 4 (rest [lS 0,iS 3] (xVY R) (bk 0 (rest [lS 0] (xWA R) (pc 1 (rest [lS 0,iS 4] (F53_9 R) (bk 2 (rest [lS 0] (F53_1 R) lf) (lp [iS 4] [lS 0,iS 4] (F53_8 R) zXN λJ1=>pc 2 (rest [lS 0,iS 4] (F53_6 R J1) (bk 3 (rest [lS 0,iS 4] (F53_2 R J1) lf) (pc 1 (rest [lS 0,iS 4,iS 5] (F53_4 R J1) (bk 4 zXN (lp [iS 5] [lS 0,iS 4,iS 5] (F53_3 R J1) zXN λJ2=>lf))))))))))) (lp [iS 3] [lS 0,iS 3] (xJH R) zXN λJ1=>lf)))
theorem xQZ (l0:SV) (w:World) (R:Rt) (h:xVF R l0 [] w):Calls prog 53 #[l0.v] w R:=
 plC F53_p func53 h
def F92_1(R:Rt)(n3:Int)(ds:Ds)(w:World):Prop:=
 zQc prog ds w λw1=>
 R (.returned (.int .i64 n3)) w1
def F92_2 (R:Rt) (J1:(Int × Int)->World->Prop) (l0:SV) (n3 n4:Int) (ds:Ds) (w:World):Prop:=
 Br (decide (n4<(l0.len:Int))) (
 ∃a2,l0.a=some a2/\0<=n4/\n4<(l0.len:Int)/\
 ∃ja,w.cell? ((a2.add (n4.toNat * 4)).add 2)=some (.int .i64 ja)/\
 J1 ((IntKind.i64.wrap (n3+ja)),(IntKind.i64.wrap (n4+1))) w) (
 F92_1 R n3 ds w)
def F92_3(R:Rt)(l0:SV)(n3 n4:Int)(ds:Ds)(w:World):Prop:=
 zQF (λ(J1:(Int × Int)->World->Prop) (s:Int × Int) (w:World)=>F92_2 R J1 l0 s.1 s.2 ds w) (n3,n4) w
def F92_5(R:Rt)(l0:SV)(ds:Ds)(w:World):Prop:=
 Calls prog 131 #[l0.v] w λe w3=>
 ∃n6:Int,e=.returned (.int .i64 n6)/\
 F92_3 R l0 (IntKind.i64.wrap ((1:Int)+n6)) 0 ds w3
theorem F92_p:Pl prog f92 [lS 0] F92_5:=λR=>
 pc 3 (rest [lS 0,iS 3,iS 4] (F92_3 R) (bk 0 (rest [iS 3] (F92_1 R) lf) (lp [iS 3,iS 4] [lS 0,iS 3,iS 4] (F92_2 R) zXN λJ1=>lf)))
theorem xZg (l0:SV) (w:World) (R:Rt) (h:F92_5 R l0 [] w):Calls prog 92 #[l0.v] w R:=
 plC F92_p func92 h
def xWo(R:Rt)(n3:Int)(ds:Ds)(w:World):Prop:=
 IntKind.i64=IntKind.i64/\(8:Int) ≠ 0/\
 zQc prog ds w λw1=>
 R (.returned (.int .i64 (IntKind.i64.wrap ((IntKind.i64.wrap (n3+7)).tdiv 8)))) w1
def xVr (R:Rt) (J1:(Int × Int)->World->Prop) (l0:SV) (n3 n4:Int) (ds:Ds) (w:World):Prop:=
 Br (decide (n4<(l0.len:Int))) (
 ∃a2,l0.a=some a2/\0<=n4/\n4<(l0.len:Int)/\
 ∃j4,w.cell? ((a2.add (n4.toNat * 4)).add 3)=some (.bool j4)/\
 Br j4 (
 J1 ((IntKind.i64.wrap (n3+1)),(IntKind.i64.wrap (n4+1))) w) (
 J1 (n3,(IntKind.i64.wrap (n4+1))) w)) (
 xWo R n3 ds w)
def xW5(R:Rt)(l0:SV)(n3 n4:Int)(ds:Ds)(w:World):Prop:=
 zQF (λ(J1:(Int × Int)->World->Prop) (s:Int × Int) (w:World)=>xVr R J1 l0 s.1 s.2 ds w) (n3,n4) w
def xKP(R:Rt)(l0:SV)(ds:Ds)(w:World):Prop:=
 xW5 R l0 0 0 ds w
theorem F131_p:Pl prog f131 [lS 0] xKP:=λR=>
 pc 3 (rest [lS 0,iS 3,iS 4] (xW5 R) (bk 0 (rest [iS 3] (xWo R) lf) (lp [iS 3,iS 4] [lS 0,iS 3,iS 4] (xVr R) zXN λJ1=>lf)))
theorem yWu (l0:SV) (w:World) (R:Rt) (h:xKP R l0 [] w):Calls prog 131 #[l0.v] w R:=
 plC F131_p func131 h
end Go.Proofs.YtaeecpjhfmcliaaGreatDoor
/- Shallow texts of functions, printed by program, each checked by the kernel against the loaded code. No condition. -/
namespace Go.Proofs.YtaeecpjhfmcliaaGreatDoor
open Go.Sh Tryz
def xKO(R:Rt)(ds:Ds)(w:World):Prop:=
 zQc prog ds w λw1=>
 R (.returned (.int .i64 (-1))) w1
def xWR (R:Rt) (J1:(Int)->World->Prop) (l0:SV) (v1:Value) (n7 n8:Int) (ds:Ds) (w:World):Prop:=
 Br (decide (n8<n7)) (
 ∃a2,l0.a=some a2/\0<=n8/\n8<(l0.len:Int)/\
 ∃un,w.cell? ((a2.add (n8.toNat * 4)).add 0)=some (.string un)/\
 ∃gC,w.cell? ((a2.add (n8.toNat * 4)).add 1)=some (.int .i64 gC)/\
 ∃uo,w.cell? ((a2.add (n8.toNat * 4)).add 2)=some (.int .i64 uo)/\
 ∃uq,w.cell? ((a2.add (n8.toNat * 4)).add 3)=some (.bool uq)/\
 fnE v1 λf16 first16 yZ=>
 zQ6 prog f16=true/\Calls prog f16 (first16.toList ++ (([.agg #[.string un,.int .i64 gC,.int .i64 uo,.bool uq]]:List Value) ++ yZ.toList)).toArray w λe w3=>
 ∃kb:Bool,e=.returned (.bool kb)/\
 Br kb (
 zQc prog ds w3 λw4=>
 R (.returned (.int .i64 n8)) w4) (
 J1 (IntKind.i64.wrap (n8+1)) w3)) (
 xKO R ds w)
def xYa(R:Rt)(l0:SV)(v1:Value)(n7 n8:Int)(ds:Ds)(w:World):Prop:=
 zQF (λ(J1:(Int)->World->Prop) (s:Int) (w:World)=>xWR R J1 l0 v1 n7 s ds w) n8 w
def xWb(R:Rt)(l0:SV)(v1:Value)(ds:Ds)(w:World):Prop:=
 xYa R l0 (v1) (l0.len:Int) 0 ds w
theorem F113_p:Pl prog f113 [lS 0,vS 1] xWb:=λR=>
 pc 2 (rest [lS 0,vS 1,iS 7,iS 8] (xYa R) (bk 0 (rest [] (xKO R) lf) (lp [iS 8] [lS 0,vS 1,iS 7,iS 8] (xWR R) zXN λJ1=>lf)))
theorem yWL (l0:SV) (v1:Value) (w:World) (R:Rt) (h:xWb R l0 v1 [] w):Calls prog 113 #[l0.v,v1] w R:=
 plC F113_p func113 h
def xKB(R:Rt)(aY:ByteArray)(aJ aZ:Int)(be:Bool)(v1:Value)(ds:Ds)(w:World):Prop:=
 alE (.cells #[.string aY,.int .i64 aJ,.int .i64 aZ,.bool be] 129) w λr2 w1=>
 ∃s5,w1.cell? (⟨r2,0,none⟩:Addr)=some (.string s5)/\
 zVg v1 λa2=>
 ∃s6,w1.cell? a2=some (.string s6)/\
 zQc prog ds w1 λw3=>
 R (.returned (.bool (s5.toList == s6.toList))) w3
theorem F114_p:Pl prog f114 [aS 0 [.str,.int .i64,.int .i64,.bool],vS 1] xKB:=λR=>
 lf
theorem yVf (aY:ByteArray) (aJ aZ:Int) (be:Bool) (v1:Value) (w:World) (R:Rt) (h:xKB R aY aJ aZ be v1 [] w):Calls prog 114 #[.agg #[.string aY,.int .i64 aJ,.int .i64 aZ,.bool be],v1] w R:=
 plC F114_p func114 h
def F82_1(R:Rt)(l0:SV)(s1:ByteArray)(ds:Ds)(w:World):Prop:=
 alE (.cells #[.string s1] 9) w λr3 w1=>
 Calls prog 113 #[l0.v,.func (.func 114) #[] #[.pointer (some (⟨r3,0,none⟩:Addr))]] w1 λe w2=>
 ∃n9:Int,e=.returned (.int .i64 n9)/\
 ∃dC:Int,∃w3,(Builtin.max_ #[3,3] 3 #[.int .i64 n9,.int .i64 0]).run prog w2=.ok (.int .i64 dC) w3/\
 zQc prog ds w3 λw4=>
 R (.returned (.tuple #[.int .i64 dC,.bool (decide (n9 >= 0))])) w4
theorem F82_p:Pl prog f82 [lS 0,sS 1] F82_1:=λR=>
 lf
theorem xQ0 (l0:SV) (s1:ByteArray) (w:World) (R:Rt) (h:F82_1 R l0 s1 [] w):Calls prog 82 #[l0.v,.string s1] w R:=
 plC F82_p func82 h
def xVo(R:Rt)(ds:Ds)(w:World):Prop:=
 zQc prog ds w λw1=>
 R (.returned (.tuple #[.int .i64 0,.bool false])) w1
def xK5 (R:Rt) (J1:(Int)->World->Prop) (l0:SV) (s1:ByteArray) (n6:Int) (ds:Ds) (w:World):Prop:=
 Br (decide (n6<(l0.len:Int))) (
 ∃a2,l0.a=some a2/\0<=n6/\n6<(l0.len:Int)/\
 ∃xg,w.cell? (a2.add (n6.toNat * 4))=some (.string xg)/\
 Br (xg.toList == s1.toList) (
 zQc prog ds w λw3=>
 R (.returned (.tuple #[.int .i64 n6,.bool true])) w3) (
 J1 (IntKind.i64.wrap (n6+1)) w)) (
 xVo R ds w)
def xWD(R:Rt)(l0:SV)(s1:ByteArray)(n6:Int)(ds:Ds)(w:World):Prop:=
 zQF (λ(J1:(Int)->World->Prop) (s:Int) (w:World)=>xK5 R J1 l0 s1 s ds w) n6 w
def xKG(R:Rt)(l0:SV)(s1:ByteArray)(ds:Ds)(w:World):Prop:=
 xWD R l0 s1 0 ds w
theorem F103_p:Pl prog f103 [lS 0,sS 1] xKG:=λR=>
 pc 2 (rest [lS 0,sS 1,iS 6] (xWD R) (bk 0 (rest [] (xVo R) lf) (lp [iS 6] [lS 0,sS 1,iS 6] (xK5 R) zXN λJ1=>lf)))
theorem yWv (l0:SV) (s1:ByteArray) (w:World) (R:Rt) (h:xKG R l0 s1 [] w):Calls prog 103 #[l0.v,.string s1] w R:=
 plC F103_p func103 h
end Go.Proofs.YtaeecpjhfmcliaaGreatDoor
/- Shallow texts of functions, printed by program, each checked by the kernel against the loaded code. No condition. -/
namespace Go.Proofs.YtaeecpjhfmcliaaGreatDoor
open Go.Sh Tryz
def xVk(R:Rt)(ds:Ds)(w:World):Prop:=
 zQc prog ds w λw1=>
 R (.returned (.int .i64 0)) w1
def xXK (R:Rt) (J1:(Int)->World->Prop) (p1:Option Addr) (gl:SV) (qu cn:Int) (ds:Ds) (w:World):Prop:=
 J1 (IntKind.i64.wrap (cn+1)) w
def xW4 (R:Rt) (J1:(Int)->World->Prop) (J2:(Int)->World->Prop) (p1 p5:Option Addr) (gl:SV) (qu cn:Int) (eR:SV) (sM eJ:Int) (ds:Ds) (w:World):Prop:=
 Br (decide (eJ<sM)) (
 ∃a2,eR.a=some a2/\0<=eJ/\eJ<(eR.len:Int)/\
 ∃ur,w.cell? ((a2.add (eJ.toNat * 4)).add 0)=some (.string ur)/\
 ∃ut,w.cell? ((a2.add (eJ.toNat * 4)).add 1)=some (.int .i64 ut)/\
 ∃uu,w.cell? ((a2.add (eJ.toNat * 4)).add 2)=some (.int .i64 uu)/\
 ∃uv,w.cell? ((a2.add (eJ.toNat * 4)).add 3)=some (.bool uv)/\
 alE (.cells #[.string (⟨#[]⟩:ByteArray),.int .i64 0,.int .i64 0,.bool false] 129) w λr7 w3=>
 stA prog 129 (⟨r7,0,none⟩:Addr) #[.string ur,.int .i64 ut,.int .i64 uu,.bool uv] w3 λw4=>
 dwE w4 λw5=>
 ∃uw,w5.cell? ((⟨r7,0,none⟩:Addr).add 0)=some (.string uw)/\
 ∃nQ,w5.cell? ((⟨r7,0,none⟩:Addr).add 1)=some (.int .i64 nQ)/\
 ∃ux,w5.cell? ((⟨r7,0,none⟩:Addr).add 2)=some (.int .i64 ux)/\
 ∃uy,w5.cell? ((⟨r7,0,none⟩:Addr).add 3)=some (.bool uy)/\
 zQh p1 λa6=>
 ∃kN,w5.cell? a6=some (.int .i64 kN)/\
 zQh p5 λa7=>
 ∃nR:SV,w5.cell? (a7.add 1)=some (nR.v)/\
 ∃a8,nR.a=some a8/\0<=eJ/\eJ<(nR.len:Int)/\
 ∃uz,w5.cell? ((a8.add (eJ.toNat * 3)).add 0)=some (.int .i64 uz)/\
 ∃nS,w5.cell? ((a8.add (eJ.toNat * 3)).add 1)=some (.int .i64 nS)/\
 ∃uA,w5.cell? ((a8.add (eJ.toNat * 3)).add 2)=some (.string uA)/\
 Calls prog 142 #[.agg #[.string uw,.int .i64 nQ,.int .i64 ux,.bool uy],.int .i64 kN,.agg #[.int .i64 uz,.int .i64 nS,.string uA]] w5 λe w9=>
 ∃b52:Bool,e=.returned (.bool b52)/\
 Br (!b52) (
 zQc prog ds w9 λaN=>
 R (.returned (.int .i64 1)) aN) (
 J2 (IntKind.i64.wrap (eJ+1)) w9)) (
 xXK R J1 p1 gl qu cn ds w)
def xVh (R:Rt) (J1:(Int)->World->Prop) (p1 p5:Option Addr) (gl:SV) (qu cn:Int) (eR:SV) (sM eJ:Int) (ds:Ds) (w:World):Prop:=
 zQF (λ(J2:(Int)->World->Prop) (s:Int) (w:World)=>xW4 R J1 J2 p1 p5 gl qu cn eR sM s ds w) eJ w
def xVg (R:Rt) (J1:(Int)->World->Prop) (p1:Option Addr) (gl:SV) (qu cn:Int) (ds:Ds) (w:World):Prop:=
 ∃dR,gl.a=some dR/\0<=cn/\cn<(gl.len:Int)/\
 ∃dD,w.cell? ((dR.add (cn.toNat * 2)).add 0)=some (.bool dD)/\
 ∃aP:SV,w.cell? ((dR.add (cn.toNat * 2)).add 1)=some (aP.v)/\
 alE (.cells #[.bool false,.slice none 0 0] 67) w λr5 aO=>
 stA prog 67 (⟨r5,0,none⟩:Addr) #[.bool dD,aP.v] aO λaI=>
 ∃oW:SV,aI.cell? ((⟨r5,0,none⟩:Addr).add 1)=some (oW.v)/\
 zQh p1 λga=>
 ∃iK:SV,aI.cell? (ga.add 1)=some (iK.v)/\
 Br ((oW.len:Int) != (iK.len:Int)) (
 zQc prog ds aI λbr=>
 R (.returned (.int .i64 10)) br) (
 zQh p1 λiJ=>
 ∃eR:SV,aI.cell? (iJ.add 1)=some (eR.v)/\
 xVh R J1 p1 (some (⟨r5,0,none⟩:Addr)) gl qu cn eR (eR.len:Int) 0 ds aI)
def xV0 (R:Rt) (J1:(Int)->World->Prop) (p1:Option Addr) (gl:SV) (qu cn:Int) (ds:Ds) (w:World):Prop:=
 Br (decide (cn<qu)) (
 xVg R J1 p1 gl qu cn ds w) (
 xVk R ds w)
def xVN(R:Rt)(p1:Option Addr)(gl:SV)(qu cn:Int)(ds:Ds)(w:World):Prop:=
 zQF (λ(J1:(Int)->World->Prop) (s:Int) (w:World)=>xV0 R J1 p1 gl qu s ds w) cn w
def yYq(R:Rt)(aw:Int)(ah ai:SV)(ds:Ds)(w:World):Prop:=
 alE (.cells #[.int .i64 aw,ah.v,ai.v] 35) w λr1 bJ=>
 ∃n9,bJ.cell? (⟨r1,0,none⟩:Addr)=some (.int .i64 n9)/\
 Calls prog 116 #[.int .i64 n9] bJ λe bR=>
 ∃dO:Bool,e=.returned (.bool dO)/\
 Br (!dO) (
 zQc prog ds bR λcK=>
 R (.returned (.int .i64 1)) cK) (
 ∃cz:SV,bR.cell? ((⟨r1,0,none⟩:Addr).add 1)=some (cz.v)/\
 Calls prog 141 #[cz.v] bR λe cj=>
 ∃ng:Int,e=.returned (.int .i64 ng)/\
 Br (ng != 0) (
 zQc prog ds cj λcr=>
 R (.returned (.int .i64 ng)) cr) (
 ∃dg:SV,cj.cell? ((⟨r1,0,none⟩:Addr).add 2)=some (dg.v)/\
 Br (decide ((dg.len:Int) > 300)) (
 zQc prog ds cj λdX=>
 R (.returned (.int .i64 3)) dX) (
 ∃gl:SV,cj.cell? ((⟨r1,0,none⟩:Addr).add 2)=some (gl.v)/\
 xVN R (some (⟨r1,0,none⟩:Addr)) gl (gl.len:Int) 0 ds cj)))
theorem F106_p:Pl prog f106 [aS 0 [.int .i64,.slice,.slice]] yYq:=λR=>
 pc 9 (rest [pS 1,lS 23,iS 24,iS 25] (xVN R) (bk 0 (rest [] (xVk R) lf) (lp [iS 25] [pS 1,lS 23,iS 24,iS 25] (xV0 R) zXN λJ1=>pc 2 (rest [pS 1,lS 23,iS 24,iS 25] (xVg R J1) (bk 1 (rest [pS 1,lS 23,iS 24,iS 25] (xXK R J1) lf) (pc 4 (rest [pS 1,pS 5,lS 23,iS 24,iS 25,lS 37,iS 38,iS 39] (xVh R J1) (bk 2 zXN (lp [iS 39] [pS 1,pS 5,lS 23,iS 24,iS 25,lS 37,iS 38,iS 39] (xW4 R J1) zXN λJ2=>lf)))))))))
theorem yWb (aw:Int) (ah ai:SV) (w:World) (R:Rt) (h:yYq R aw ah ai [] w):Calls prog 106 #[.agg #[.int .i64 aw,ah.v,ai.v]] w R:=
 plC F106_p func106 h
def xKz(R:Rt)(aY:ByteArray)(aJ aZ:Int)(be:Bool)(n1 dm d8:Int)(eb:ByteArray)(ds:Ds)(w:World):Prop:=
 alE (.cells #[.string aY,.int .i64 aJ,.int .i64 aZ,.bool be] 129) w λr3 w1=>
 alE (.cells #[.int .i64 dm,.int .i64 d8,.string eb] 73) w1 λr5 w2=>
 ∃jb,w2.cell? (⟨r5,0,none⟩:Addr)=some (.int .i64 jb)/\
 Br (jb == 0) (
 ∃kU,w2.cell? ((⟨r3,0,none⟩:Addr).add 3)=some (.bool kU)/\
 Br kU (
 ∃nT,w2.cell? ((⟨r5,0,none⟩:Addr).add 0)=some (.int .i64 nT)/\
 ∃gC,w2.cell? ((⟨r5,0,none⟩:Addr).add 1)=some (.int .i64 gC)/\
 ∃uB,w2.cell? ((⟨r5,0,none⟩:Addr).add 2)=some (.string uB)/\
 ∃sW:Bool,∃w3,(eqS .eql 73 (.tmp 15) (.tmp 16) (.agg #[.int .i64 nT,.int .i64 gC,.string uB]) (.agg #[.int .i64 0,.int .i64 0,.string (⟨#[]⟩:ByteArray)])).run prog w2=.ok (.bool sW) w3/\
 zQc prog ds w3 λw4=>
 R (.returned (.bool sW)) w4) (
 zQc prog ds w2 λw5=>
 R (.returned (.bool false)) w5)) (
 ∃dE,w2.cell? ((⟨r5,0,none⟩:Addr).add 0)=some (.int .i64 dE)/\
 ∃bT,w2.cell? ((⟨r5,0,none⟩:Addr).add 1)=some (.int .i64 bT)/\
 ∃jN,w2.cell? ((⟨r5,0,none⟩:Addr).add 2)=some (.string jN)/\
 Calls prog 117 #[.agg #[.int .i64 dE,.int .i64 bT,.string jN]] w2 λe w6=>
 ∃kj:Int,e=.returned (.int .i64 kj)/\
 Br (kj != 0) (
 zQc prog ds w6 λw7=>
 R (.returned (.bool false)) w7) (
 ∃jO,w6.cell? ((⟨r3,0,none⟩:Addr).add 0)=some (.string jO)/\
 ∃dY,w6.cell? ((⟨r3,0,none⟩:Addr).add 1)=some (.int .i64 dY)/\
 ∃jP,w6.cell? ((⟨r3,0,none⟩:Addr).add 2)=some (.int .i64 jP)/\
 ∃jQ,w6.cell? ((⟨r3,0,none⟩:Addr).add 3)=some (.bool jQ)/\
 ∃pI,w6.cell? ((⟨r5,0,none⟩:Addr).add 0)=some (.int .i64 pI)/\
 ∃pJ,w6.cell? ((⟨r5,0,none⟩:Addr).add 1)=some (.int .i64 pJ)/\
 ∃uC,w6.cell? ((⟨r5,0,none⟩:Addr).add 2)=some (.string uC)/\
 Calls prog 83 #[.agg #[.string jO,.int .i64 dY,.int .i64 jP,.bool jQ],.int .i64 n1,.agg #[.int .i64 pI,.int .i64 pJ,.string uC]] w6 λe w8=>
 ∃pK:Int,∃pL:Int,∃pM:ByteArray,∃fp:Int,e=.returned (.tuple #[.agg #[.int .i64 pK,.int .i64 pL,.string pM],.int .i64 fp])/\
 alE (.cells #[.int .i64 0,.int .i64 0,.string (⟨#[]⟩:ByteArray)] 73) w8 λr7 w9=>
 stA prog 73 (⟨r7,0,none⟩:Addr) #[.int .i64 pK,.int .i64 pL,.string pM] w9 λaN=>
 Br (fp == 0) (
 ∃jR,aN.cell? ((⟨r7,0,none⟩:Addr).add 0)=some (.int .i64 jR)/\
 ∃nU,aN.cell? ((⟨r7,0,none⟩:Addr).add 1)=some (.int .i64 nU)/\
 ∃uD,aN.cell? ((⟨r7,0,none⟩:Addr).add 2)=some (.string uD)/\
 ∃nJ,aN.cell? ((⟨r5,0,none⟩:Addr).add 0)=some (.int .i64 nJ)/\
 ∃nK,aN.cell? ((⟨r5,0,none⟩:Addr).add 1)=some (.int .i64 nK)/\
 ∃nL,aN.cell? ((⟨r5,0,none⟩:Addr).add 2)=some (.string nL)/\
 ∃b34:Bool,∃aV,(eqS .eql 73 (.tmp 32) (.tmp 33) (.agg #[.int .i64 jR,.int .i64 nU,.string uD]) (.agg #[.int .i64 nJ,.int .i64 nK,.string nL])).run prog aN=.ok (.bool b34) aV/\
 zQc prog ds aV λaO=>
 R (.returned (.bool b34)) aO) (
 zQc prog ds aN λaI=>
 R (.returned (.bool false)) aI)))
theorem F142_p:Pl prog f142 [aS 0 [.str,.int .i64,.int .i64,.bool],iS 1,aS 2 [.int .i64,.int .i64,.str]] xKz:=λR=>
 lf
theorem yW9 (aY:ByteArray) (aJ aZ:Int) (be:Bool) (n1 dm d8:Int) (eb:ByteArray) (w:World) (R:Rt) (h:xKz R aY aJ aZ be n1 dm d8 eb [] w):Calls prog 142 #[.agg #[.string aY,.int .i64 aJ,.int .i64 aZ,.bool be],.int .i64 n1,.agg #[.int .i64 dm,.int .i64 d8,.string eb]] w R:=
 plC F142_p func142 h
def F13_1(R:Rt)(ds:Ds)(w:World):Prop:=
 zQc prog ds w λw1=>
 R (.returned (.int .i64 0)) w1
def F13_2 (R:Rt) (J1:(Int)->World->Prop) (p1:Option Addr) (n4:Int) (ds:Ds) (w:World):Prop:=
 zQh p1 λa2=>
 ∃dv:SV,w.cell? (a2.add 2)=some (dv.v)/\
 Br (decide (n4<(dv.len:Int))) (
 dwE w λw3=>
 zQh p1 λa4=>
 ∃eg:SV,w3.cell? (a4.add 1)=some (eg.v)/\
 zQh p1 λa5=>
 ∃rA,w3.cell? a5=some (.int .i64 rA)/\
 zQh p1 λa6=>
 ∃im:SV,w3.cell? (a6.add 2)=some (im.v)/\
 ∃a7,im.a=some a7/\0<=n4/\n4<(im.len:Int)/\
 ∃uE,w3.cell? ((a7.add (n4.toNat * 2)).add 0)=some (.bool uE)/\
 ∃fq:SV,w3.cell? ((a7.add (n4.toNat * 2)).add 1)=some (fq.v)/\
 Calls prog 54 #[eg.v,.int .i64 rA,.agg #[.bool uE,fq.v]] w3 λe w8=>
 ∃j3:Int,e=.returned (.int .i64 j3)/\
 Br (j3 != 0) (
 zQc prog ds w8 λw9=>
 R (.returned (.int .i64 j3)) w9) (
 J1 (IntKind.i64.wrap (n4+1)) w8)) (
 F13_1 R ds w)
def F13_3(R:Rt)(p1:Option Addr)(n4:Int)(ds:Ds)(w:World):Prop:=
 zQF (λ(J1:(Int)->World->Prop) (s:Int) (w:World)=>F13_2 R J1 p1 s ds w) n4 w
def F13_5(R:Rt)(aw:Int)(ah ai:SV)(ds:Ds)(w:World):Prop:=
 alE (.cells #[.int .i64 aw,ah.v,ai.v] 35) w λr1 aN=>
 ∃n7,aN.cell? (⟨r1,0,none⟩:Addr)=some (.int .i64 n7)/\
 Calls prog 52 #[.int .i64 n7] aN λe aV=>
 ∃b8:Bool,e=.returned (.bool b8)/\
 Br (!b8) (
 zQc prog ds aV λaO=>
 R (.returned (.int .i64 1)) aO) (
 ∃bW:SV,aV.cell? ((⟨r1,0,none⟩:Addr).add 1)=some (bW.v)/\
 Calls prog 53 #[bW.v] aV λe aI=>
 ∃dy:Int,e=.returned (.int .i64 dy)/\
 Br (dy != 0) (
 zQc prog ds aI λbt=>
 R (.returned (.int .i64 dy)) bt) (
 ∃dk:SV,aI.cell? ((⟨r1,0,none⟩:Addr).add 2)=some (dk.v)/\
 Br (decide ((dk.len:Int) > 300)) (
 zQc prog ds aI λbr=>
 R (.returned (.int .i64 3)) br) (
 F13_3 R (some (⟨r1,0,none⟩:Addr)) 0 ds aI)))
theorem F13_p:Pl prog f13 [aS 0 [.int .i64,.slice,.slice]] F13_5:=λR=>
 pc 9 (rest [pS 1,iS 4] (F13_3 R) (bk 0 (rest [] (F13_1 R) lf) (lp [iS 4] [pS 1,iS 4] (F13_2 R) zXN λJ1=>lf)))
theorem xQU (aw:Int) (ah ai:SV) (w:World) (R:Rt) (h:F13_5 R aw ah ai [] w):Calls prog 13 #[.agg #[.int .i64 aw,ah.v,ai.v]] w R:=
 plC F13_p func13 h
def F54_1(R:Rt)(ds:Ds)(w:World):Prop:=
 zQc prog ds w λw1=>
 R (.returned (.int .i64 0)) w1
def F54_2 (R:Rt) (J1:(Int)->World->Prop) (l0:SV) (n1:Int) (p5:Option Addr) (n7:Int) (ds:Ds) (w:World):Prop:=
 Br (decide (n7<(l0.len:Int))) (
 dwE w λw2=>
 ∃a3,l0.a=some a3/\0<=n7/\n7<(l0.len:Int)/\
 ∃jO,w2.cell? ((a3.add (n7.toNat * 4)).add 0)=some (.string jO)/\
 ∃dY,w2.cell? ((a3.add (n7.toNat * 4)).add 1)=some (.int .i64 dY)/\
 ∃jP,w2.cell? ((a3.add (n7.toNat * 4)).add 2)=some (.int .i64 jP)/\
 ∃jQ,w2.cell? ((a3.add (n7.toNat * 4)).add 3)=some (.bool jQ)/\
 zQh p5 λa4=>
 ∃dP:SV,w2.cell? (a4.add 1)=some (dP.v)/\
 ∃a5,dP.a=some a5/\0<=n7/\n7<(dP.len:Int)/\
 ∃cO,w2.cell? ((a5.add (n7.toNat * 3)).add 0)=some (.int .i64 cO)/\
 ∃nV,w2.cell? ((a5.add (n7.toNat * 3)).add 1)=some (.int .i64 nV)/\
 ∃uF,w2.cell? ((a5.add (n7.toNat * 3)).add 2)=some (.string uF)/\
 Calls prog 93 #[.agg #[.string jO,.int .i64 dY,.int .i64 jP,.bool jQ],.int .i64 n1,.agg #[.int .i64 cO,.int .i64 nV,.string uF]] w2 λe w6=>
 ∃tX:Bool,e=.returned (.bool tX)/\
 Br (!tX) (
 zQc prog ds w6 λw7=>
 R (.returned (.int .i64 1)) w7) (
 J1 (IntKind.i64.wrap (n7+1)) w6)) (
 F54_1 R ds w)
def F54_3(R:Rt)(l0:SV)(n1:Int)(p5:Option Addr)(n7:Int)(ds:Ds)(w:World):Prop:=
 zQF (λ(J1:(Int)->World->Prop) (s:Int) (w:World)=>F54_2 R J1 l0 n1 p5 s ds w) n7 w
def F54_5(R:Rt)(l0:SV)(n1:Int)(gc:Bool)(bL:SV)(ds:Ds)(w:World):Prop:=
 alE (.cells #[.bool gc,bL.v] 67) w λr5 w8=>
 ∃l9:SV,w8.cell? ((⟨r5,0,none⟩:Addr).add 1)=some (l9.v)/\
 Br ((l9.len:Int) != (l0.len:Int)) (
 zQc prog ds w8 λw9=>
 R (.returned (.int .i64 10)) w9) (
 F54_3 R l0 n1 (some (⟨r5,0,none⟩:Addr)) 0 ds w8)
theorem F54_p:Pl prog f54 [lS 0,iS 1,aS 2 [.bool,.slice]] F54_5:=λR=>
 pc 4 (rest [lS 0,iS 1,pS 5,iS 7] (F54_3 R) (bk 0 (rest [] (F54_1 R) lf) (lp [iS 7] [lS 0,iS 1,pS 5,iS 7] (F54_2 R) zXN λJ1=>lf)))
theorem xXL (l0:SV) (n1:Int) (gc:Bool) (bL:SV) (w:World) (R:Rt) (h:F54_5 R l0 n1 gc bL [] w):Calls prog 54 #[l0.v,.int .i64 n1,.agg #[.bool gc,bL.v]] w R:=
 plC F54_p func54 h
end Go.Proofs.YtaeecpjhfmcliaaGreatDoor
/- Shallow texts of functions, printed by program, each checked by the kernel against the loaded code. No condition. -/
namespace Go.Proofs.YtaeecpjhfmcliaaGreatDoor
open Go.Sh Tryz
def xWJ(R:Rt)(aw:Int)(ah ai:SV)(ds:Ds)(w:World):Prop:=
 alE (.cells #[.int .i64 aw,ah.v,ai.v] 35) w λr1 w1=>
 ∃iO,w1.cell? ((⟨r1,0,none⟩:Addr).add 0)=some (.int .i64 iO)/\
 ∃dz:SV,w1.cell? ((⟨r1,0,none⟩:Addr).add 1)=some (dz.v)/\
 ∃cA:SV,w1.cell? ((⟨r1,0,none⟩:Addr).add 2)=some (cA.v)/\
 Calls prog 106 #[.agg #[.int .i64 iO,dz.v,cA.v]] w1 λe w2=>
 ∃n6:Int,e=.returned (.int .i64 n6)/\
 Br (n6 != 0) (
 zQc prog ds w2 λw3=>
 R (.returned (.tuple #[.slice none 0 0,.int .i64 n6])) w3) (
 ∃eV,w2.cell? ((⟨r1,0,none⟩:Addr).add 0)=some (.int .i64 eV)/\
 ∃bx:SV,w2.cell? ((⟨r1,0,none⟩:Addr).add 1)=some (bx.v)/\
 ∃bA:SV,w2.cell? ((⟨r1,0,none⟩:Addr).add 2)=some (bA.v)/\
 Calls prog 157 #[.agg #[.int .i64 eV,bx.v,bA.v]] w2 λe w4=>
 ∃bW:SV,e=.returned (bW.v)/\
 zQc prog ds w4 λw5=>
 R (.returned (.tuple #[bW.v,.int .i64 0])) w5)
theorem F165_p:Pl prog f165 [aS 0 [.int .i64,.slice,.slice]] xWJ:=λR=>
 lf
theorem yWD (aw:Int) (ah ai:SV) (w:World) (R:Rt) (h:xWJ R aw ah ai [] w):Calls prog 165 #[.agg #[.int .i64 aw,ah.v,ai.v]] w R:=
 plC F165_p func165 h
def xKR(R:Rt)(l3:SV)(ds:Ds)(w:World):Prop:=
 alE (.cells #[.int .u8 13] 5) w λr65 w1=>
 ∃yb:SV,∃w2,(Builtin.append_ #[22,22] 22 #[l3.v,.slice (some ⟨r65,0,none⟩) 1 1]).run prog w1=.ok (yb.v) w2/\
 zQc prog ds w2 λw3=>
 R (.returned (yb.v)) w3
def xVc (R:Rt) (J1:(SV × Int)->World->Prop) (l3 eR:SV) (sM eJ:Int) (ds:Ds) (w:World):Prop:=
 Br (decide (eJ<sM)) (
 ∃a4,eR.a=some a4/\0<=eJ/\eJ<(eR.len:Int)/\
 ∃uG,w.cell? ((a4.add (eJ.toNat * 4)).add 0)=some (.string uG)/\
 ∃uH,w.cell? ((a4.add (eJ.toNat * 4)).add 1)=some (.int .i64 uH)/\
 ∃uI,w.cell? ((a4.add (eJ.toNat * 4)).add 2)=some (.int .i64 uI)/\
 ∃uJ,w.cell? ((a4.add (eJ.toNat * 4)).add 3)=some (.bool uJ)/\
 alE (.cells #[.string (⟨#[]⟩:ByteArray),.int .i64 0,.int .i64 0,.bool false] 129) w λr5 w5=>
 stA prog 129 (⟨r5,0,none⟩:Addr) #[.string uG,.int .i64 uH,.int .i64 uI,.bool uJ] w5 λw6=>
 alE (.cells #[.int .u8 0,.int .u8 0,.int .u8 0,.int .u8 0,.int .u8 0,.int .u8 0,.int .u8 0,.int .u8 0,.int .u8 0,.int .u8 0,.int .u8 0,.int .u8 0,.int .u8 0,.int .u8 0,.int .u8 0,.int .u8 0] 227) w6 λr6 w7=>
 dwE w7 λw8=>
 ∃S1:World->Prop,S1 w8/\
 ∃s45,(∀w',S1 w'->w'.cell? (⟨r5,0,none⟩:Addr)=some (.string s45))/\
 ∃nE:SV,∃w9,(Instr.sliceAt 227 (.pointer (some (⟨r6,0,none⟩:Addr))) none (some (.int .i64 10)) (some (.int .i64 10))).run prog w8=.ok (nE.v) w9/\
 S1 w9/\
 ∃kN:Int,∃aN,(Builtin.copy_ #[22,9] 3 #[nE.v,.string s45]).run prog w9=.ok (.int .i64 kN) aN/\
 dwE aN λaV=>
 ∃S2:World->Prop,S2 aV/\
 ∃qQ,(∀w',S2 w'->w'.cell? ((⟨r5,0,none⟩:Addr).add 1)=some (.int .i64 qQ))/\
 ∃lr,(∀w',S2 w'->w'.cell? ((⟨r5,0,none⟩:Addr).add 2)=some (.int .i64 lr))/\
 Calls prog 145 #[] aV λe aO=>
 ∃m47:Option Nat,e=.returned (.map m47)/\
 ∃S3:World->Prop,S3 aO/\(∀u,S3 u->S2 u)/\
 ∃ls:Int,∃y2:Int,∃y3:Int,∃y4:Value,∃y5:Value,(∀w',S3 w'->(Instr.lookup 176 (.map m47) (.int .i64 qQ) false).run prog w'=.ok (.agg #[.int .u8 ls,.int .i64 y2,.int .i64 y3,y4,y5]) w')/\
 0<=(10:Int)/\(10:Int)<(16:Int)/\
 st1 ((⟨r6,0,none⟩:Addr).add ((10:Int).toNat * 1)) (.int .u8 ls) aO λaI=>
 ∃S4:World->Prop,S4 aI/\(∀u,S4 u->S3 u)/\
 0<=(11:Int)/\(11:Int)<(16:Int)/\
 st1 ((⟨r6,0,none⟩:Addr).add ((11:Int).toNat * 1)) (.int .u8 (IntKind.u8.wrap lr)) aI λbt=>
 ∃b58,bt.cell? ((⟨r5,0,none⟩:Addr).add 3)=some (.bool b58)/\
 Br b58 (
 0<=(12:Int)/\(12:Int)<(16:Int)/\
 st1 ((⟨r6,0,none⟩:Addr).add ((12:Int).toNat * 1)) (.int .u8 1) bt λbr=>
 16<=16/\0<=16/\
 ∃jS:SV,∃bI,(Builtin.append_ #[22,22] 22 #[l3.v,.slice (some (if 16=0 then(⟨r6,0,none⟩:Addr)else(⟨r6,0,none⟩:Addr).add (0 * 1))) (16 - 0) (16 - 0)]).run prog br=.ok (jS.v) bI/\
 J1 (jS,(IntKind.i64.wrap (eJ+1))) bI) (
 16<=16/\0<=16/\
 ∃jS:SV,∃bJ,(Builtin.append_ #[22,22] 22 #[l3.v,.slice (some (if 16=0 then(⟨r6,0,none⟩:Addr)else(⟨r6,0,none⟩:Addr).add (0 * 1))) (16 - 0) (16 - 0)]).run prog bt=.ok (jS.v) bJ/\
 J1 (jS,(IntKind.i64.wrap (eJ+1))) bJ)) (
 xKR R l3 ds w)
def yZ5(R:Rt)(l3 eR:SV)(sM eJ:Int)(ds:Ds)(w:World):Prop:=
 zQF (λ(J1:(SV × Int)->World->Prop) (s:SV × Int) (w:World)=>xVc R J1 s.1 eR sM s.2 ds w) (l3,eJ) w
def xJ9(R:Rt)(aw:Int)(ah ai:SV)(ds:Ds)(w:World):Prop:=
 alE (.cells #[.int .i64 aw,ah.v,ai.v] 35) w λr1 bR=>
 dwE bR λcK=>
 ∃S5:World->Prop,S5 cK/\
 ∃n8,(∀w',S5 w'->w'.cell? (⟨r1,0,none⟩:Addr)=some (.int .i64 n8))/\
 ∃io:SV,(∀w',S5 w'->w'.cell? ((⟨r1,0,none⟩:Addr).add 2)=some (io.v))/\
 (
 alE (.cells #[.int .u8 67,.int .u8 (IntKind.u8.wrap n8)] 5) cK λdF cj=>
 S5 cj/\
 Calls prog 202 #[.int .i64 (io.len:Int),.int .i64 4] cj λe cr=>
 ∃aW:SV,e=.returned (aW.v)/\
 S5 cr/\
 ∃fe:SV,∃dX,(Builtin.append_ #[22,22] 22 #[.slice (some ⟨dF,0,none⟩) 2 2,aW.v]).run prog cr=.ok (fe.v) dX/\
 ∃dr:SV,dX.cell? ((⟨r1,0,none⟩:Addr).add 1)=some (dr.v)/\
 Calls prog 159 #[.int .i64 (dr.len:Int)] dX λe dQ=>
 ∃kj:Int,e=.returned (.int .i64 kj)/\
 Calls prog 202 #[.int .i64 kj,.int .i64 2] dQ λe dx=>
 ∃cH:SV,e=.returned (cH.v)/\
 ∃dv:SV,∃gj,(Builtin.append_ #[22,22] 22 #[fe.v,cH.v]).run prog dx=.ok (dv.v) gj/\
 ∃dZ:SV,gj.cell? ((⟨r1,0,none⟩:Addr).add 1)=some (dZ.v)/\
 Calls prog 161 #[dZ.v] gj λe fm=>
 ∃ct:Int,e=.returned (.int .i64 ct)/\
 Calls prog 202 #[.int .i64 ct,.int .i64 2] fm λe gS=>
 ∃bV:SV,e=.returned (bV.v)/\
 ∃eg:SV,∃cy,(Builtin.append_ #[22,22] 22 #[dv.v,bV.v]).run prog gS=.ok (eg.v) cy/\
 ∃gD:SV,cy.cell? ((⟨r1,0,none⟩:Addr).add 1)=some (gD.v)/\
 alE (.cells #[.int .u8 (IntKind.u8.wrap (gD.len:Int)),.int .u8 0] 5) cy λy6 gb=>
 ∃iz:SV,∃gT,(Builtin.append_ #[22,22] 22 #[eg.v,.slice (some ⟨y6,0,none⟩) 2 2]).run prog gb=.ok (iz.v) gT/\
 ∃eR:SV,gT.cell? ((⟨r1,0,none⟩:Addr).add 1)=some (eR.v)/\
 yZ5 R iz eR (eR.len:Int) 0 ds gT)/\(
 Calls prog 202 #[.int .i64 (io.len:Int),.int .i64 4] cK λe fX=>
 ∃aW:SV,e=.returned (aW.v)/\
 S5 fX/\
 alE (.cells #[.int .u8 67,.int .u8 (IntKind.u8.wrap n8)] 5) fX λdF gz=>
 S5 gz/\
 ∃fe:SV,∃fW,(Builtin.append_ #[22,22] 22 #[.slice (some ⟨dF,0,none⟩) 2 2,aW.v]).run prog gz=.ok (fe.v) fW/\
 ∃dr:SV,fW.cell? ((⟨r1,0,none⟩:Addr).add 1)=some (dr.v)/\
 Calls prog 159 #[.int .i64 (dr.len:Int)] fW λe fo=>
 ∃kj:Int,e=.returned (.int .i64 kj)/\
 Calls prog 202 #[.int .i64 kj,.int .i64 2] fo λe iN=>
 ∃cH:SV,e=.returned (cH.v)/\
 ∃dv:SV,∃qU,(Builtin.append_ #[22,22] 22 #[fe.v,cH.v]).run prog iN=.ok (dv.v) qU/\
 ∃dZ:SV,qU.cell? ((⟨r1,0,none⟩:Addr).add 1)=some (dZ.v)/\
 Calls prog 161 #[dZ.v] qU λe nc=>
 ∃ct:Int,e=.returned (.int .i64 ct)/\
 Calls prog 202 #[.int .i64 ct,.int .i64 2] nc λe kR=>
 ∃bV:SV,e=.returned (bV.v)/\
 ∃eg:SV,∃kW,(Builtin.append_ #[22,22] 22 #[dv.v,bV.v]).run prog kR=.ok (eg.v) kW/\
 ∃gD:SV,kW.cell? ((⟨r1,0,none⟩:Addr).add 1)=some (gD.v)/\
 alE (.cells #[.int .u8 (IntKind.u8.wrap (gD.len:Int)),.int .u8 0] 5) kW λy6 qV=>
 ∃iz:SV,∃qw,(Builtin.append_ #[22,22] 22 #[eg.v,.slice (some ⟨y6,0,none⟩) 2 2]).run prog qV=.ok (iz.v) qw/\
 ∃eR:SV,qw.cell? ((⟨r1,0,none⟩:Addr).add 1)=some (eR.v)/\
 yZ5 R iz eR (eR.len:Int) 0 ds qw)
theorem F157_p:Pl prog f157 [aS 0 [.int .i64,.slice,.slice]] xJ9:=λR=>
 pc 6 (rest [lS 3,lS 37,iS 38,iS 39] (yZ5 R) (bk 0 (rest [lS 3] (xKR R) lf) (lp [lS 3,iS 39] [lS 3,lS 37,iS 38,iS 39] (xVc R) zXN λJ1=>lf)))
theorem yW8 (aw:Int) (ah ai:SV) (w:World) (R:Rt) (h:xJ9 R aw ah ai [] w):Calls prog 157 #[.agg #[.int .i64 aw,ah.v,ai.v]] w R:=
 plC F157_p func157 h
def xWk(R:Rt)(l5:SV)(ds:Ds)(w:World):Prop:=
 zQc prog ds w λw1=>
 R (.returned (l5.v)) w1
def xWV (R:Rt) (J1:(Int × SV × Int)->World->Prop) (n0:Int) (l5:SV) (n6 n7:Int) (ds:Ds) (w:World):Prop:=
 Br (decide (n7<n6)) (
 alE (.cells #[.int .u8 (IntKind.u8.wrap n0)] 5) w λnC w2=>
 ∃cz:SV,∃w3,(Builtin.append_ #[22,22] 22 #[l5.v,.slice (some ⟨nC,0,none⟩) 1 1]).run prog w2=.ok (cz.v) w3/\
 0<=(8:Int)/\
 J1 ((n0.fdiv (2 ^ 8)),cz,(IntKind.i64.wrap (n7+1))) w3) (
 xWk R l5 ds w)
def xJX(R:Rt)(n0:Int)(l5:SV)(n6 n7:Int)(ds:Ds)(w:World):Prop:=
 zQF (λ(J1:(Int × SV × Int)->World->Prop) (s:Int × SV × Int) (w:World)=>xWV R J1 s.1 s.2.1 n6 s.2.2 ds w) (n0,l5,n7) w
def xVK(R:Rt)(n0 n1:Int)(ds:Ds)(w:World):Prop:=
 xJX R n0 ⟨none,0,0⟩ n1 0 ds w
theorem F202_p:Pl prog f202 [iS 0,iS 1] xVK:=λR=>
 pc 3 (rest [iS 0,lS 5,iS 6,iS 7] (xJX R) (bk 0 (rest [lS 5] (xWk R) lf) (lp [iS 0,lS 5,iS 7] [iS 0,lS 5,iS 6,iS 7] (xWV R) zXN λJ1=>lf)))
theorem yWS (n0 n1:Int) (w:World) (R:Rt) (h:xVK R n0 n1 [] w):Calls prog 202 #[.int .i64 n0,.int .i64 n1] w R:=
 plC F202_p func202 h
def xKQ(R:Rt)(n0:Int)(ds:Ds)(w:World):Prop:=
 zQc prog ds w λw1=>
 R (.returned (.int .i64 (IntKind.i64.wrap ((13:Int)+(IntKind.i64.wrap ((16:Int) * n0)))))) w1
theorem F159_p:Pl prog f159 [iS 0] xKQ:=λR=>
 lf
theorem yV6 (n0:Int) (w:World) (R:Rt) (h:xKQ R n0 [] w):Calls prog 159 #[.int .i64 n0] w R:=
 plC F159_p func159 h
end Go.Proofs.YtaeecpjhfmcliaaGreatDoor
/- Shallow texts of functions, printed by program, each checked by the kernel against the loaded code. No condition. -/
namespace Go.Proofs.YtaeecpjhfmcliaaGreatDoor
open Go.Sh Tryz
def xWZ(R:Rt)(aw:Int)(ah ai:SV)(n1:Int)(ds:Ds)(w:World):Prop:=
 alE (.cells #[.int .i64 aw,ah.v,ai.v] 35) w λr2 w1=>
 ∃eD,w1.cell? ((⟨r2,0,none⟩:Addr).add 0)=some (.int .i64 eD)/\
 ∃cB:SV,w1.cell? ((⟨r2,0,none⟩:Addr).add 1)=some (cB.v)/\
 ∃bX:SV,w1.cell? ((⟨r2,0,none⟩:Addr).add 2)=some (bX.v)/\
 Calls prog 106 #[.agg #[.int .i64 eD,cB.v,bX.v]] w1 λe w2=>
 ∃n8:Int,e=.returned (.int .i64 n8)/\
 Br (n8 != 0) (
 zQc prog ds w2 λw3=>
 R (.returned (.tuple #[.slice none 0 0,.int .i64 n8])) w3) (
 Br (decide (n1<1)) (
 zQc prog ds w2 λw4=>
 R (.returned (.tuple #[.slice none 0 0,.int .i64 4])) w4) (
 ∃dk:SV,w2.cell? ((⟨r2,0,none⟩:Addr).add 2)=some (dk.v)/\
 Br (decide (n1 > (dk.len:Int))) (
 zQc prog ds w2 λw5=>
 R (.returned (.tuple #[.slice none 0 0,.int .i64 4])) w5) (
 dwE w2 λw6=>
 ∃dv:SV,w6.cell? ((⟨r2,0,none⟩:Addr).add 1)=some (dv.v)/\
 ∃bY:SV,w6.cell? ((⟨r2,0,none⟩:Addr).add 2)=some (bY.v)/\
 ∃a7,bY.a=some a7/\0<=(IntKind.i64.wrap (n1 - 1))/\(IntKind.i64.wrap (n1 - 1))<(bY.len:Int)/\
 ∃dD,w6.cell? ((a7.add ((IntKind.i64.wrap (n1 - 1)).toNat * 2)).add 0)=some (.bool dD)/\
 ∃aP:SV,w6.cell? ((a7.add ((IntKind.i64.wrap (n1 - 1)).toNat * 2)).add 1)=some (aP.v)/\
 Calls prog 158 #[dv.v,.agg #[.bool dD,aP.v]] w6 λe w8=>
 ∃i6:SV,e=.returned (i6.v)/\
 zQc prog ds w8 λw9=>
 R (.returned (.tuple #[i6.v,.int .i64 0])) w9)))
theorem F144_p:Pl prog f144 [aS 0 [.int .i64,.slice,.slice],iS 1] xWZ:=λR=>
 lf
theorem yW6 (aw:Int) (ah ai:SV) (n1:Int) (w:World) (R:Rt) (h:xWZ R aw ah ai n1 [] w):Calls prog 144 #[.agg #[.int .i64 aw,ah.v,ai.v],.int .i64 n1] w R:=
 plC F144_p func144 h
def xKb(R:Rt)(l5 l6:SV)(p7:Option Addr)(ds:Ds)(w:World):Prop:=
 ∃o8:SV,∃w1,(Builtin.append_ #[22,22] 22 #[l5.v,l6.v]).run prog w=.ok (o8.v) w1/\
 Calls prog 201 #[.pointer p7] w1 λe w2=>
 ∃s69:ByteArray,e=.returned (.string s69)/\
 ∃nh:SV,∃w3,(Builtin.append_ #[22,9] 22 #[o8.v,.string s69]).run prog w2=.ok (nh.v) w3/\
 zQc prog ds w3 λw4=>
 R (.returned (nh.v)) w4
def xV9 (R:Rt) (J1:(Int × Int)->World->Prop) (p3:Option Addr) (l5 l6:SV) (p7:Option Addr) (n8:Int) (dS:SV) (kP df:Int) (ds:Ds) (w:World):Prop:=
 Br (decide (df<kP)) (
 ∃a5,dS.a=some a5/\0<=df/\df<(dS.len:Int)/\
 ∃uK,w.cell? ((a5.add (df.toNat * 4)).add 0)=some (.string uK)/\
 ∃fp,w.cell? ((a5.add (df.toNat * 4)).add 1)=some (.int .i64 fp)/\
 ∃uL,w.cell? ((a5.add (df.toNat * 4)).add 2)=some (.int .i64 uL)/\
 ∃uM,w.cell? ((a5.add (df.toNat * 4)).add 3)=some (.bool uM)/\
 alE (.cells #[.string (⟨#[]⟩:ByteArray),.int .i64 0,.int .i64 0,.bool false] 129) w λdF w6=>
 stA prog 129 (⟨dF,0,none⟩:Addr) #[.string uK,.int .i64 fp,.int .i64 uL,.bool uM] w6 λw7=>
 zQh p3 λa8=>
 ∃eg:SV,w7.cell? (a8.add 1)=some (eg.v)/\
 ∃a9,eg.a=some a9/\0<=df/\df<(eg.len:Int)/\
 ∃bM,w7.cell? ((a9.add (df.toNat * 3)).add 0)=some (.int .i64 bM)/\
 ∃gE,w7.cell? ((a9.add (df.toNat * 3)).add 1)=some (.int .i64 gE)/\
 ∃nW,w7.cell? ((a9.add (df.toNat * 3)).add 2)=some (.string nW)/\
 alE (.cells #[.int .i64 0,.int .i64 0,.string (⟨#[]⟩:ByteArray)] 73) w7 λco aN=>
 stA prog 73 (⟨co,0,none⟩:Addr) #[.int .i64 bM,.int .i64 gE,.string nW] aN λaV=>
 ∃y7,aV.cell? ((⟨dF,0,none⟩:Addr).add 3)=some (.bool y7)/\
 Br y7 (
 ∃tQ,aV.cell? (⟨co,0,none⟩:Addr)=some (.int .i64 tQ)/\
 Br (tQ == 0) (
 dwE aV λaO=>
 IntKind.i64=IntKind.i64/\(8:Int) ≠ 0/\
 ∃lq,l6.a=some lq/\0<=(IntKind.i64.wrap (n8.tdiv 8))/\(IntKind.i64.wrap (n8.tdiv 8))<(l6.len:Int)/\
 ∃ln,aO.cell? (lq.add ((IntKind.i64.wrap (n8.tdiv 8)).toNat * 1))=some (.int .u8 ln)/\
 IntKind.i64=IntKind.i64/\(8:Int) ≠ 0/\
 0<=(n8.tmod 8)/\
 ∃ga,l6.a=some ga/\0<=(IntKind.i64.wrap (n8.tdiv 8))/\(IntKind.i64.wrap (n8.tdiv 8))<(l6.len:Int)/\
 st1 (ga.add ((IntKind.i64.wrap (n8.tdiv 8)).toNat * 1)) (.int .u8 (IntKind.u8.wrap ((BitVec.ofInt 8 ln ||| BitVec.ofInt 8 (IntKind.u8.wrap ((1:Int) * 2 ^ (min (n8.tmod 8).toNat 8)))).toNat:Nat))) aO λbr=>
 ∃j5,br.cell? (⟨co,0,none⟩:Addr)=some (.int .i64 j5)/\
 Br (j5 == 0) (
 ∃lr,br.cell? ((⟨dF,0,none⟩:Addr).add 2)=some (.int .i64 lr)/\
 Calls prog 155 #[.string (⟨#[32]⟩:ByteArray),.int .i64 lr] br λe bI=>
 ∃pB:ByteArray,e=.returned (.string pB)/\
 Calls prog 199 #[.pointer p7,.string pB] bI λe bJ=>
 ∃iA:Int,∃kw:Value,e=.returned (.tuple #[.int .i64 iA,kw])/\
 J1 ((IntKind.i64.wrap (n8+1)),(IntKind.i64.wrap (df+1))) bJ) (
 dwE br λbR=>
 ∃S2:World->Prop,S2 bR/\
 ∃rB,(∀w',S2 w'->w'.cell? ((⟨dF,0,none⟩:Addr).add 1)=some (.int .i64 rB))/\
 ∃gF,(∀w',S2 w'->w'.cell? ((⟨dF,0,none⟩:Addr).add 0)=some (.string gF))/\
 ∃eW,(∀w',S2 w'->w'.cell? ((⟨dF,0,none⟩:Addr).add 1)=some (.int .i64 eW))/\
 ∃gG,(∀w',S2 w'->w'.cell? ((⟨dF,0,none⟩:Addr).add 2)=some (.int .i64 gG))/\
 ∃gH,(∀w',S2 w'->w'.cell? ((⟨dF,0,none⟩:Addr).add 3)=some (.bool gH))/\
 ∃dG,(∀w',S2 w'->w'.cell? ((⟨co,0,none⟩:Addr).add 0)=some (.int .i64 dG))/\
 ∃gI,(∀w',S2 w'->w'.cell? ((⟨co,0,none⟩:Addr).add 1)=some (.int .i64 gI))/\
 ∃gJ,(∀w',S2 w'->w'.cell? ((⟨co,0,none⟩:Addr).add 2)=some (.string gJ))/\
 Calls prog 145 #[] bR λe cK=>
 ∃rC:Option Nat,e=.returned (.map rC)/\
 ∃S3:World->Prop,S3 cK/\(∀u,S3 u->S2 u)/\
 ∃kx:Int,∃iB:Int,∃iC:Int,∃gK:Value,∃ky:Value,(∀w',S3 w'->(Instr.lookup 176 (.map rC) (.int .i64 rB) false).run prog w'=.ok (.agg #[.int .u8 kx,.int .i64 iB,.int .i64 iC,gK,ky]) w')/\
 fnE gK λf63 first63 kz=>
 zQ6 prog f63=true/\Calls prog f63 (first63.toList ++ (([.agg #[.string gF,.int .i64 eW,.int .i64 gG,.bool gH],.agg #[.int .i64 dG,.int .i64 gI,.string gJ]]:List Value) ++ kz.toList)).toArray cK λe cj=>
 ∃rD:ByteArray,e=.returned (.string rD)/\
 Calls prog 199 #[.pointer p7,.string rD] cj λe cr=>
 ∃kA:Int,∃kB:Value,e=.returned (.tuple #[.int .i64 kA,kB])/\
 J1 ((IntKind.i64.wrap (n8+1)),(IntKind.i64.wrap (df+1))) cr)) (
 ∃j5,aV.cell? (⟨co,0,none⟩:Addr)=some (.int .i64 j5)/\
 Br (j5 == 0) (
 ∃lr,aV.cell? ((⟨dF,0,none⟩:Addr).add 2)=some (.int .i64 lr)/\
 Calls prog 155 #[.string (⟨#[32]⟩:ByteArray),.int .i64 lr] aV λe dX=>
 ∃pB:ByteArray,e=.returned (.string pB)/\
 Calls prog 199 #[.pointer p7,.string pB] dX λe dQ=>
 ∃iA:Int,∃kw:Value,e=.returned (.tuple #[.int .i64 iA,kw])/\
 J1 ((IntKind.i64.wrap (n8+1)),(IntKind.i64.wrap (df+1))) dQ) (
 dwE aV λdx=>
 ∃S4:World->Prop,S4 dx/\
 ∃rB,(∀w',S4 w'->w'.cell? ((⟨dF,0,none⟩:Addr).add 1)=some (.int .i64 rB))/\
 ∃gF,(∀w',S4 w'->w'.cell? ((⟨dF,0,none⟩:Addr).add 0)=some (.string gF))/\
 ∃eW,(∀w',S4 w'->w'.cell? ((⟨dF,0,none⟩:Addr).add 1)=some (.int .i64 eW))/\
 ∃gG,(∀w',S4 w'->w'.cell? ((⟨dF,0,none⟩:Addr).add 2)=some (.int .i64 gG))/\
 ∃gH,(∀w',S4 w'->w'.cell? ((⟨dF,0,none⟩:Addr).add 3)=some (.bool gH))/\
 ∃dG,(∀w',S4 w'->w'.cell? ((⟨co,0,none⟩:Addr).add 0)=some (.int .i64 dG))/\
 ∃gI,(∀w',S4 w'->w'.cell? ((⟨co,0,none⟩:Addr).add 1)=some (.int .i64 gI))/\
 ∃gJ,(∀w',S4 w'->w'.cell? ((⟨co,0,none⟩:Addr).add 2)=some (.string gJ))/\
 Calls prog 145 #[] dx λe gj=>
 ∃rC:Option Nat,e=.returned (.map rC)/\
 ∃S5:World->Prop,S5 gj/\(∀u,S5 u->S4 u)/\
 ∃kx:Int,∃iB:Int,∃iC:Int,∃gK:Value,∃ky:Value,(∀w',S5 w'->(Instr.lookup 176 (.map rC) (.int .i64 rB) false).run prog w'=.ok (.agg #[.int .u8 kx,.int .i64 iB,.int .i64 iC,gK,ky]) w')/\
 fnE gK λf63 first63 kz=>
 zQ6 prog f63=true/\Calls prog f63 (first63.toList ++ (([.agg #[.string gF,.int .i64 eW,.int .i64 gG,.bool gH],.agg #[.int .i64 dG,.int .i64 gI,.string gJ]]:List Value) ++ kz.toList)).toArray gj λe fm=>
 ∃rD:ByteArray,e=.returned (.string rD)/\
 Calls prog 199 #[.pointer p7,.string rD] fm λe gS=>
 ∃kA:Int,∃kB:Value,e=.returned (.tuple #[.int .i64 kA,kB])/\
 J1 ((IntKind.i64.wrap (n8+1)),(IntKind.i64.wrap (df+1))) gS))) (
 ∃j5,aV.cell? (⟨co,0,none⟩:Addr)=some (.int .i64 j5)/\
 Br (j5 == 0) (
 ∃lr,aV.cell? ((⟨dF,0,none⟩:Addr).add 2)=some (.int .i64 lr)/\
 Calls prog 155 #[.string (⟨#[32]⟩:ByteArray),.int .i64 lr] aV λe cy=>
 ∃pB:ByteArray,e=.returned (.string pB)/\
 Calls prog 199 #[.pointer p7,.string pB] cy λe gb=>
 ∃iA:Int,∃kw:Value,e=.returned (.tuple #[.int .i64 iA,kw])/\
 J1 (n8,(IntKind.i64.wrap (df+1))) gb) (
 dwE aV λgT=>
 ∃S6:World->Prop,S6 gT/\
 ∃rB,(∀w',S6 w'->w'.cell? ((⟨dF,0,none⟩:Addr).add 1)=some (.int .i64 rB))/\
 ∃gF,(∀w',S6 w'->w'.cell? ((⟨dF,0,none⟩:Addr).add 0)=some (.string gF))/\
 ∃eW,(∀w',S6 w'->w'.cell? ((⟨dF,0,none⟩:Addr).add 1)=some (.int .i64 eW))/\
 ∃gG,(∀w',S6 w'->w'.cell? ((⟨dF,0,none⟩:Addr).add 2)=some (.int .i64 gG))/\
 ∃gH,(∀w',S6 w'->w'.cell? ((⟨dF,0,none⟩:Addr).add 3)=some (.bool gH))/\
 ∃dG,(∀w',S6 w'->w'.cell? ((⟨co,0,none⟩:Addr).add 0)=some (.int .i64 dG))/\
 ∃gI,(∀w',S6 w'->w'.cell? ((⟨co,0,none⟩:Addr).add 1)=some (.int .i64 gI))/\
 ∃gJ,(∀w',S6 w'->w'.cell? ((⟨co,0,none⟩:Addr).add 2)=some (.string gJ))/\
 Calls prog 145 #[] gT λe fX=>
 ∃rC:Option Nat,e=.returned (.map rC)/\
 ∃S7:World->Prop,S7 fX/\(∀u,S7 u->S6 u)/\
 ∃kx:Int,∃iB:Int,∃iC:Int,∃gK:Value,∃ky:Value,(∀w',S7 w'->(Instr.lookup 176 (.map rC) (.int .i64 rB) false).run prog w'=.ok (.agg #[.int .u8 kx,.int .i64 iB,.int .i64 iC,gK,ky]) w')/\
 fnE gK λf63 first63 kz=>
 zQ6 prog f63=true/\Calls prog f63 (first63.toList ++ (([.agg #[.string gF,.int .i64 eW,.int .i64 gG,.bool gH],.agg #[.int .i64 dG,.int .i64 gI,.string gJ]]:List Value) ++ kz.toList)).toArray fX λe gz=>
 ∃rD:ByteArray,e=.returned (.string rD)/\
 Calls prog 199 #[.pointer p7,.string rD] gz λe fW=>
 ∃kA:Int,∃kB:Value,e=.returned (.tuple #[.int .i64 kA,kB])/\
 J1 (n8,(IntKind.i64.wrap (df+1))) fW))) (
 xKb R l5 l6 p7 ds w)
def yKh(R:Rt)(p3:Option Addr)(l5 l6:SV)(p7:Option Addr)(n8:Int)(dS:SV)(kP df:Int)(ds:Ds)(w:World):Prop:=
 zQF (λ(J1:(Int × Int)->World->Prop) (s:Int × Int) (w:World)=>xV9 R J1 p3 l5 l6 p7 s.1 dS kP s.2 ds w) (n8,df) w
def xVC(R:Rt)(l0:SV)(ei:Bool)(bh:SV)(ds:Ds)(w:World):Prop:=
 alE (.cells #[.bool ei,bh.v] 67) w λr3 fo=>
 alE (.cells #[.int .u8 32] 5) fo λnC iN=>
 ∃iE,iN.cell? (⟨r3,0,none⟩:Addr)=some (.bool iE)/\
 Br iE (
 ∃qR:Addr,(some ⟨nC,0,none⟩)=some qR/\0<=(0:Int)/\(0:Int)<(1:Int)/\
 st1 (qR.add ((0:Int).toNat * 1)) (.int .u8 42) iN λnc=>
 Calls prog 203 #[l0.v] nc λe kR=>
 ∃iI:Int,e=.returned (.int .i64 iI)/\
 ∃dg:SV,∃kW,(Instr.makeSlice 22 (.int .i64 iI) (.int .i64 iI)).run prog kR=.ok (dg.v) kW/\
 alE (.cells #[.pointer none,.slice none 0 0] 220) kW λr7 qV=>
 yKh R (some (⟨r3,0,none⟩:Addr)) ⟨(some ⟨nC,0,none⟩),1,1⟩ dg (some (⟨r7,0,none⟩:Addr)) 0 l0 (l0.len:Int) 0 ds qV) (
 Calls prog 203 #[l0.v] iN λe qw=>
 ∃iI:Int,e=.returned (.int .i64 iI)/\
 ∃dg:SV,∃td,(Instr.makeSlice 22 (.int .i64 iI) (.int .i64 iI)).run prog qw=.ok (dg.v) td/\
 alE (.cells #[.pointer none,.slice none 0 0] 220) td λr7 pC=>
 yKh R (some (⟨r3,0,none⟩:Addr)) ⟨(some ⟨nC,0,none⟩),1,1⟩ dg (some (⟨r7,0,none⟩:Addr)) 0 l0 (l0.len:Int) 0 ds pC)
theorem F158_p:Pl prog f158 [lS 0,aS 1 [.bool,.slice]] xVC:=λR=>
 pc 8 (rest [pS 3,lS 5,lS 6,pS 7,iS 8,lS 20,iS 21,iS 22] (yKh R) (bk 0 (rest [lS 5,lS 6,pS 7] (xKb R) lf) (lp [iS 8,iS 22] [pS 3,lS 5,lS 6,pS 7,iS 8,lS 20,iS 21,iS 22] (xV9 R) zXN λJ1=>lf)))
theorem yWx (l0:SV) (ei:Bool) (bh:SV) (w:World) (R:Rt) (h:xVC R l0 ei bh [] w):Calls prog 158 #[l0.v,.agg #[.bool ei,bh.v]] w R:=
 plC F158_p func158 h
def xKe(R:Rt)(aY:ByteArray)(aJ aZ:Int)(be:Bool)(bF cp:Int)(dq:ByteArray)(ds:Ds)(w:World):Prop:=
 alE (.cells #[.string aY,.int .i64 aJ,.int .i64 aZ,.bool be] 129) w λr2 w1=>
 alE (.cells #[.int .i64 bF,.int .i64 cp,.string dq] 73) w1 λr3 w2=>
 dwE w2 λw3=>
 ∃S1:World->Prop,S1 w3/\
 ∃s6,(∀w',S1 w'->w'.cell? ((⟨r3,0,none⟩:Addr).add 2)=some (.string s6))/\
 ∃n8,(∀w',S1 w'->w'.cell? ((⟨r2,0,none⟩:Addr).add 2)=some (.int .i64 n8))/\
 ∃uN,(∀w',S1 w'->w'.cell? ((⟨r3,0,none⟩:Addr).add 2)=some (.string uN))/\
 Calls prog 155 #[.string (⟨#[32]⟩:ByteArray),.int .i64 (IntKind.i64.wrap (n8 - (uN.size:Int)))] w3 λe w4=>
 ∃qW:ByteArray,e=.returned (.string qW)/\
 S1 w4/\
 ((s6.size+qW.size:Nat):Int)<=9223372036854775807/\
 zQc prog ds w4 λw5=>
 R (.returned (.string (s6 ++ qW))) w5
theorem F186_p:Pl prog f186 [aS 0 [.str,.int .i64,.int .i64,.bool],aS 1 [.int .i64,.int .i64,.str]] xKe:=λR=>
 lf
theorem yVX (aY:ByteArray) (aJ aZ:Int) (be:Bool) (bF cp:Int) (dq:ByteArray) (w:World) (R:Rt) (h:xKe R aY aJ aZ be bF cp dq [] w):Calls prog 186 #[.agg #[.string aY,.int .i64 aJ,.int .i64 aZ,.bool be],.agg #[.int .i64 bF,.int .i64 cp,.string dq]] w R:=
 plC F186_p func186 h
end Go.Proofs.YtaeecpjhfmcliaaGreatDoor
/- Shallow texts of functions, printed by program, each checked by the kernel against the loaded code. No condition. -/
namespace Go.Proofs.YtaeecpjhfmcliaaGreatDoor
open Go.Sh Tryz
def xV7(R:Rt)(p0:Option Addr)(ds:Ds)(w:World):Prop:=
 dwE w λw1=>
 ∃S1:World->Prop,S1 w1/\
 zQh p0 λa2=>
 ∃l6:SV,(∀w',S1 w'->w'.cell? (a2.add 1)=some (l6.v))/\
 zQh p0 λa3=>
 ∃bW:SV,(∀w',S1 w'->w'.cell? (a3.add 1)=some (bW.v))/\
 ∃p7:Option Addr,∃w4,(Builtin.unsafeSliceData_ #[22] 243 #[l6.v]).run prog w1=.ok (.pointer p7) w4/\
 S1 w4/\
 ∃qW:ByteArray,∃w5,(Builtin.unsafeString_ #[243,3] 9 #[.pointer p7,.int .i64 (bW.len:Int)]).run prog w4=.ok (.string qW) w5/\
 zQc prog ds w5 λw6=>
 R (.returned (.string qW)) w6
theorem F201_p:Pl prog f201 [pS 0] xV7:=λR=>
 lf
theorem yVs (p0:Option Addr) (w:World) (R:Rt) (h:xV7 R p0 [] w):Calls prog 201 #[.pointer p0] w R:=
 plC F201_p func201 h
end Go.Proofs.YtaeecpjhfmcliaaGreatDoor
/- Shallow texts of functions, printed by program, each checked by the kernel against the loaded code. No condition. -/
namespace Go.Proofs.YtaeecpjhfmcliaaGreatDoor
open Go.Sh Tryz
def xVV(R:Rt)(aw aJ:Int)(fZ:ByteArray)(bF cp:Int)(dq:ByteArray)(ds:Ds)(w:World):Prop:=
 alE (.cells #[.int .i64 aw,.int .i64 aJ,.string fZ] 73) w λr2 w1=>
 alE (.cells #[.int .i64 bF,.int .i64 cp,.string dq] 73) w1 λr3 w2=>
 ∃n6,w2.cell? (⟨r2,0,none⟩:Addr)=some (.int .i64 n6)/\
 ∃n8,w2.cell? (⟨r3,0,none⟩:Addr)=some (.int .i64 n8)/\
 Br (n6 == n8) (
 ∃dy,w2.cell? ((⟨r2,0,none⟩:Addr).add 1)=some (.int .i64 dy)/\
 ∃ng,w2.cell? ((⟨r3,0,none⟩:Addr).add 1)=some (.int .i64 ng)/\
 Br (dy == ng) (
 ∃nH,w2.cell? ((⟨r2,0,none⟩:Addr).add 2)=some (.string nH)/\
 ∃s21,w2.cell? ((⟨r3,0,none⟩:Addr).add 2)=some (.string s21)/\
 zQc prog ds w2 λw3=>
 R (.returned (.bool (nH.toList == s21.toList))) w3) (
 zQc prog ds w2 λw4=>
 R (.returned (.bool false)) w4)) (
 zQc prog ds w2 λw5=>
 R (.returned (.bool false)) w5)
theorem F140_p:Pl prog f140 [aS 0 [.int .i64,.int .i64,.str],aS 1 [.int .i64,.int .i64,.str]] xVV:=λR=>
 lf
theorem yVD (aw aJ:Int) (fZ:ByteArray) (bF cp:Int) (dq:ByteArray) (w:World) (R:Rt) (h:xVV R aw aJ fZ bF cp dq [] w):Calls prog 140 #[.agg #[.int .i64 aw,.int .i64 aJ,.string fZ],.agg #[.int .i64 bF,.int .i64 cp,.string dq]] w R:=
 plC F140_p func140 h
end Go.Proofs.YtaeecpjhfmcliaaGreatDoor
/- Shallow texts of functions, printed by program, each checked by the kernel against the loaded code. No condition. -/
namespace Go.Proofs.YtaeecpjhfmcliaaGreatDoor
open Go.Sh Tryz
def xKu(R:Rt)(l0:SV)(ds:Ds)(w:World):Prop:=
 Calls prog 141 #[l0.v] w λe w1=>
 ∃n6:Int,e=.returned (.int .i64 n6)/\
 Br (n6 != 0) (
 zQc prog ds w1 λw2=>
 R (.returned (.tuple #[.int .i64 0,.int .i64 n6])) w2) (
 Calls prog 161 #[l0.v] w1 λe w3=>
 ∃dC:Int,e=.returned (.int .i64 dC)/\
 zQc prog ds w3 λw4=>
 R (.returned (.tuple #[.int .i64 dC,.int .i64 0])) w4)
theorem F128_p:Pl prog f128 [lS 0] xKu:=λR=>
 lf
theorem yWH (l0:SV) (w:World) (R:Rt) (h:xKu R l0 [] w):Calls prog 128 #[l0.v] w R:=
 plC F128_p func128 h
end Go.Proofs.YtaeecpjhfmcliaaGreatDoor
/- Shallow texts of functions, printed by program, each checked by the kernel against the loaded code. No condition. -/
namespace Go.Proofs.YtaeecpjhfmcliaaGreatDoor
open Go.Sh Tryz
def F57_1(R:Rt)(n3:Int)(ds:Ds)(w:World):Prop:=
 zQc prog ds w λw1=>
 R (.returned (.int .i64 n3)) w1
def F57_2 (R:Rt) (J1:(Int × Int)->World->Prop) (p1:Option Addr) (n3 n5:Int) (ds:Ds) (w:World):Prop:=
 zQh p1 λa2=>
 ∃eg:SV,w.cell? (a2.add 2)=some (eg.v)/\
 Br (decide (n5<(eg.len:Int))) (
 zQh p1 λa3=>
 ∃iz:SV,w.cell? (a3.add 2)=some (iz.v)/\
 ∃a4,iz.a=some a4/\0<=n5/\n5<(iz.len:Int)/\
 ∃gk:SV,w.cell? ((a4.add (n5.toNat * 2)).add 1)=some (gk.v)/\
 Calls prog 58 #[gk.v] w λe w5=>
 ∃gL:Int,e=.returned (.int .i64 gL)/\
 J1 ((IntKind.i64.wrap (n3+(IntKind.i64.wrap ((8:Int)+gL)))),(IntKind.i64.wrap (n5+1))) w5) (
 F57_1 R n3 ds w)
def F57_3(R:Rt)(p1:Option Addr)(n3 n5:Int)(ds:Ds)(w:World):Prop:=
 zQF (λ(J1:(Int × Int)->World->Prop) (s:Int × Int) (w:World)=>F57_2 R J1 p1 s.1 s.2 ds w) (n3,n5) w
def F57_5(R:Rt)(p1:Option Addr)(n3:Int)(ds:Ds)(w:World):Prop:=
 F57_3 R p1 n3 0 ds w
def F57_6 (R:Rt) (J1:(Int × Int)->World->Prop) (p1:Option Addr) (n3 n4:Int) (ds:Ds) (w:World):Prop:=
 zQh p1 λa6=>
 ∃io:SV,w.cell? (a6.add 1)=some (io.v)/\
 Br (decide (n4<(io.len:Int))) (
 zQh p1 λa7=>
 ∃dg:SV,w.cell? (a7.add 1)=some (dg.v)/\
 ∃a8,dg.a=some a8/\0<=n4/\n4<(dg.len:Int)/\
 ∃s23,w.cell? (a8.add (n4.toNat * 4))=some (.string s23)/\
 J1 ((IntKind.i64.wrap (n3+(s23.size:Int))),(IntKind.i64.wrap (n4+1))) w) (
 F57_5 R p1 n3 ds w)
def F57_7(R:Rt)(p1:Option Addr)(n3 n4:Int)(ds:Ds)(w:World):Prop:=
 zQF (λ(J1:(Int × Int)->World->Prop) (s:Int × Int) (w:World)=>F57_6 R J1 p1 s.1 s.2 ds w) (n3,n4) w
def F57_9(R:Rt)(aw:Int)(ah ai:SV)(ds:Ds)(w:World):Prop:=
 alE (.cells #[.int .i64 aw,ah.v,ai.v] 35) w λr1 w9=>
 ∃l7:SV,w9.cell? ((⟨r1,0,none⟩:Addr).add 1)=some (l7.v)/\
 F57_7 R (some (⟨r1,0,none⟩:Addr)) (IntKind.i64.wrap ((16:Int) * (l7.len:Int))) 0 ds w9
theorem F57_p:Pl prog f57 [aS 0 [.int .i64,.slice,.slice]] F57_9:=λR=>
 pc 3 (rest [pS 1,iS 3,iS 4] (F57_7 R) (bk 0 (rest [pS 1,iS 3] (F57_5 R) (pc 1 (rest [pS 1,iS 3,iS 5] (F57_3 R) (bk 2 (rest [iS 3] (F57_1 R) lf) (lp [iS 3,iS 5] [pS 1,iS 3,iS 5] (F57_2 R) zXN λJ1=>lf))))) (lp [iS 3,iS 4] [pS 1,iS 3,iS 4] (F57_6 R) zXN λJ1=>lf)))
theorem xQE (aw:Int) (ah ai:SV) (w:World) (R:Rt) (h:F57_9 R aw ah ai [] w):Calls prog 57 #[.agg #[.int .i64 aw,ah.v,ai.v]] w R:=
 plC F57_p func57 h
def F58_1(R:Rt)(n3:Int)(ds:Ds)(w:World):Prop:=
 zQc prog ds w λw1=>
 R (.returned (.int .i64 n3)) w1
def F58_2 (R:Rt) (J1:(Int × Int)->World->Prop) (l0:SV) (n3 n4:Int) (ds:Ds) (w:World):Prop:=
 Br (decide (n4<(l0.len:Int))) (
 ∃a2,l0.a=some a2/\0<=n4/\n4<(l0.len:Int)/\
 ∃nH,w.cell? ((a2.add (n4.toNat * 3)).add 2)=some (.string nH)/\
 J1 ((IntKind.i64.wrap (n3+(nH.size:Int))),(IntKind.i64.wrap (n4+1))) w) (
 F58_1 R n3 ds w)
def F58_3(R:Rt)(l0:SV)(n3 n4:Int)(ds:Ds)(w:World):Prop:=
 zQF (λ(J1:(Int × Int)->World->Prop) (s:Int × Int) (w:World)=>F58_2 R J1 l0 s.1 s.2 ds w) (n3,n4) w
def F58_5(R:Rt)(l0:SV)(ds:Ds)(w:World):Prop:=
 F58_3 R l0 (IntKind.i64.wrap ((8:Int) * (l0.len:Int))) 0 ds w
theorem F58_p:Pl prog f58 [lS 0] F58_5:=λR=>
 pc 3 (rest [lS 0,iS 3,iS 4] (F58_3 R) (bk 0 (rest [iS 3] (F58_1 R) lf) (lp [iS 3,iS 4] [lS 0,iS 3,iS 4] (F58_2 R) zXN λJ1=>lf)))
theorem xXW (l0:SV) (w:World) (R:Rt) (h:F58_5 R l0 [] w):Calls prog 58 #[l0.v] w R:=
 plC F58_p func58 h
end Go.Proofs.YtaeecpjhfmcliaaGreatDoor
/- Shallow texts of functions, printed by program, each checked by the kernel against the loaded code. No condition. -/
namespace Go.Proofs.YtaeecpjhfmcliaaGreatDoor
open Go.Sh Tryz
def xJF(R:Rt)(p2 p5:Option Addr)(ds:Ds)(w:World):Prop:=
 zQh p5 λa1=>
 ∃dD,w.cell? (a1.add 0)=some (.bool dD)/\
 ∃aP:SV,w.cell? (a1.add 1)=some (aP.v)/\
 zQh p2 λa2=>
 stA prog 67 a2 #[.bool dD,aP.v] w λw3=>
 zQc prog ds w3 λw4=>
 zQh p2 λa5=>
 ∃bN,w4.cell? (a5.add 0)=some (.bool bN)/\
 ∃ab:SV,w4.cell? (a5.add 1)=some (ab.v)/\
 R (.returned (.tuple #[.agg #[.bool bN,ab.v],.int .i64 0])) w4
def xJV (R:Rt) (J1:(Int)->World->Prop) (p2 p5:Option Addr) (aW:SV) (kv n16:Int) (ds:Ds) (w:World):Prop:=
 Br (decide (n16<kv)) (
 ∃a6,aW.a=some a6/\0<=n16/\n16<(aW.len:Int)/\
 ∃jL,w.cell? ((a6.add (n16.toNat * 4)).add 0)=some (.string jL)/\
 ∃bT,w.cell? ((a6.add (n16.toNat * 4)).add 1)=some (.int .i64 bT)/\
 ∃jM,w.cell? ((a6.add (n16.toNat * 4)).add 2)=some (.int .i64 jM)/\
 ∃gA,w.cell? ((a6.add (n16.toNat * 4)).add 3)=some (.bool gA)/\
 alE (.cells #[.string (⟨#[]⟩:ByteArray),.int .i64 0,.int .i64 0,.bool false] 129) w λr7 w7=>
 stA prog 129 (⟨r7,0,none⟩:Addr) #[.string jL,.int .i64 bT,.int .i64 jM,.bool gA] w7 λw8=>
 dwE w8 λw9=>
 ∃S1:World->Prop,S1 w9/\
 zQh p5 λeu=>
 ∃cH:SV,(∀w',S1 w'->w'.cell? (eu.add 1)=some (cH.v))/\
 ∃uO,(∀w',S1 w'->w'.cell? ((⟨r7,0,none⟩:Addr).add 0)=some (.string uO))/\
 ∃uP,(∀w',S1 w'->w'.cell? ((⟨r7,0,none⟩:Addr).add 1)=some (.int .i64 uP))/\
 ∃uQ,(∀w',S1 w'->w'.cell? ((⟨r7,0,none⟩:Addr).add 2)=some (.int .i64 uQ))/\
 ∃uR,(∀w',S1 w'->w'.cell? ((⟨r7,0,none⟩:Addr).add 3)=some (.bool uR))/\
 Calls prog 118 #[.agg #[.string uO,.int .i64 uP,.int .i64 uQ,.bool uR]] w9 λe aV=>
 ∃nX:Int,∃dY:Int,∃nY:ByteArray,e=.returned (.agg #[.int .i64 nX,.int .i64 dY,.string nY])/\
 S1 aV/\
 alE (.cells #[.int .i64 nX,.int .i64 dY,.string nY] 73) aV λr24 aO=>
 S1 aO/\
 ∃dZ:SV,∃aI,(Builtin.append_ #[38,38] 38 #[cH.v,.slice (some ⟨r24,0,none⟩) 1 1]).run prog aO=.ok (dZ.v) aI/\
 zQh p5 λga=>
 st1 (ga.add 1) (dZ.v) aI λbr=>
 J1 (IntKind.i64.wrap (n16+1)) br) (
 xJF R p2 p5 ds w)
def xKA(R:Rt)(p2 p5:Option Addr)(aW:SV)(kv n16:Int)(ds:Ds)(w:World):Prop:=
 zQF (λ(J1:(Int)->World->Prop) (s:Int) (w:World)=>xJV R J1 p2 p5 aW kv s ds w) n16 w
def xVS(R:Rt)(l0:SV)(ds:Ds)(w:World):Prop:=
 alE (.cells #[.bool false,.slice none 0 0] 67) w λr2 bI=>
 Calls prog 141 #[l0.v] bI λe bJ=>
 ∃n9:Int,e=.returned (.int .i64 n9)/\
 Br (n9 != 0) (
 stA prog 67 (⟨r2,0,none⟩:Addr) #[.bool false,.slice none 0 0] bJ λbR=>
 zQc prog ds bR λcK=>
 ∃bN,cK.cell? ((⟨r2,0,none⟩:Addr).add 0)=some (.bool bN)/\
 ∃ab:SV,cK.cell? ((⟨r2,0,none⟩:Addr).add 1)=some (ab.v)/\
 R (.returned (.tuple #[.agg #[.bool bN,ab.v],.int .i64 n9])) cK) (
 alE (.cells #[.bool false,.slice none 0 0] 67) bJ λr5 cj=>
 xKA R (some (⟨r2,0,none⟩:Addr)) (some (⟨r5,0,none⟩:Addr)) l0 (l0.len:Int) 0 ds cj)
theorem F164_p:Pl prog f164 [lS 0] xVS:=λR=>
 pc 6 (rest [pS 2,pS 5,lS 14,iS 15,iS 16] (xKA R) (bk 0 (rest [pS 2,pS 5] (xJF R) lf) (lp [iS 16] [pS 2,pS 5,lS 14,iS 15,iS 16] (xJV R) zXN λJ1=>lf)))
theorem yWT (l0:SV) (w:World) (R:Rt) (h:xVS R l0 [] w):Calls prog 164 #[l0.v] w R:=
 plC F164_p func164 h
def F70_1(R:Rt)(ni:Bool)(ah:SV)(ei:Bool)(bh:SV)(ds:Ds)(w:World):Prop:=
 alE (.cells #[.bool ni,ah.v] 67) w λr2 w1=>
 alE (.cells #[.bool ei,bh.v] 67) w1 λr3 w2=>
 ∃b6,w2.cell? (⟨r2,0,none⟩:Addr)=some (.bool b6)/\
 ∃b8,w2.cell? (⟨r3,0,none⟩:Addr)=some (.bool b8)/\
 Br (b6 == b8) (
 ∃io:SV,w2.cell? ((⟨r2,0,none⟩:Addr).add 1)=some (io.v)/\
 ∃aW:SV,w2.cell? ((⟨r3,0,none⟩:Addr).add 1)=some (aW.v)/\
 Calls prog 105 #[io.v,aW.v] w2 λe w3=>
 ∃j4:Bool,e=.returned (.bool j4)/\
 zQc prog ds w3 λw4=>
 R (.returned (.bool j4)) w4) (
 zQc prog ds w2 λw5=>
 R (.returned (.bool false)) w5)
theorem F70_p:Pl prog f70 [aS 0 [.bool,.slice],aS 1 [.bool,.slice]] F70_1:=λR=>
 lf
theorem xQk (ni:Bool) (ah:SV) (ei:Bool) (bh:SV) (w:World) (R:Rt) (h:F70_1 R ni ah ei bh [] w):Calls prog 70 #[.agg #[.bool ni,ah.v],.agg #[.bool ei,bh.v]] w R:=
 plC F70_p func70 h
def xVB(R:Rt)(ds:Ds)(w:World):Prop:=
 zQc prog ds w λw1=>
 R (.returned (.bool true)) w1
def xKk (R:Rt) (J1:(Int)->World->Prop) (l0 l1:SV) (n5:Int) (ds:Ds) (w:World):Prop:=
 Br (decide (n5<(l0.len:Int))) (
 dwE w λw2=>
 ∃a3,l0.a=some a3/\0<=n5/\n5<(l0.len:Int)/\
 ∃gt,w2.cell? ((a3.add (n5.toNat * 3)).add 0)=some (.int .i64 gt)/\
 ∃dW,w2.cell? ((a3.add (n5.toNat * 3)).add 1)=some (.int .i64 dW)/\
 ∃gu,w2.cell? ((a3.add (n5.toNat * 3)).add 2)=some (.string gu)/\
 ∃a4,l1.a=some a4/\0<=n5/\n5<(l1.len:Int)/\
 ∃gM,w2.cell? ((a4.add (n5.toNat * 3)).add 0)=some (.int .i64 gM)/\
 ∃jE,w2.cell? ((a4.add (n5.toNat * 3)).add 1)=some (.int .i64 jE)/\
 ∃uS,w2.cell? ((a4.add (n5.toNat * 3)).add 2)=some (.string uS)/\
 Calls prog 140 #[.agg #[.int .i64 gt,.int .i64 dW,.string gu],.agg #[.int .i64 gM,.int .i64 jE,.string uS]] w2 λe w5=>
 ∃o9:Bool,e=.returned (.bool o9)/\
 Br (!o9) (
 zQc prog ds w5 λw6=>
 R (.returned (.bool false)) w6) (
 J1 (IntKind.i64.wrap (n5+1)) w5)) (
 xVB R ds w)
def xVf(R:Rt)(l0 l1:SV)(n5:Int)(ds:Ds)(w:World):Prop:=
 zQF (λ(J1:(Int)->World->Prop) (s:Int) (w:World)=>xKk R J1 l0 l1 s ds w) n5 w
def xJC(R:Rt)(l0 l1:SV)(ds:Ds)(w:World):Prop:=
 Br ((l0.len:Int) != (l1.len:Int)) (
 zQc prog ds w λw7=>
 R (.returned (.bool false)) w7) (
 xVf R l0 l1 0 ds w)
theorem F105_p:Pl prog f105 [lS 0,lS 1] xJC:=λR=>
 pc 4 (rest [lS 0,lS 1,iS 5] (xVf R) (bk 0 (rest [] (xVB R) lf) (lp [iS 5] [lS 0,lS 1,iS 5] (xKk R) zXN λJ1=>lf)))
theorem yWq (l0 l1:SV) (w:World) (R:Rt) (h:xJC R l0 l1 [] w):Calls prog 105 #[l0.v,l1.v] w R:=
 plC F105_p func105 h
end Go.Proofs.YtaeecpjhfmcliaaGreatDoor
/- Shallow texts of functions, printed by program, each checked by the kernel against the loaded code. No condition. -/
namespace Go.Proofs.YtaeecpjhfmcliaaGreatDoor
open Go.Sh Tryz
def F45_1(R:Rt)(n0:Int)(ds:Ds)(w:World):Prop:=
 alE (.cells #[.int .i64 0,.int .i64 0,.string (⟨#[]⟩:ByteArray)] 73) w λr2 w1=>
 stA prog 73 (⟨r2,0,none⟩:Addr) #[.int .i64 2,.int .i64 n0,.string (⟨#[]⟩:ByteArray)] w1 λw2=>
 zQc prog ds w2 λw3=>
 ∃ag,w3.cell? ((⟨r2,0,none⟩:Addr).add 0)=some (.int .i64 ag)/\
 ∃aj,w3.cell? ((⟨r2,0,none⟩:Addr).add 1)=some (.int .i64 aj)/\
 ∃ak,w3.cell? ((⟨r2,0,none⟩:Addr).add 2)=some (.string ak)/\
 R (.returned (.agg #[.int .i64 ag,.int .i64 aj,.string ak])) w3
theorem F45_p:Pl prog f45 [iS 0] F45_1:=λR=>
 lf
theorem yYz (n0:Int) (w:World) (R:Rt) (h:F45_1 R n0 [] w):Calls prog 45 #[.int .i64 n0] w R:=
 plC F45_p func45 h
end Go.Proofs.YtaeecpjhfmcliaaGreatDoor
/- Shallow texts of functions, printed by program, each checked by the kernel against the loaded code. No condition. -/
namespace Go.Proofs.YtaeecpjhfmcliaaGreatDoor
open Go.Sh Tryz
def F72_1(R:Rt)(l8:SV)(ds:Ds)(w:World):Prop:=
 zQc prog ds w λw1=>
 R (.returned (.tuple #[l8.v,.int .i64 0])) w1
def yVm (R:Rt) (J1:(SV × Int)->World->Prop) (p2 p3:Option Addr) (l8:SV) (eJ gL:Int) (ds:Ds) (w:World):Prop:=
 J1 (l8,(IntKind.i64.wrap (gL+1))) w
def F72_3 (R:Rt) (J1:(SV × Int)->World->Prop) (p2 p3:Option Addr) (l8:SV) (eJ gL:Int) (ds:Ds) (w:World):Prop:=
 Br (decide (gL<eJ)) (
 dwE w λw2=>
 zQh p2 λa3=>
 ∃sN:SV,w2.cell? (a3.add 2)=some (sN.v)/\
 Br (decide (gL >= (sN.len:Int))) (
 alE (.cells #[.int .i64 (IntKind.i64.wrap (gL+1))] 3) w2 λxh w4=>
 ∃kf:SV,∃w5,(Builtin.append_ #[52,52] 52 #[l8.v,.slice (some ⟨xh,0,none⟩) 1 1]).run prog w4=.ok (kf.v) w5/\
 yVm R J1 p2 p3 kf eJ gL ds w5) (
 zQh p3 λa6=>
 ∃rE:SV,w2.cell? (a6.add 2)=some (rE.v)/\
 Br (decide (gL >= (rE.len:Int))) (
 alE (.cells #[.int .i64 (IntKind.i64.wrap (gL+1))] 3) w2 λxh w7=>
 ∃kf:SV,∃w8,(Builtin.append_ #[52,52] 52 #[l8.v,.slice (some ⟨xh,0,none⟩) 1 1]).run prog w7=.ok (kf.v) w8/\
 yVm R J1 p2 p3 kf eJ gL ds w8) (
 zQh p2 λa9=>
 ∃kC:SV,w2.cell? (a9.add 2)=some (kC.v)/\
 ∃eu,kC.a=some eu/\0<=gL/\gL<(kC.len:Int)/\
 ∃y8,w2.cell? (eu.add (gL.toNat * 2))=some (.bool y8)/\
 zQh p3 λdR=>
 ∃za:SV,w2.cell? (dR.add 2)=some (za.v)/\
 ∃kQ,za.a=some kQ/\0<=gL/\gL<(za.len:Int)/\
 ∃uf,w2.cell? (kQ.add (gL.toNat * 2))=some (.bool uf)/\
 ∃b68:Bool,(∀w,(eqS .neq 4 (.tmp 61) (.tmp 67) (.bool y8) (.bool uf)).run prog w=.ok (.bool b68) w)/\
 Br b68 (
 alE (.cells #[.int .i64 (IntKind.i64.wrap (gL+1))] 3) w2 λxh aI=>
 ∃kf:SV,∃bt,(Builtin.append_ #[52,52] 52 #[l8.v,.slice (some ⟨xh,0,none⟩) 1 1]).run prog aI=.ok (kf.v) bt/\
 yVm R J1 p2 p3 kf eJ gL ds bt) (
 zQh p2 λjA=>
 ∃nj:SV,w2.cell? (jA.add 2)=some (nj.v)/\
 ∃iJ,nj.a=some iJ/\0<=gL/\gL<(nj.len:Int)/\
 ∃oX:SV,w2.cell? ((iJ.add (gL.toNat * 2)).add 1)=some (oX.v)/\
 zQh p3 λrF=>
 ∃jT:SV,w2.cell? (rF.add 2)=some (jT.v)/\
 ∃jz,jT.a=some jz/\0<=gL/\gL<(jT.len:Int)/\
 ∃yc:SV,w2.cell? ((jz.add (gL.toNat * 2)).add 1)=some (yc.v)/\
 Calls prog 108 #[oX.v,yc.v] w2 λe cK=>
 ∃b83:Bool,e=.returned (.bool b83)/\
 Br (!b83) (
 alE (.cells #[.int .i64 (IntKind.i64.wrap (gL+1))] 3) cK λxh cj=>
 ∃kf:SV,∃cr,(Builtin.append_ #[52,52] 52 #[l8.v,.slice (some ⟨xh,0,none⟩) 1 1]).run prog cj=.ok (kf.v) cr/\
 yVm R J1 p2 p3 kf eJ gL ds cr) (
 yVm R J1 p2 p3 l8 eJ gL ds cK))))) (
 F72_1 R l8 ds w)
def F72_4(R:Rt)(p2 p3:Option Addr)(l8:SV)(eJ gL:Int)(ds:Ds)(w:World):Prop:=
 zQF (λ(J1:(SV × Int)->World->Prop) (s:SV × Int) (w:World)=>F72_3 R J1 p2 p3 s.1 eJ s.2 ds w) (l8,gL) w
def F72_6(R:Rt)(aw:Int)(ah ai:SV)(bF:Int)(bh cu:SV)(ds:Ds)(w:World):Prop:=
 alE (.cells #[.int .i64 aw,ah.v,ai.v] 35) w λr2 dX=>
 alE (.cells #[.int .i64 bF,bh.v,cu.v] 35) dX λr3 dQ=>
 ∃eV,dQ.cell? ((⟨r2,0,none⟩:Addr).add 0)=some (.int .i64 eV)/\
 ∃bx:SV,dQ.cell? ((⟨r2,0,none⟩:Addr).add 1)=some (bx.v)/\
 ∃bA:SV,dQ.cell? ((⟨r2,0,none⟩:Addr).add 2)=some (bA.v)/\
 Calls prog 106 #[.agg #[.int .i64 eV,bx.v,bA.v]] dQ λe dx=>
 ∃dC:Int,e=.returned (.int .i64 dC)/\
 Br (dC != 0) (
 zQc prog ds dx λgj=>
 R (.returned (.tuple #[.slice none 0 0,.int .i64 dC])) gj) (
 ∃nT,dx.cell? ((⟨r3,0,none⟩:Addr).add 0)=some (.int .i64 nT)/\
 ∃ft:SV,dx.cell? ((⟨r3,0,none⟩:Addr).add 1)=some (ft.v)/\
 ∃lu:SV,dx.cell? ((⟨r3,0,none⟩:Addr).add 2)=some (lu.v)/\
 Calls prog 106 #[.agg #[.int .i64 nT,ft.v,lu.v]] dx λe fm=>
 ∃n16:Int,e=.returned (.int .i64 n16)/\
 Br (n16 != 0) (
 zQc prog ds fm λgS=>
 R (.returned (.tuple #[.slice none 0 0,.int .i64 n16])) gS) (
 ∃kP,fm.cell? (⟨r2,0,none⟩:Addr)=some (.int .i64 kP)/\
 ∃i5,fm.cell? (⟨r3,0,none⟩:Addr)=some (.int .i64 i5)/\
 Br (kP != i5) (
 zQc prog ds fm λcy=>
 R (.returned (.tuple #[.slice none 0 0,.int .i64 10])) cy) (
 ∃bV:SV,fm.cell? ((⟨r2,0,none⟩:Addr).add 1)=some (bV.v)/\
 ∃i6:SV,fm.cell? ((⟨r3,0,none⟩:Addr).add 1)=some (i6.v)/\
 Calls prog 107 #[bV.v,i6.v] fm λe gb=>
 ∃tX:Bool,e=.returned (.bool tX)/\
 Br (!tX) (
 zQc prog ds gb λgT=>
 R (.returned (.tuple #[.slice none 0 0,.int .i64 10])) gT) (
 ∃kg:SV,gb.cell? ((⟨r2,0,none⟩:Addr).add 2)=some (kg.v)/\
 ∃eR:SV,gb.cell? ((⟨r3,0,none⟩:Addr).add 2)=some (eR.v)/\
 ∃eJ:Int,∃fX,(Builtin.max_ #[3,3] 3 #[.int .i64 (kg.len:Int),.int .i64 (eR.len:Int)]).run prog gb=.ok (.int .i64 eJ) fX/\
 F72_4 R (some (⟨r2,0,none⟩:Addr)) (some (⟨r3,0,none⟩:Addr)) ⟨none,0,0⟩ eJ 0 ds fX))))
theorem F72_p:Pl prog f72 [aS 0 [.int .i64,.slice,.slice],aS 1 [.int .i64,.slice,.slice]] F72_6:=λR=>
 pc 11 (rest [pS 2,pS 3,lS 8,iS 39,iS 40] (F72_4 R) (bk 0 (rest [lS 8] (F72_1 R) lf) (lp [lS 8,iS 40] [pS 2,pS 3,lS 8,iS 39,iS 40] (F72_3 R) zXN λJ1=>pc 3 (rest [pS 2,pS 3,lS 8,iS 39,iS 40] (yVm R J1) lf))))
theorem xQu (aw:Int) (ah ai:SV) (bF:Int) (bh cu:SV) (w:World) (R:Rt) (h:F72_6 R aw ah ai bF bh cu [] w):Calls prog 72 #[.agg #[.int .i64 aw,ah.v,ai.v],.agg #[.int .i64 bF,bh.v,cu.v]] w R:=
 plC F72_p func72 h
def xK3(R:Rt)(ds:Ds)(w:World):Prop:=
 zQc prog ds w λw1=>
 R (.returned (.bool true)) w1
def xVR (R:Rt) (J1:(Int)->World->Prop) (l0 l1:SV) (dy eI:Int) (ds:Ds) (w:World):Prop:=
 Br (decide (eI<dy)) (
 dwE w λw2=>
 ∃a3,l0.a=some a3/\0<=eI/\eI<(l0.len:Int)/\
 ∃jL,w2.cell? ((a3.add (eI.toNat * 4)).add 0)=some (.string jL)/\
 ∃bT,w2.cell? ((a3.add (eI.toNat * 4)).add 1)=some (.int .i64 bT)/\
 ∃jM,w2.cell? ((a3.add (eI.toNat * 4)).add 2)=some (.int .i64 jM)/\
 ∃gA,w2.cell? ((a3.add (eI.toNat * 4)).add 3)=some (.bool gA)/\
 ∃a4,l1.a=some a4/\0<=eI/\eI<(l1.len:Int)/\
 ∃jO,w2.cell? ((a4.add (eI.toNat * 4)).add 0)=some (.string jO)/\
 ∃dY,w2.cell? ((a4.add (eI.toNat * 4)).add 1)=some (.int .i64 dY)/\
 ∃jP,w2.cell? ((a4.add (eI.toNat * 4)).add 2)=some (.int .i64 jP)/\
 ∃jQ,w2.cell? ((a4.add (eI.toNat * 4)).add 3)=some (.bool jQ)/\
 ∃te:Bool,(∀w,(eqS .neq 129 (.tmp 19) (.tmp 23) (.agg #[.string jL,.int .i64 bT,.int .i64 jM,.bool gA]) (.agg #[.string jO,.int .i64 dY,.int .i64 jP,.bool jQ])).run prog w=.ok (.bool te) w)/\
 Br te (
 zQc prog ds w2 λw5=>
 R (.returned (.bool false)) w5) (
 J1 (IntKind.i64.wrap (eI+1)) w2)) (
 xK3 R ds w)
def xYb(R:Rt)(l0 l1:SV)(dy eI:Int)(ds:Ds)(w:World):Prop:=
 zQF (λ(J1:(Int)->World->Prop) (s:Int) (w:World)=>xVR R J1 l0 l1 dy s ds w) eI w
def xVE(R:Rt)(l0 l1:SV)(ds:Ds)(w:World):Prop:=
 Br ((l0.len:Int) != (l1.len:Int)) (
 zQc prog ds w λw6=>
 R (.returned (.bool false)) w6) (
 xYb R l0 l1 (l0.len:Int) 0 ds w)
theorem F107_p:Pl prog f107 [lS 0,lS 1] xVE:=λR=>
 pc 4 (rest [lS 0,lS 1,iS 12,iS 13] (xYb R) (bk 0 (rest [] (xK3 R) lf) (lp [iS 13] [lS 0,lS 1,iS 12,iS 13] (xVR R) zXN λJ1=>lf)))
theorem yWf (l0 l1:SV) (w:World) (R:Rt) (h:xVE R l0 l1 [] w):Calls prog 107 #[l0.v,l1.v] w R:=
 plC F107_p func107 h
def xVZ(R:Rt)(ds:Ds)(w:World):Prop:=
 zQc prog ds w λw1=>
 R (.returned (.bool true)) w1
def xVL (R:Rt) (J1:(Int)->World->Prop) (l0 l1:SV) (dy eI:Int) (ds:Ds) (w:World):Prop:=
 Br (decide (eI<dy)) (
 dwE w λw2=>
 ∃a3,l0.a=some a3/\0<=eI/\eI<(l0.len:Int)/\
 ∃dE,w2.cell? ((a3.add (eI.toNat * 3)).add 0)=some (.int .i64 dE)/\
 ∃bT,w2.cell? ((a3.add (eI.toNat * 3)).add 1)=some (.int .i64 bT)/\
 ∃jN,w2.cell? ((a3.add (eI.toNat * 3)).add 2)=some (.string jN)/\
 ∃a4,l1.a=some a4/\0<=eI/\eI<(l1.len:Int)/\
 ∃nX,w2.cell? ((a4.add (eI.toNat * 3)).add 0)=some (.int .i64 nX)/\
 ∃dY,w2.cell? ((a4.add (eI.toNat * 3)).add 1)=some (.int .i64 dY)/\
 ∃nY,w2.cell? ((a4.add (eI.toNat * 3)).add 2)=some (.string nY)/\
 ∃te:Bool,(∀w,(eqS .neq 73 (.tmp 19) (.tmp 23) (.agg #[.int .i64 dE,.int .i64 bT,.string jN]) (.agg #[.int .i64 nX,.int .i64 dY,.string nY])).run prog w=.ok (.bool te) w)/\
 Br te (
 zQc prog ds w2 λw5=>
 R (.returned (.bool false)) w5) (
 J1 (IntKind.i64.wrap (eI+1)) w2)) (
 xVZ R ds w)
def xWG(R:Rt)(l0 l1:SV)(dy eI:Int)(ds:Ds)(w:World):Prop:=
 zQF (λ(J1:(Int)->World->Prop) (s:Int) (w:World)=>xVL R J1 l0 l1 dy s ds w) eI w
def xV3(R:Rt)(l0 l1:SV)(ds:Ds)(w:World):Prop:=
 Br ((l0.len:Int) != (l1.len:Int)) (
 zQc prog ds w λw6=>
 R (.returned (.bool false)) w6) (
 xWG R l0 l1 (l0.len:Int) 0 ds w)
theorem F108_p:Pl prog f108 [lS 0,lS 1] xV3:=λR=>
 pc 4 (rest [lS 0,lS 1,iS 12,iS 13] (xWG R) (bk 0 (rest [] (xVZ R) lf) (lp [iS 13] [lS 0,lS 1,iS 12,iS 13] (xVL R) zXN λJ1=>lf)))
theorem yVk (l0 l1:SV) (w:World) (R:Rt) (h:xV3 R l0 l1 [] w):Calls prog 108 #[l0.v,l1.v] w R:=
 plC F108_p func108 h
def F69_1(R:Rt)(ds:Ds)(w:World):Prop:=
 zQc prog ds w λw1=>
 R (.returned (.bool true)) w1
def F69_2 (R:Rt) (J1:(Int)->World->Prop) (l0 l1:SV) (n5:Int) (ds:Ds) (w:World):Prop:=
 Br (decide (n5<(l0.len:Int))) (
 dwE w λw2=>
 ∃a3,l0.a=some a3/\0<=n5/\n5<(l0.len:Int)/\
 ∃uT,w2.cell? ((a3.add (n5.toNat * 4)).add 0)=some (.string uT)/\
 ∃dW,w2.cell? ((a3.add (n5.toNat * 4)).add 1)=some (.int .i64 dW)/\
 ∃uU,w2.cell? ((a3.add (n5.toNat * 4)).add 2)=some (.int .i64 uU)/\
 ∃nZ,w2.cell? ((a3.add (n5.toNat * 4)).add 3)=some (.bool nZ)/\
 ∃a4,l1.a=some a4/\0<=n5/\n5<(l1.len:Int)/\
 ∃nN,w2.cell? ((a4.add (n5.toNat * 4)).add 0)=some (.string nN)/\
 ∃jE,w2.cell? ((a4.add (n5.toNat * 4)).add 1)=some (.int .i64 jE)/\
 ∃nO,w2.cell? ((a4.add (n5.toNat * 4)).add 2)=some (.int .i64 nO)/\
 ∃nP,w2.cell? ((a4.add (n5.toNat * 4)).add 3)=some (.bool nP)/\
 ∃o9:Bool,(∀w,(eqS .neq 129 (.tmp 20) (.tmp 24) (.agg #[.string uT,.int .i64 dW,.int .i64 uU,.bool nZ]) (.agg #[.string nN,.int .i64 jE,.int .i64 nO,.bool nP])).run prog w=.ok (.bool o9) w)/\
 Br o9 (
 zQc prog ds w2 λw5=>
 R (.returned (.bool false)) w5) (
 J1 (IntKind.i64.wrap (n5+1)) w2)) (
 F69_1 R ds w)
def F69_3(R:Rt)(l0 l1:SV)(n5:Int)(ds:Ds)(w:World):Prop:=
 zQF (λ(J1:(Int)->World->Prop) (s:Int) (w:World)=>F69_2 R J1 l0 l1 s ds w) n5 w
def F69_5(R:Rt)(l0 l1:SV)(ds:Ds)(w:World):Prop:=
 Br ((l0.len:Int) != (l1.len:Int)) (
 zQc prog ds w λw6=>
 R (.returned (.bool false)) w6) (
 F69_3 R l0 l1 0 ds w)
theorem F69_p:Pl prog f69 [lS 0,lS 1] F69_5:=λR=>
 pc 4 (rest [lS 0,lS 1,iS 5] (F69_3 R) (bk 0 (rest [] (F69_1 R) lf) (lp [iS 5] [lS 0,lS 1,iS 5] (F69_2 R) zXN λJ1=>lf)))
theorem xQf (l0 l1:SV) (w:World) (R:Rt) (h:F69_5 R l0 l1 [] w):Calls prog 69 #[l0.v,l1.v] w R:=
 plC F69_p func69 h
end Go.Proofs.YtaeecpjhfmcliaaGreatDoor
/- Shallow texts of functions, printed by program, each checked by the kernel against the loaded code. No condition. -/
namespace Go.Proofs.YtaeecpjhfmcliaaGreatDoor
open Go.Sh Tryz
def xWS(R:Rt)(n0:Int)(ds:Ds)(w:World):Prop:=
 IntKind.i64=IntKind.i64/\(4:Int) ≠ 0/\
 Br ((n0.tmod 4) == 0) (
 IntKind.i64=IntKind.i64/\(100:Int) ≠ 0/\
 Br ((n0.tmod 100) != 0) (
 zQc prog ds w λw1=>
 R (.returned (.bool true)) w1) (
 IntKind.i64=IntKind.i64/\(400:Int) ≠ 0/\
 zQc prog ds w λw2=>
 R (.returned (.bool ((n0.tmod 400) == 0))) w2)) (
 zQc prog ds w λw3=>
 R (.returned (.bool false)) w3)
theorem F239_p:Pl prog f239 [iS 0] xWS:=λR=>
 lf
theorem yVu (n0:Int) (w:World) (R:Rt) (h:xWS R n0 [] w):Calls prog 239 #[.int .i64 n0] w R:=
 plC F239_p func239 h
def xWL(R:Rt)(n0 n1:Int)(ds:Ds)(w:World):Prop:=
 alE (.cells #[.int .i64 0,.int .i64 0,.int .i64 0,.int .i64 0,.int .i64 0,.int .i64 0,.int .i64 0,.int .i64 0,.int .i64 0,.int .i64 0,.int .i64 0,.int .i64 0] 258) w λr5 w1=>
 stA prog 258 (⟨r5,0,none⟩:Addr) #[.int .i64 31,.int .i64 28,.int .i64 31,.int .i64 30,.int .i64 31,.int .i64 30,.int .i64 31,.int .i64 31,.int .i64 30,.int .i64 31,.int .i64 30,.int .i64 31] w1 λw2=>
 Br (n1 == 2) (
 Calls prog 239 #[.int .i64 n0] w2 λe w3=>
 ∃qt:Bool,e=.returned (.bool qt)/\
 Br qt (
 zQc prog ds w3 λw4=>
 R (.returned (.int .i64 29)) w4) (
 0<=(IntKind.i64.wrap (n1 - 1))/\(IntKind.i64.wrap (n1 - 1))<(12:Int)/\
 ∃n16,w3.cell? ((⟨r5,0,none⟩:Addr).add ((IntKind.i64.wrap (n1 - 1)).toNat * 1))=some (.int .i64 n16)/\
 zQc prog ds w3 λw5=>
 R (.returned (.int .i64 n16)) w5)) (
 0<=(IntKind.i64.wrap (n1 - 1))/\(IntKind.i64.wrap (n1 - 1))<(12:Int)/\
 ∃n16,w2.cell? ((⟨r5,0,none⟩:Addr).add ((IntKind.i64.wrap (n1 - 1)).toNat * 1))=some (.int .i64 n16)/\
 zQc prog ds w2 λw6=>
 R (.returned (.int .i64 n16)) w6)
theorem F236_p:Pl prog f236 [iS 0,iS 1] xWL:=λR=>
 lf
theorem yW4 (n0 n1:Int) (w:World) (R:Rt) (h:xWL R n0 n1 [] w):Calls prog 236 #[.int .i64 n0,.int .i64 n1] w R:=
 plC F236_p func236 h
def xKT(R:Rt)(n0:Int)(ds:Ds)(w:World):Prop:=
 IntKind.i64=IntKind.i64/\(4:Int) ≠ 0/\
 IntKind.i64=IntKind.i64/\(100:Int) ≠ 0/\
 IntKind.i64=IntKind.i64/\(400:Int) ≠ 0/\
 zQc prog ds w λw1=>
 R (.returned (.int .i64 (IntKind.i64.wrap ((IntKind.i64.wrap ((IntKind.i64.wrap ((IntKind.i64.wrap ((365:Int) * (IntKind.i64.wrap (n0 - 1))))+(IntKind.i64.wrap ((IntKind.i64.wrap (n0 - 1)).tdiv 4)))) - (IntKind.i64.wrap ((IntKind.i64.wrap (n0 - 1)).tdiv 100))))+(IntKind.i64.wrap ((IntKind.i64.wrap (n0 - 1)).tdiv 400)))))) w1
theorem F237_p:Pl prog f237 [iS 0] xKT:=λR=>
 lf
theorem yVz (n0:Int) (w:World) (R:Rt) (h:xKT R n0 [] w):Calls prog 237 #[.int .i64 n0] w R:=
 plC F237_p func237 h
def xVO(R:Rt)(n8:Int)(ds:Ds)(w:World):Prop:=
 zQc prog ds w λw1=>
 R (.returned (.tuple #[.int .i64 n8,.int .i64 0])) w1
def xWi (R:Rt) (J1:(Int × Int)->World->Prop) (n0 n8 gL ln:Int) (ds:Ds) (w:World):Prop:=
 Br (decide (ln<gL)) (
 Calls prog 236 #[.int .i64 n0,.int .i64 (IntKind.i64.wrap (ln+1))] w λe w2=>
 ∃dp:Int,e=.returned (.int .i64 dp)/\
 J1 ((IntKind.i64.wrap (n8+dp)),(IntKind.i64.wrap (ln+1))) w2) (
 xVO R n8 ds w)
def xWt(R:Rt)(n0 n8 gL ln:Int)(ds:Ds)(w:World):Prop:=
 zQF (λ(J1:(Int × Int)->World->Prop) (s:Int × Int) (w:World)=>xWi R J1 n0 s.1 gL s.2 ds w) (n8,ln) w
def zVK(R:Rt)(n0 n1 n2:Int)(b34:Bool)(ds:Ds)(w:World):Prop:=
 Br b34 (
 zQc prog ds w λw3=>
 R (.returned (.tuple #[.int .i64 0,.int .i64 1])) w3) (
 Calls prog 237 #[.int .i64 n0] w λe w4=>
 ∃j3:Int,e=.returned (.int .i64 j3)/\
 xWt R n0 (IntKind.i64.wrap (j3+n2)) (IntKind.i64.wrap (n1 - 1)) 0 ds w4)
def xVM(R:Rt)(n0 n1 n2:Int)(ds:Ds)(w:World):Prop:=
 Br (decide (n0<1)) (
 zVK R n0 n1 n2 true ds w) (
 Br (decide (n0 > 9999)) (
 zVK R n0 n1 n2 true ds w) (
 Br (decide (n1<1)) (
 zVK R n0 n1 n2 true ds w) (
 Br (decide (n1 > 12)) (
 zVK R n0 n1 n2 true ds w) (
 Br (decide (n2<1)) (
 zVK R n0 n1 n2 true ds w) (
 Calls prog 236 #[.int .i64 n0,.int .i64 n1] w λe w5=>
 ∃nD:Int,e=.returned (.int .i64 nD)/\
 zVK R n0 n1 n2 (decide (n2 > nD)) ds w5)))))
def xVv(R:Rt)(n0 n1 n2:Int)(ds:Ds)(w:World):Prop:=
 xVM R n0 n1 n2 ds w
theorem F226_p:Pl prog f226 [iS 0,iS 1,iS 2] xVv:=λR=>
 pc 1 (rest [iS 0,iS 1,iS 2] (xVM R) (pc 1 (rest [iS 0,iS 1,iS 2,bS 34] (zVK R) (pc 3 (rest [iS 0,iS 8,iS 40,iS 41] (xWt R) (bk 0 (rest [iS 8] (xVO R) lf) (lp [iS 8,iS 41] [iS 0,iS 8,iS 40,iS 41] (xWi R) zXN λJ1=>lf)))))))
theorem yV2 (n0 n1 n2:Int) (w:World) (R:Rt) (h:xVv R n0 n1 n2 [] w):Calls prog 226 #[.int .i64 n0,.int .i64 n1,.int .i64 n2] w R:=
 plC F226_p func226 h
def xJG(R:Rt)(n6 n7 n8:Int)(ds:Ds)(w:World):Prop:=
 zQc prog ds w λw1=>
 R (.returned (.tuple #[.int .i64 n6,.int .i64 n8,.int .i64 n7,.int .i64 0])) w1
def xVn (R:Rt) (J1:(Int × Int)->World->Prop) (n6 n7 n8:Int) (ds:Ds) (w:World):Prop:=
 Calls prog 236 #[.int .i64 n6,.int .i64 n8] w λe w2=>
 ∃tP:Int,e=.returned (.int .i64 tP)/\
 Br (decide (n7 > tP)) (
 Calls prog 236 #[.int .i64 n6,.int .i64 n8] w2 λe w3=>
 ∃j3:Int,e=.returned (.int .i64 j3)/\
 J1 ((IntKind.i64.wrap (n7 - j3)),(IntKind.i64.wrap (n8+1))) w3) (
 xJG R n6 n7 n8 ds w2)
def xKE(R:Rt)(n6 n7 n8:Int)(ds:Ds)(w:World):Prop:=
 zQF (λ(J1:(Int × Int)->World->Prop) (s:Int × Int) (w:World)=>xVn R J1 n6 s.1 s.2 ds w) (n7,n8) w
def xW6(R:Rt)(n0 n6:Int)(ds:Ds)(w:World):Prop:=
 Calls prog 237 #[.int .i64 n6] w λe w4=>
 ∃ct:Int,e=.returned (.int .i64 ct)/\
 xKE R n6 (IntKind.i64.wrap (n0 - ct)) 1 ds w4
def xQm (R:Rt) (J1:(Int)->World->Prop) (n0 n6:Int) (ds:Ds) (w:World):Prop:=
 Calls prog 237 #[.int .i64 (IntKind.i64.wrap (n6+1))] w λe w5=>
 ∃ja:Int,e=.returned (.int .i64 ja)/\
 Br (decide (ja<n0)) (
 J1 (IntKind.i64.wrap (n6+1)) w5) (
 xW6 R n0 n6 ds w5)
def xKx(R:Rt)(n0 n6:Int)(ds:Ds)(w:World):Prop:=
 zQF (λ(J1:(Int)->World->Prop) (s:Int) (w:World)=>xQm R J1 n0 s ds w) n6 w
def xJB(R:Rt)(n0:Int)(ds:Ds)(w:World):Prop:=
 Calls prog 191 #[.int .i64 n0] w λe w6=>
 ∃dO:Bool,e=.returned (.bool dO)/\
 Br (!dO) (
 zQc prog ds w6 λw7=>
 R (.returned (.tuple #[.int .i64 0,.int .i64 0,.int .i64 0,.int .i64 1])) w7) (
 Br (n0 == 0) (
 zQc prog ds w6 λw8=>
 R (.returned (.tuple #[.int .i64 0,.int .i64 0,.int .i64 0,.int .i64 0])) w8) (
 IntKind.i64=IntKind.i64/\(366:Int) ≠ 0/\
 xKx R n0 (IntKind.i64.wrap ((IntKind.i64.wrap (n0.tdiv 366))+1)) ds w6))
theorem F234_p:Pl prog f234 [iS 0] xJB:=λR=>
 pc 6 (rest [iS 0,iS 6] (xKx R) (bk 0 (rest [iS 0,iS 6] (xW6 R) (pc 1 (rest [iS 6,iS 7,iS 8] (xKE R) (bk 2 (rest [iS 6,iS 7,iS 8] (xJG R) lf) (lp [iS 7,iS 8] [iS 6,iS 7,iS 8] (xVn R) zXN λJ1=>lf))))) (lp [iS 6] [iS 0,iS 6] (xQm R) zXN λJ1=>lf)))
theorem yVT (n0:Int) (w:World) (R:Rt) (h:xJB R n0 [] w):Calls prog 234 #[.int .i64 n0] w R:=
 plC F234_p func234 h
def xWd(R:Rt)(n0 n1:Int)(ds:Ds)(w:World):Prop:=
 Calls prog 154 #[.int .i64 n0] w λe w1=>
 ∃s7:ByteArray,e=.returned (.string s7)/\
 Calls prog 155 #[.string (⟨#[48]⟩:ByteArray),.int .i64 (IntKind.i64.wrap (n1 - (s7.size:Int)))] w1 λe w2=>
 ∃sV:ByteArray,e=.returned (.string sV)/\
 ((sV.size+s7.size:Nat):Int)<=9223372036854775807/\
 zQc prog ds w2 λw3=>
 R (.returned (.string (sV ++ s7))) w3
theorem F235_p:Pl prog f235 [iS 0,iS 1] xWd:=λR=>
 lf
theorem yKZ (n0 n1:Int) (w:World) (R:Rt) (h:xWd R n0 n1 [] w):Calls prog 235 #[.int .i64 n0,.int .i64 n1] w R:=
 plC F235_p func235 h
def xKj(R:Rt)(n0:Int)(ds:Ds)(w:World):Prop:=
 Calls prog 234 #[.int .i64 n0] w λe w1=>
 ∃ip:Int,∃ed:Int,∃rv:Int,∃n9_3:Int,e=.returned (.tuple #[.int .i64 ip,.int .i64 ed,.int .i64 rv,.int .i64 n9_3])/\
 Calls prog 235 #[.int .i64 ip,.int .i64 4] w1 λe w2=>
 ∃wZ:ByteArray,e=.returned (.string wZ)/\
 Calls prog 235 #[.int .i64 ed,.int .i64 2] w2 λe w3=>
 ∃xg:ByteArray,e=.returned (.string xg)/\
 ((wZ.size+xg.size:Nat):Int)<=9223372036854775807/\
 Calls prog 235 #[.int .i64 rv,.int .i64 2] w3 λe w4=>
 ∃s20:ByteArray,e=.returned (.string s20)/\
 (((wZ ++ xg).size+s20.size:Nat):Int)<=9223372036854775807/\
 zQc prog ds w4 λw5=>
 R (.returned (.string ((wZ ++ xg) ++ s20))) w5
theorem F225_p:Pl prog f225 [iS 0] xKj:=λR=>
 lf
theorem yVN (n0:Int) (w:World) (R:Rt) (h:xKj R n0 [] w):Calls prog 225 #[.int .i64 n0] w R:=
 plC F225_p func225 h
def xWO(R:Rt)(n0:Int)(ds:Ds)(w:World):Prop:=
 Calls prog 191 #[.int .i64 n0] w λe w1=>
 ∃b5:Bool,e=.returned (.bool b5)/\
 Br (!b5) (
 zQc prog ds w1 λw2=>
 R (.returned (.tuple #[.string (⟨#[]⟩:ByteArray),.int .i64 1])) w2) (
 Br (n0 == 0) (
 zQc prog ds w1 λw3=>
 R (.returned (.tuple #[.string (⟨#[32,32,32,32,32,32,32,32]⟩:ByteArray),.int .i64 0])) w3) (
 Calls prog 225 #[.int .i64 n0] w1 λe w4=>
 ∃uN:ByteArray,e=.returned (.string uN)/\
 zQc prog ds w4 λw5=>
 R (.returned (.tuple #[.string uN,.int .i64 0])) w5))
theorem F212_p:Pl prog f212 [iS 0] xWO:=λR=>
 lf
theorem yWt (n0:Int) (w:World) (R:Rt) (h:xWO R n0 [] w):Calls prog 212 #[.int .i64 n0] w R:=
 plC F212_p func212 h
end Go.Proofs.YtaeecpjhfmcliaaGreatDoor
/- Shallow texts of functions, printed by program, each checked by the kernel against the loaded code. No condition. -/
namespace Go.Proofs.YtaeecpjhfmcliaaGreatDoor
open Go.Sh Tryz
def xKI(R:Rt)(aY:ByteArray)(aJ aZ:Int)(be:Bool)(bF cp:Int)(dq:ByteArray)(ds:Ds)(w:World):Prop:=
 alE (.cells #[.string aY,.int .i64 aJ,.int .i64 aZ,.bool be] 129) w λr2 w1=>
 alE (.cells #[.int .i64 bF,.int .i64 cp,.string dq] 73) w1 λr3 w2=>
 ∃n6,w2.cell? ((⟨r3,0,none⟩:Addr).add 1)=some (.int .i64 n6)/\
 ∃n8,w2.cell? ((⟨r3,0,none⟩:Addr).add 1)=some (.int .i64 n8)/\
 0<=(IntKind.i64.wrap (n8+1))/\(IntKind.i64.wrap (n8+1)).toNat<=(⟨#[70,84]⟩:ByteArray).size/\0<=n6/\n6.toNat<=(IntKind.i64.wrap (n8+1)).toNat/\
 zQc prog ds w2 λw3=>
 R (.returned (.string ((⟨#[70,84]⟩:ByteArray).extract n6.toNat ((IntKind.i64.wrap (n8+1)).toNat)))) w3
theorem F180_p:Pl prog f180 [aS 0 [.str,.int .i64,.int .i64,.bool],aS 1 [.int .i64,.int .i64,.str]] xKI:=λR=>
 lf
theorem yVp (aY:ByteArray) (aJ aZ:Int) (be:Bool) (bF cp:Int) (dq:ByteArray) (w:World) (R:Rt) (h:xKI R aY aJ aZ be bF cp dq [] w):Calls prog 180 #[.agg #[.string aY,.int .i64 aJ,.int .i64 aZ,.bool be],.agg #[.int .i64 bF,.int .i64 cp,.string dq]] w R:=
 plC F180_p func180 h
def xWW(R:Rt)(aY:ByteArray)(aJ aZ:Int)(be:Bool)(bF cp:Int)(dq:ByteArray)(ds:Ds)(w:World):Prop:=
 alE (.cells #[.string aY,.int .i64 aJ,.int .i64 aZ,.bool be] 129) w λr2 w1=>
 alE (.cells #[.int .i64 bF,.int .i64 cp,.string dq] 73) w1 λr3 w2=>
 ∃n9,w2.cell? ((⟨r3,0,none⟩:Addr).add 1)=some (.int .i64 n9)/\
 ∃dC,w2.cell? ((⟨r2,0,none⟩:Addr).add 2)=some (.int .i64 dC)/\
 Calls prog 121 #[.int .i64 n9,.int .i64 dC] w2 λe w3=>
 ∃uV:ByteArray,∃d7:Int,e=.returned (.tuple #[.string uV,.int .i64 d7])/\
 zQc prog ds w3 λw4=>
 R (.returned (.string uV)) w4
theorem F182_p:Pl prog f182 [aS 0 [.str,.int .i64,.int .i64,.bool],aS 1 [.int .i64,.int .i64,.str]] xWW:=λR=>
 lf
theorem yVg (aY:ByteArray) (aJ aZ:Int) (be:Bool) (bF cp:Int) (dq:ByteArray) (w:World) (R:Rt) (h:xWW R aY aJ aZ be bF cp dq [] w):Calls prog 182 #[.agg #[.string aY,.int .i64 aJ,.int .i64 aZ,.bool be],.agg #[.int .i64 bF,.int .i64 cp,.string dq]] w R:=
 plC F182_p func182 h
def xKD(R:Rt)(aY:ByteArray)(aJ aZ:Int)(be:Bool)(bF cp:Int)(dq:ByteArray)(ds:Ds)(w:World):Prop:=
 alE (.cells #[.string aY,.int .i64 aJ,.int .i64 aZ,.bool be] 129) w λr2 w1=>
 alE (.cells #[.int .i64 bF,.int .i64 cp,.string dq] 73) w1 λr3 w2=>
 ∃n9,w2.cell? ((⟨r3,0,none⟩:Addr).add 1)=some (.int .i64 n9)/\
 Calls prog 212 #[.int .i64 n9] w2 λe w3=>
 ∃uW:ByteArray,∃jy:Int,e=.returned (.tuple #[.string uW,.int .i64 jy])/\
 zQc prog ds w3 λw4=>
 R (.returned (.string uW)) w4
theorem F184_p:Pl prog f184 [aS 0 [.str,.int .i64,.int .i64,.bool],aS 1 [.int .i64,.int .i64,.str]] xKD:=λR=>
 lf
theorem yWy (aY:ByteArray) (aJ aZ:Int) (be:Bool) (bF cp:Int) (dq:ByteArray) (w:World) (R:Rt) (h:xKD R aY aJ aZ be bF cp dq [] w):Calls prog 184 #[.agg #[.string aY,.int .i64 aJ,.int .i64 aZ,.bool be],.agg #[.int .i64 bF,.int .i64 cp,.string dq]] w R:=
 plC F184_p func184 h
def xVp(R:Rt)(aY:ByteArray)(aJ aZ:Int)(be:Bool)(bF cp:Int)(dq:ByteArray)(ds:Ds)(w:World):Prop:=
 alE (.cells #[.string aY,.int .i64 aJ,.int .i64 aZ,.bool be] 129) w λr2 w1=>
 alE (.cells #[.int .i64 bF,.int .i64 cp,.string dq] 73) w1 λr3 w2=>
 ∃n6,w2.cell? ((⟨r3,0,none⟩:Addr).add 1)=some (.int .i64 n6)/\
 Br (n6 == 0) (
 ∃n9,w2.cell? ((⟨r2,0,none⟩:Addr).add 2)=some (.int .i64 n9)/\
 Calls prog 155 #[.string (⟨#[32]⟩:ByteArray),.int .i64 n9] w2 λe w3=>
 ∃uN:ByteArray,e=.returned (.string uN)/\
 zQc prog ds w3 λw4=>
 R (.returned (.string uN)) w4) (
 ∃jB,w2.cell? ((⟨r2,0,none⟩:Addr).add 0)=some (.string jB)/\
 ∃dV,w2.cell? ((⟨r2,0,none⟩:Addr).add 1)=some (.int .i64 dV)/\
 ∃jC,w2.cell? ((⟨r2,0,none⟩:Addr).add 2)=some (.int .i64 jC)/\
 ∃jD,w2.cell? ((⟨r2,0,none⟩:Addr).add 3)=some (.bool jD)/\
 ∃jU,w2.cell? ((⟨r3,0,none⟩:Addr).add 0)=some (.int .i64 jU)/\
 ∃d7,w2.cell? ((⟨r3,0,none⟩:Addr).add 1)=some (.int .i64 d7)/\
 ∃uX,w2.cell? ((⟨r3,0,none⟩:Addr).add 2)=some (.string uX)/\
 Calls prog 182 #[.agg #[.string jB,.int .i64 dV,.int .i64 jC,.bool jD],.agg #[.int .i64 jU,.int .i64 d7,.string uX]] w2 λe w5=>
 ∃qW:ByteArray,e=.returned (.string qW)/\
 zQc prog ds w5 λw6=>
 R (.returned (.string qW)) w6)
theorem F188_p:Pl prog f188 [aS 0 [.str,.int .i64,.int .i64,.bool],aS 1 [.int .i64,.int .i64,.str]] xVp:=λR=>
 lf
theorem yVR (aY:ByteArray) (aJ aZ:Int) (be:Bool) (bF cp:Int) (dq:ByteArray) (w:World) (R:Rt) (h:xVp R aY aJ aZ be bF cp dq [] w):Calls prog 188 #[.agg #[.string aY,.int .i64 aJ,.int .i64 aZ,.bool be],.agg #[.int .i64 bF,.int .i64 cp,.string dq]] w R:=
 plC F188_p func188 h
end Go.Proofs.YtaeecpjhfmcliaaGreatDoor
/- Shallow texts of functions, printed by program, each checked by the kernel against the loaded code. No condition. -/
namespace Go.Proofs.YtaeecpjhfmcliaaGreatDoor
open Go.Sh Tryz
def xKc(R:Rt)(l3:SV)(ds:Ds)(w:World):Prop:=
 alE (.cells #[.int .u8 26] 5) w λr23 w1=>
 ∃bY:SV,∃w2,(Builtin.append_ #[22,22] 22 #[l3.v,.slice (some ⟨r23,0,none⟩) 1 1]).run prog w1=.ok (bY.v) w2/\
 zQc prog ds w2 λw3=>
 R (.returned (bY.v)) w3
def xKJ (R:Rt) (J1:(SV × Int)->World->Prop) (p1:Option Addr) (l3 l9:SV) (jb dC:Int) (ds:Ds) (w:World):Prop:=
 Br (decide (dC<jb)) (
 ∃a4,l9.a=some a4/\0<=dC/\dC<(l9.len:Int)/\
 ∃uY,w.cell? ((a4.add (dC.toNat * 2)).add 0)=some (.bool uY)/\
 ∃cP:SV,w.cell? ((a4.add (dC.toNat * 2)).add 1)=some (cP.v)/\
 alE (.cells #[.bool false,.slice none 0 0] 67) w λr5 w5=>
 stA prog 67 (⟨r5,0,none⟩:Addr) #[.bool uY,cP.v] w5 λw6=>
 zQh p1 λa7=>
 ∃dk:SV,w6.cell? (a7.add 1)=some (dk.v)/\
 ∃uZ,w6.cell? ((⟨r5,0,none⟩:Addr).add 0)=some (.bool uZ)/\
 ∃bZ:SV,w6.cell? ((⟨r5,0,none⟩:Addr).add 1)=some (bZ.v)/\
 Calls prog 158 #[dk.v,.agg #[.bool uZ,bZ.v]] w6 λe w8=>
 ∃dg:SV,e=.returned (dg.v)/\
 ∃dS:SV,∃w9,(Builtin.append_ #[22,22] 22 #[l3.v,dg.v]).run prog w8=.ok (dS.v) w9/\
 J1 (dS,(IntKind.i64.wrap (dC+1))) w9) (
 xKc R l3 ds w)
def xWK(R:Rt)(p1:Option Addr)(l3 l9:SV)(jb dC:Int)(ds:Ds)(w:World):Prop:=
 zQF (λ(J1:(SV × Int)->World->Prop) (s:SV × Int) (w:World)=>xKJ R J1 p1 s.1 l9 jb s.2 ds w) (l3,dC) w
def xWg(R:Rt)(aw:Int)(ah ai:SV)(ds:Ds)(w:World):Prop:=
 alE (.cells #[.int .i64 aw,ah.v,ai.v] 35) w λr1 aN=>
 ∃oa,aN.cell? ((⟨r1,0,none⟩:Addr).add 0)=some (.int .i64 oa)/\
 ∃fv:SV,aN.cell? ((⟨r1,0,none⟩:Addr).add 1)=some (fv.v)/\
 ∃fy:SV,aN.cell? ((⟨r1,0,none⟩:Addr).add 2)=some (fy.v)/\
 Calls prog 157 #[.agg #[.int .i64 oa,fv.v,fy.v]] aN λe aV=>
 ∃l7:SV,e=.returned (l7.v)/\
 ∃l9:SV,aV.cell? ((⟨r1,0,none⟩:Addr).add 2)=some (l9.v)/\
 xWK R (some (⟨r1,0,none⟩:Addr)) l7 l9 (l9.len:Int) 0 ds aV
theorem F123_p:Pl prog f123 [aS 0 [.int .i64,.slice,.slice]] xWg:=λR=>
 pc 3 (rest [pS 1,lS 3,lS 9,iS 10,iS 11] (xWK R) (bk 0 (rest [lS 3] (xKc R) lf) (lp [lS 3,iS 11] [pS 1,lS 3,lS 9,iS 10,iS 11] (xKJ R) zXN λJ1=>lf)))
theorem yWo (aw:Int) (ah ai:SV) (w:World) (R:Rt) (h:xWg R aw ah ai [] w):Calls prog 123 #[.agg #[.int .i64 aw,ah.v,ai.v]] w R:=
 plC F123_p func123 h
def F86_1(R:Rt)(aw:Int)(ah ai:SV)(ds:Ds)(w:World):Prop:=
 alE (.cells #[.int .i64 aw,ah.v,ai.v] 35) w λr1 w1=>
 ∃iO,w1.cell? ((⟨r1,0,none⟩:Addr).add 0)=some (.int .i64 iO)/\
 ∃dz:SV,w1.cell? ((⟨r1,0,none⟩:Addr).add 1)=some (dz.v)/\
 ∃cA:SV,w1.cell? ((⟨r1,0,none⟩:Addr).add 2)=some (cA.v)/\
 Calls prog 106 #[.agg #[.int .i64 iO,dz.v,cA.v]] w1 λe w2=>
 ∃n6:Int,e=.returned (.int .i64 n6)/\
 Br (n6 != 0) (
 zQc prog ds w2 λw3=>
 R (.returned (.tuple #[.slice none 0 0,.int .i64 n6])) w3) (
 ∃eV,w2.cell? ((⟨r1,0,none⟩:Addr).add 0)=some (.int .i64 eV)/\
 ∃bx:SV,w2.cell? ((⟨r1,0,none⟩:Addr).add 1)=some (bx.v)/\
 ∃bA:SV,w2.cell? ((⟨r1,0,none⟩:Addr).add 2)=some (bA.v)/\
 Calls prog 123 #[.agg #[.int .i64 eV,bx.v,bA.v]] w2 λe w4=>
 ∃bW:SV,e=.returned (bW.v)/\
 zQc prog ds w4 λw5=>
 R (.returned (.tuple #[bW.v,.int .i64 0])) w5)
theorem F86_p:Pl prog f86 [aS 0 [.int .i64,.slice,.slice]] F86_1:=λR=>
 lf
theorem yYA (aw:Int) (ah ai:SV) (w:World) (R:Rt) (h:F86_1 R aw ah ai [] w):Calls prog 86 #[.agg #[.int .i64 aw,ah.v,ai.v]] w R:=
 plC F86_p func86 h
end Go.Proofs.YtaeecpjhfmcliaaGreatDoor
/- Shallow texts of functions, printed by program, each checked by the kernel against the loaded code. No condition. -/
namespace Go.Proofs.YtaeecpjhfmcliaaGreatDoor
open Go.Sh Tryz
def xKZ(R:Rt)(s0:ByteArray)(ds:Ds)(w:World):Prop:=
 alE (.cells #[.int .i64 0,.int .i64 0,.string (⟨#[]⟩:ByteArray)] 73) w λr2 w1=>
 alE (.cells #[.int .i64 0,.int .i64 0,.string (⟨#[]⟩:ByteArray)] 73) w1 λr4 w2=>
 stA prog 73 (⟨r4,0,none⟩:Addr) #[.int .i64 1,.int .i64 0,.string (⟨#[]⟩:ByteArray)] w2 λw3=>
 Br (s0.toList == (⟨#[84]⟩:ByteArray).toList) (
 st1 ((⟨r4,0,none⟩:Addr).add 1) (.int .i64 1) w3 λw4=>
 ∃ip,w4.cell? ((⟨r4,0,none⟩:Addr).add 0)=some (.int .i64 ip)/\
 ∃ed,w4.cell? ((⟨r4,0,none⟩:Addr).add 1)=some (.int .i64 ed)/\
 ∃pa,w4.cell? ((⟨r4,0,none⟩:Addr).add 2)=some (.string pa)/\
 Br (s0.toList == (⟨#[84]⟩:ByteArray).toList) (
 stA prog 73 (⟨r2,0,none⟩:Addr) #[.int .i64 ip,.int .i64 ed,.string pa] w4 λw5=>
 zQc prog ds w5 λw6=>
 ∃ag,w6.cell? ((⟨r2,0,none⟩:Addr).add 0)=some (.int .i64 ag)/\
 ∃aj,w6.cell? ((⟨r2,0,none⟩:Addr).add 1)=some (.int .i64 aj)/\
 ∃ak,w6.cell? ((⟨r2,0,none⟩:Addr).add 2)=some (.string ak)/\
 R (.returned (.tuple #[.agg #[.int .i64 ag,.int .i64 aj,.string ak],.bool true])) w6) (
 stA prog 73 (⟨r2,0,none⟩:Addr) #[.int .i64 ip,.int .i64 ed,.string pa] w4 λw7=>
 zQc prog ds w7 λw8=>
 ∃ag,w8.cell? ((⟨r2,0,none⟩:Addr).add 0)=some (.int .i64 ag)/\
 ∃aj,w8.cell? ((⟨r2,0,none⟩:Addr).add 1)=some (.int .i64 aj)/\
 ∃ak,w8.cell? ((⟨r2,0,none⟩:Addr).add 2)=some (.string ak)/\
 R (.returned (.tuple #[.agg #[.int .i64 ag,.int .i64 aj,.string ak],.bool (s0.toList == (⟨#[70]⟩:ByteArray).toList)])) w8)) (
 ∃ip,w3.cell? ((⟨r4,0,none⟩:Addr).add 0)=some (.int .i64 ip)/\
 ∃ed,w3.cell? ((⟨r4,0,none⟩:Addr).add 1)=some (.int .i64 ed)/\
 ∃pa,w3.cell? ((⟨r4,0,none⟩:Addr).add 2)=some (.string pa)/\
 Br (s0.toList == (⟨#[84]⟩:ByteArray).toList) (
 stA prog 73 (⟨r2,0,none⟩:Addr) #[.int .i64 ip,.int .i64 ed,.string pa] w3 λw9=>
 zQc prog ds w9 λaN=>
 ∃ag,aN.cell? ((⟨r2,0,none⟩:Addr).add 0)=some (.int .i64 ag)/\
 ∃aj,aN.cell? ((⟨r2,0,none⟩:Addr).add 1)=some (.int .i64 aj)/\
 ∃ak,aN.cell? ((⟨r2,0,none⟩:Addr).add 2)=some (.string ak)/\
 R (.returned (.tuple #[.agg #[.int .i64 ag,.int .i64 aj,.string ak],.bool true])) aN) (
 stA prog 73 (⟨r2,0,none⟩:Addr) #[.int .i64 ip,.int .i64 ed,.string pa] w3 λaV=>
 zQc prog ds aV λaO=>
 ∃ag,aO.cell? ((⟨r2,0,none⟩:Addr).add 0)=some (.int .i64 ag)/\
 ∃aj,aO.cell? ((⟨r2,0,none⟩:Addr).add 1)=some (.int .i64 aj)/\
 ∃ak,aO.cell? ((⟨r2,0,none⟩:Addr).add 2)=some (.string ak)/\
 R (.returned (.tuple #[.agg #[.int .i64 ag,.int .i64 aj,.string ak],.bool (s0.toList == (⟨#[70]⟩:ByteArray).toList)])) aO))
theorem F181_p:Pl prog f181 [sS 0] xKZ:=λR=>
 lf
theorem yVA (s0:ByteArray) (w:World) (R:Rt) (h:xKZ R s0 [] w):Calls prog 181 #[.string s0] w R:=
 plC F181_p func181 h
def xV6(R:Rt)(s0:ByteArray)(ds:Ds)(w:World):Prop:=
 alE (.cells #[.int .i64 0,.int .i64 0,.string (⟨#[]⟩:ByteArray)] 73) w λr2 w1=>
 Calls prog 211 #[.string s0] w1 λe w2=>
 ∃n5:Int,e=.returned (.int .i64 n5)/\
 Calls prog 190 #[.string s0,.string (⟨#[32]⟩:ByteArray)] w2 λe w3=>
 ∃s8:ByteArray,e=.returned (.string s8)/\
 stA prog 73 (⟨r2,0,none⟩:Addr) #[.int .i64 2,.int .i64 n5,.string (⟨#[]⟩:ByteArray)] w3 λw4=>
 zQc prog ds w4 λw5=>
 ∃ag,w5.cell? ((⟨r2,0,none⟩:Addr).add 0)=some (.int .i64 ag)/\
 ∃aj,w5.cell? ((⟨r2,0,none⟩:Addr).add 1)=some (.int .i64 aj)/\
 ∃ak,w5.cell? ((⟨r2,0,none⟩:Addr).add 2)=some (.string ak)/\
 R (.returned (.tuple #[.agg #[.int .i64 ag,.int .i64 aj,.string ak],.bool (!(s8.toList == (⟨#[]⟩:ByteArray).toList))])) w5
theorem F183_p:Pl prog f183 [sS 0] xV6:=λR=>
 lf
theorem yVK (s0:ByteArray) (w:World) (R:Rt) (h:xV6 R s0 [] w):Calls prog 183 #[.string s0] w R:=
 plC F183_p func183 h
def xW2(R:Rt)(s0:ByteArray)(ds:Ds)(w:World):Prop:=
 alE (.cells #[.int .i64 0,.int .i64 0,.string (⟨#[]⟩:ByteArray)] 73) w λr2 w1=>
 Calls prog 213 #[.string s0] w1 λe w2=>
 ∃rG:Int,∃rH:Bool,e=.returned (.tuple #[.int .i64 rG,.bool rH])/\
 stA prog 73 (⟨r2,0,none⟩:Addr) #[.int .i64 3,.int .i64 rG,.string (⟨#[]⟩:ByteArray)] w2 λw3=>
 zQc prog ds w3 λw4=>
 ∃ag,w4.cell? ((⟨r2,0,none⟩:Addr).add 0)=some (.int .i64 ag)/\
 ∃aj,w4.cell? ((⟨r2,0,none⟩:Addr).add 1)=some (.int .i64 aj)/\
 ∃ak,w4.cell? ((⟨r2,0,none⟩:Addr).add 2)=some (.string ak)/\
 R (.returned (.tuple #[.agg #[.int .i64 ag,.int .i64 aj,.string ak],.bool rH])) w4
theorem F185_p:Pl prog f185 [sS 0] xW2:=λR=>
 lf
theorem yV5 (s0:ByteArray) (w:World) (R:Rt) (h:xW2 R s0 [] w):Calls prog 185 #[.string s0] w R:=
 plC F185_p func185 h
def xK2(R:Rt)(s0:ByteArray)(ds:Ds)(w:World):Prop:=
 alE (.cells #[.int .i64 0,.int .i64 0,.string (⟨#[]⟩:ByteArray)] 73) w λr2 w1=>
 Calls prog 119 #[.string s0,.string (⟨#[32]⟩:ByteArray)] w1 λe w2=>
 ∃s5:ByteArray,e=.returned (.string s5)/\
 stA prog 73 (⟨r2,0,none⟩:Addr) #[.int .i64 4,.int .i64 0,.string s5] w2 λw3=>
 zQc prog ds w3 λw4=>
 ∃ag,w4.cell? ((⟨r2,0,none⟩:Addr).add 0)=some (.int .i64 ag)/\
 ∃aj,w4.cell? ((⟨r2,0,none⟩:Addr).add 1)=some (.int .i64 aj)/\
 ∃ak,w4.cell? ((⟨r2,0,none⟩:Addr).add 2)=some (.string ak)/\
 R (.returned (.tuple #[.agg #[.int .i64 ag,.int .i64 aj,.string ak],.bool true])) w4
theorem F187_p:Pl prog f187 [sS 0] xK2:=λR=>
 lf
theorem yW2 (s0:ByteArray) (w:World) (R:Rt) (h:xK2 R s0 [] w):Calls prog 187 #[.string s0] w R:=
 plC F187_p func187 h
def xWN(R:Rt)(s0:ByteArray)(ds:Ds)(w:World):Prop:=
 alE (.cells #[.int .i64 0,.int .i64 0,.string (⟨#[]⟩:ByteArray)] 73) w λr2 w1=>
 Calls prog 211 #[.string s0] w1 λe w2=>
 ∃n5:Int,e=.returned (.int .i64 n5)/\
 stA prog 73 (⟨r2,0,none⟩:Addr) #[.int .i64 2,.int .i64 n5,.string (⟨#[]⟩:ByteArray)] w2 λw3=>
 zQc prog ds w3 λw4=>
 ∃ag,w4.cell? ((⟨r2,0,none⟩:Addr).add 0)=some (.int .i64 ag)/\
 ∃aj,w4.cell? ((⟨r2,0,none⟩:Addr).add 1)=some (.int .i64 aj)/\
 ∃ak,w4.cell? ((⟨r2,0,none⟩:Addr).add 2)=some (.string ak)/\
 R (.returned (.tuple #[.agg #[.int .i64 ag,.int .i64 aj,.string ak],.bool true])) w4
theorem F189_p:Pl prog f189 [sS 0] xWN:=λR=>
 lf
theorem yWJ (s0:ByteArray) (w:World) (R:Rt) (h:xWN R s0 [] w):Calls prog 189 #[.string s0] w R:=
 plC F189_p func189 h
def xXY(R:Rt)(s0:ByteArray)(ds:Ds)(w:World):Prop:=
 Br (s0.toList == (⟨#[32,32,32,32,32,32,32,32]⟩:ByteArray).toList) (
 zQc prog ds w λw1=>
 R (.returned (.tuple #[.int .i64 0,.bool true])) w1) (
 Br ((s0.size:Int) != 8) (
 zQc prog ds w λw2=>
 R (.returned (.tuple #[.int .i64 0,.bool false])) w2) (
 Calls prog 190 #[.string s0,.string (⟨#[48,49,50,51,52,53,54,55,56,57]⟩:ByteArray)] w λe w3=>
 ∃qW:ByteArray,e=.returned (.string qW)/\
 Br (!(qW.toList == (⟨#[]⟩:ByteArray).toList)) (
 zQc prog ds w3 λw4=>
 R (.returned (.tuple #[.int .i64 0,.bool false])) w4) (
 dwE w3 λw5=>
 0<=(4:Int)/\(4:Int).toNat<=s0.size/\0<=(4:Int).toNat/\
 0<=(6:Int)/\(6:Int).toNat<=s0.size/\0<=(4:Int)/\(4:Int).toNat<=(6:Int).toNat/\
 s0.size<=s0.size/\0<=(6:Int)/\(6:Int).toNat<=s0.size/\
 Calls prog 211 #[.string (s0.extract 0 ((4:Int).toNat))] w5 λe w6=>
 ∃ja:Int,e=.returned (.int .i64 ja)/\
 Calls prog 211 #[.string (s0.extract ((4:Int).toNat) ((6:Int).toNat))] w6 λe w7=>
 ∃df:Int,e=.returned (.int .i64 df)/\
 Calls prog 211 #[.string (s0.extract ((6:Int).toNat) s0.size)] w7 λe w8=>
 ∃cn:Int,e=.returned (.int .i64 cn)/\
 Calls prog 226 #[.int .i64 ja,.int .i64 df,.int .i64 cn] w8 λe w9=>
 ∃eM:Int,∃fp:Int,e=.returned (.tuple #[.int .i64 eM,.int .i64 fp])/\
 zQc prog ds w9 λaN=>
 R (.returned (.tuple #[.int .i64 eM,.bool (fp == 0)])) aN)))
theorem F213_p:Pl prog f213 [sS 0] xXY:=λR=>
 lf
theorem yWE (s0:ByteArray) (w:World) (R:Rt) (h:xXY R s0 [] w):Calls prog 213 #[.string s0] w R:=
 plC F213_p func213 h
def yXT(R:Rt)(n3 n4:Int)(ds:Ds)(w:World):Prop:=
 zQc prog ds w λw1=>
 R (.returned (.int .i64 (IntKind.i64.wrap (n3 * n4)))) w1
def xWm (R:Rt) (J1:(Int × Int)->World->Prop) (s0:ByteArray) (n3 n4 ct gn:Int) (ds:Ds) (w:World):Prop:=
 Br (decide (gn<ct)) (
 ∃b32:UInt8,0<=gn/\s0[gn.toNat]?=some b32/\
 Br (decide ((b32.toNat:Int)<48)) (
 yXT R n3 n4 ds w) (
 ∃u0:UInt8,0<=gn/\s0[gn.toNat]?=some u0/\
 Br (decide ((u0.toNat:Int) > 57)) (
 yXT R n3 n4 ds w) (
 ∃b44:UInt8,0<=gn/\s0[gn.toNat]?=some b44/\
 ∃dp:Int,∃w2,(Builtin.min_ #[3,3] 3 #[.int .i64 (IntKind.i64.wrap ((IntKind.i64.wrap (n4 * 10))+(IntKind.i64.wrap (IntKind.u8.wrap ((b44.toNat:Int) - 48))))),.int .i64 1000000000000000]).run prog w=.ok (.int .i64 dp) w2/\
 J1 (dp,(IntKind.i64.wrap (gn+1))) w2))) (
 yXT R n3 n4 ds w)
def xKy(R:Rt)(s0:ByteArray)(n3 n4 ct gn:Int)(ds:Ds)(w:World):Prop:=
 zQF (λ(J1:(Int × Int)->World->Prop) (s:Int × Int) (w:World)=>xWm R J1 s0 n3 s.1 ct s.2 ds w) (n4,gn) w
def zVR(R:Rt)(s0:ByteArray)(n3:Int)(ds:Ds)(w:World):Prop:=
 xKy R s0 n3 0 (s0.size:Int) 0 ds w
def xVH(R:Rt)(s0:ByteArray)(ds:Ds)(w:World):Prop:=
 Calls prog 224 #[.string s0,.string (⟨#[32]⟩:ByteArray)] w λe w3=>
 ∃s7:ByteArray,e=.returned (.string s7)/\
 Br (!(s7.toList == (⟨#[]⟩:ByteArray).toList)) (
 ∃cN:UInt8,0<=(0:Int)/\s7[(0:Int).toNat]?=some cN/\
 Br ((cN.toNat:Int) == 45) (
 ∃u6:UInt8,0<=(0:Int)/\s7[(0:Int).toNat]?=some u6/\
 Br ((u6.toNat:Int) == 45) (
 s7.size<=s7.size/\0<=(1:Int)/\(1:Int).toNat<=s7.size/\
 zVR R (s7.extract ((1:Int).toNat) s7.size) (-1) ds w3) (
 s7.size<=s7.size/\0<=(1:Int)/\(1:Int).toNat<=s7.size/\
 zVR R (s7.extract ((1:Int).toNat) s7.size) 1 ds w3)) (
 ∃kb:UInt8,0<=(0:Int)/\s7[(0:Int).toNat]?=some kb/\
 Br ((kb.toNat:Int) == 43) (
 ∃u6:UInt8,0<=(0:Int)/\s7[(0:Int).toNat]?=some u6/\
 Br ((u6.toNat:Int) == 45) (
 s7.size<=s7.size/\0<=(1:Int)/\(1:Int).toNat<=s7.size/\
 zVR R (s7.extract ((1:Int).toNat) s7.size) (-1) ds w3) (
 s7.size<=s7.size/\0<=(1:Int)/\(1:Int).toNat<=s7.size/\
 zVR R (s7.extract ((1:Int).toNat) s7.size) 1 ds w3)) (
 zVR R s7 1 ds w3))) (
 zVR R s7 1 ds w3)
theorem F211_p:Pl prog f211 [sS 0] xVH:=λR=>
 pc 5 (rest [sS 0,iS 3] (zVR R) (pc 2 (rest [sS 0,iS 3,iS 4,iS 26,iS 27] (xKy R) (bk 0 (rest [iS 3,iS 4] (yXT R) lf) (lp [iS 4,iS 27] [sS 0,iS 3,iS 4,iS 26,iS 27] (xWm R) zXN λJ1=>lf)))))
theorem yWO (s0:ByteArray) (w:World) (R:Rt) (h:xVH R s0 [] w):Calls prog 211 #[.string s0] w R:=
 plC F211_p func211 h
end Go.Proofs.YtaeecpjhfmcliaaGreatDoor
/- Shallow texts of functions, printed by program, each checked by the kernel against the loaded code. No condition. -/
namespace Go.Proofs.YtaeecpjhfmcliaaGreatDoor
open Go.Sh Tryz
def F18_1(R:Rt)(ds:Ds)(w:World):Prop:=
 zQc prog ds w λw1=>
 R (.returned (.bool true)) w1
def F18_2 (R:Rt) (J1:(Int)->World->Prop) (p2 p3:Option Addr) (n5:Int) (ds:Ds) (w:World):Prop:=
 zQh p2 λa2=>
 ∃oW:SV,w.cell? (a2.add 2)=some (oW.v)/\
 Br (decide (n5<(oW.len:Int))) (
 dwE w λw3=>
 zQh p2 λa4=>
 ∃iF:SV,w3.cell? (a4.add 2)=some (iF.v)/\
 ∃a5,iF.a=some a5/\0<=n5/\n5<(iF.len:Int)/\
 ∃u7,w3.cell? ((a5.add (n5.toNat * 2)).add 0)=some (.bool u7)/\
 ∃lw:SV,w3.cell? ((a5.add (n5.toNat * 2)).add 1)=some (lw.v)/\
 zQh p3 λa6=>
 ∃nF:SV,w3.cell? (a6.add 2)=some (nF.v)/\
 ∃a7,nF.a=some a7/\0<=n5/\n5<(nF.len:Int)/\
 ∃ob,w3.cell? ((a7.add (n5.toNat * 2)).add 0)=some (.bool ob)/\
 ∃fA:SV,w3.cell? ((a7.add (n5.toNat * 2)).add 1)=some (fA.v)/\
 Calls prog 70 #[.agg #[.bool u7,lw.v],.agg #[.bool ob,fA.v]] w3 λe w8=>
 ∃b45:Bool,e=.returned (.bool b45)/\
 Br (!b45) (
 zQc prog ds w8 λw9=>
 R (.returned (.bool false)) w9) (
 J1 (IntKind.i64.wrap (n5+1)) w8)) (
 F18_1 R ds w)
def F18_3(R:Rt)(p2 p3:Option Addr)(n5:Int)(ds:Ds)(w:World):Prop:=
 zQF (λ(J1:(Int)->World->Prop) (s:Int) (w:World)=>F18_2 R J1 p2 p3 s ds w) n5 w
def F18_5(R:Rt)(aw:Int)(ah ai:SV)(bF:Int)(bh cu:SV)(ds:Ds)(w:World):Prop:=
 alE (.cells #[.int .i64 aw,ah.v,ai.v] 35) w λr2 aN=>
 alE (.cells #[.int .i64 bF,bh.v,cu.v] 35) aN λr3 aV=>
 ∃n7,aV.cell? (⟨r2,0,none⟩:Addr)=some (.int .i64 n7)/\
 ∃n9,aV.cell? (⟨r3,0,none⟩:Addr)=some (.int .i64 n9)/\
 Br (n7 != n9) (
 zQc prog ds aV λaO=>
 R (.returned (.bool false)) aO) (
 ∃cz:SV,aV.cell? ((⟨r2,0,none⟩:Addr).add 1)=some (cz.v)/\
 ∃fe:SV,aV.cell? ((⟨r3,0,none⟩:Addr).add 1)=some (fe.v)/\
 Calls prog 69 #[cz.v,fe.v] aV λe aI=>
 ∃kb:Bool,e=.returned (.bool kb)/\
 Br (!kb) (
 zQc prog ds aI λbt=>
 R (.returned (.bool false)) bt) (
 ∃cH:SV,aI.cell? ((⟨r2,0,none⟩:Addr).add 2)=some (cH.v)/\
 ∃bY:SV,aI.cell? ((⟨r3,0,none⟩:Addr).add 2)=some (bY.v)/\
 Br ((cH.len:Int) != (bY.len:Int)) (
 zQc prog ds aI λbr=>
 R (.returned (.bool false)) br) (
 F18_3 R (some (⟨r2,0,none⟩:Addr)) (some (⟨r3,0,none⟩:Addr)) 0 ds aI)))
theorem F18_p:Pl prog f18 [aS 0 [.int .i64,.slice,.slice],aS 1 [.int .i64,.slice,.slice]] F18_5:=λR=>
 pc 4 (rest [pS 2,pS 3,iS 5] (F18_3 R) (bk 0 (rest [] (F18_1 R) lf) (lp [iS 5] [pS 2,pS 3,iS 5] (F18_2 R) zXN λJ1=>lf)))
theorem xZa (aw:Int) (ah ai:SV) (bF:Int) (bh cu:SV) (w:World) (R:Rt) (h:F18_5 R aw ah ai bF bh cu [] w):Calls prog 18 #[.agg #[.int .i64 aw,ah.v,ai.v],.agg #[.int .i64 bF,bh.v,cu.v]] w R:=
 plC F18_p func18 h
end Go.Proofs.YtaeecpjhfmcliaaGreatDoor
