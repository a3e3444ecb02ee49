import Derived.Test.YtaeecpjhfmcliaaGreatDoorProg
import Derived.Test.YtaeecpjhfmcliaaGreatDoorShTwentyEight
/- Shallow texts of functions, printed by program, each checked by the kernel against the loaded code. No condition. -/
set_option maxRecDepth 100000
set_option linter.unusedVariables false
namespace Go.Proofs.YtaeecpjhfmcliaaGreatDoor
open Go.Sh Tryz
def xKx(R:Rt)(aw aI:Int)(fX:ByteArray)(ds:Ds)(w:World):Prop:=
 alE (.cells #[.int .i64 aw,.int .i64 aI,.string fX] 73) w λr1 w1=>
 ∃s4,w1.cell? ((⟨r1,0,none⟩:Addr).add 2)=some (.string s4)/\
 Br (decide ((s4.size:Int) > 2048)) (
 zQb prog ds w1 λw2=>
 R (.returned (.int .i64 3)) w2) (
 ∃dG,w1.cell? ((⟨r1,0,none⟩:Addr).add 0)=some (.int .i64 dG)/\
 ∃dg,w1.cell? ((⟨r1,0,none⟩:Addr).add 1)=some (.int .i64 dg)/\
 ∃qu,w1.cell? ((⟨r1,0,none⟩:Addr).add 2)=some (.string qu)/\
 Calls prog 147 #[.agg #[.int .i64 dG,.int .i64 dg,.string qu]] w1 λe w3=>
 ∃b8:Bool,e=.returned (.bool b8)/\
 Br (!b8) (
 zQb prog ds w3 λw4=>
 R (.returned (.int .i64 1)) w4) (
 zQb prog ds w3 λw5=>
 R (.returned (.int .i64 0)) w5))
theorem F117_p:Pl prog f117 [aS 0 [.int .i64,.int .i64,.str]] xKx:=λR=>
 lf
theorem yWg (aw aI:Int) (fX:ByteArray) (w:World) (R:Rt) (h:xKx R aw aI fX [] w):Calls prog 117 #[.agg #[.int .i64 aw,.int .i64 aI,.string fX]] w R:=
 plC F117_p func117 h
def yQ9(R:Rt)(p1:Option Addr)(de:Int)(ds:Ds)(w:World):Prop:=
 Br (de == 0) (
 zQf p1 λa1=>
 ∃cv,w.cell? (a1.add 1)=some (.int .i64 cv)/\
 zQb prog ds w λw2=>
 R (.returned (.bool (cv == 0))) w2) (
 Br (de == 1) (
 zQf p1 λa3=>
 ∃sP,w.cell? (a3.add 1)=some (.int .i64 sP)/\
 Br (sP == 0) (
 zQb prog ds w λw4=>
 R (.returned (.bool true)) w4) (
 zQf p1 λa5=>
 ∃sQ,w.cell? (a5.add 1)=some (.int .i64 sQ)/\
 zQb prog ds w λw6=>
 R (.returned (.bool (sQ == 1))) w6)) (
 Br (de == 2) (
 zQf p1 λa7=>
 ∃m4,w.cell? (a7.add 1)=some (.int .i64 m4)/\
 Calls prog 153 #[.int .i64 m4] w λe w8=>
 ∃qw:Bool,e=.returned (.bool qw)/\
 zQb prog ds w8 λw9=>
 R (.returned (.bool qw)) w9) (
 Br (de == 3) (
 zQf p1 λdy=>
 ∃ku,w.cell? (dy.add 1)=some (.int .i64 ku)/\
 Calls prog 191 #[.int .i64 ku] w λe aU=>
 ∃b47:Bool,e=.returned (.bool b47)/\
 zQb prog ds aU λaQ=>
 R (.returned (.bool b47)) aQ) (
 zQf p1 λkN=>
 ∃sR,w.cell? kN=some (.int .i64 sR)/\
 zQb prog ds w λbB=>
 R (.returned (.bool (sR == 4))) bB))))
def xKk(R:Rt)(aw aI:Int)(fX:ByteArray)(ds:Ds)(w:World):Prop:=
 alE (.cells #[.int .i64 aw,.int .i64 aI,.string fX] 73) w λr1 bm=>
 ∃n4,bm.cell? (⟨r1,0,none⟩:Addr)=some (.int .i64 n4)/\
 Br (n4 != 4) (
 ∃s8,bm.cell? ((⟨r1,0,none⟩:Addr).add 2)=some (.string s8)/\
 Br (!(s8.toList == (⟨#[]⟩:ByteArray).toList)) (
 zQb prog ds bm λbF=>
 R (.returned (.bool false)) bF) (
 ∃cK,bm.cell? (⟨r1,0,none⟩:Addr)=some (.int .i64 cK)/\
 Br (cK == 4) (
 ∃mW,bm.cell? ((⟨r1,0,none⟩:Addr).add 1)=some (.int .i64 mW)/\
 Br (mW != 0) (
 zQb prog ds bm λbH=>
 R (.returned (.bool false)) bH) (
 ∃de,bm.cell? (⟨r1,0,none⟩:Addr)=some (.int .i64 de)/\
 yQ9 R (some (⟨r1,0,none⟩:Addr)) de ds bm)) (
 ∃de,bm.cell? (⟨r1,0,none⟩:Addr)=some (.int .i64 de)/\
 yQ9 R (some (⟨r1,0,none⟩:Addr)) de ds bm))) (
 ∃cK,bm.cell? (⟨r1,0,none⟩:Addr)=some (.int .i64 cK)/\
 Br (cK == 4) (
 ∃mW,bm.cell? ((⟨r1,0,none⟩:Addr).add 1)=some (.int .i64 mW)/\
 Br (mW != 0) (
 zQb prog ds bm λbU=>
 R (.returned (.bool false)) bU) (
 ∃de,bm.cell? (⟨r1,0,none⟩:Addr)=some (.int .i64 de)/\
 yQ9 R (some (⟨r1,0,none⟩:Addr)) de ds bm)) (
 ∃de,bm.cell? (⟨r1,0,none⟩:Addr)=some (.int .i64 de)/\
 yQ9 R (some (⟨r1,0,none⟩:Addr)) de ds bm))
theorem F147_p:Pl prog f147 [aS 0 [.int .i64,.int .i64,.str]] xKk:=λR=>
 pc 4 (rest [pS 1,iS 22] (yQ9 R) lf)
theorem yVg (aw aI:Int) (fX:ByteArray) (w:World) (R:Rt) (h:xKk R aw aI fX [] w):Calls prog 147 #[.agg #[.int .i64 aw,.int .i64 aI,.string fX]] w R:=
 plC F147_p func147 h
def xVJ(R:Rt)(n0:Int)(ds:Ds)(w:World):Prop:=
 Br (decide (n0 >= (-1000000000000000))) (
 zQb prog ds w λw1=>
 R (.returned (.bool (decide (n0<=1000000000000000)))) w1) (
 zQb prog ds w λw2=>
 R (.returned (.bool false)) w2)
theorem F153_p:Pl prog f153 [iS 0] xVJ:=λR=>
 lf
theorem yWL (n0:Int) (w:World) (R:Rt) (h:xVJ R n0 [] w):Calls prog 153 #[.int .i64 n0] w R:=
 plC F153_p func153 h
def xWP(R:Rt)(n0:Int)(ds:Ds)(w:World):Prop:=
 Br (decide (n0 >= 0)) (
 zQb prog ds w λw1=>
 R (.returned (.bool (decide (n0<=3652059)))) w1) (
 zQb prog ds w λw2=>
 R (.returned (.bool false)) w2)
theorem F191_p:Pl prog f191 [iS 0] xWP:=λR=>
 lf
theorem yVa (n0:Int) (w:World) (R:Rt) (h:xWP R n0 [] w):Calls prog 191 #[.int .i64 n0] w R:=
 plC F191_p func191 h
def zKR(R:Rt)(p1:Option Addr)(b3:Bool)(ds:Ds)(w:World):Prop:=
 Br (!b3) (
 zQb prog ds w λw1=>
 R (.returned (.int .i64 1)) w1) (
 zQf p1 λa2=>
 ∃sR,w.cell? a2=some (.int .i64 sR)/\
 Br (sR != 4) (
 zQf p1 λa3=>
 ∃s53,w.cell? (a3.add 2)=some (.string s53)/\
 Br (!(s53.toList == (⟨#[]⟩:ByteArray).toList)) (
 zQb prog ds w λw4=>
 R (.returned (.int .i64 1)) w4) (
 zQb prog ds w λw5=>
 R (.returned (.int .i64 0)) w5)) (
 zQb prog ds w λw6=>
 R (.returned (.int .i64 0)) w6))
def xW6(R:Rt)(aw aI:Int)(fX:ByteArray)(ds:Ds)(w:World):Prop:=
 alE (.cells #[.int .i64 aw,.int .i64 aI,.string fX] 73) w λr1 w7=>
 ∃s5,w7.cell? ((⟨r1,0,none⟩:Addr).add 2)=some (.string s5)/\
 Br (decide ((s5.size:Int) > 2048)) (
 zQb prog ds w7 λw8=>
 R (.returned (.int .i64 3)) w8) (
 ∃n9,w7.cell? (⟨r1,0,none⟩:Addr)=some (.int .i64 n9)/\
 Br (n9 == 0) (
 ∃cK,w7.cell? ((⟨r1,0,none⟩:Addr).add 1)=some (.int .i64 cK)/\
 zKR R (some (⟨r1,0,none⟩:Addr)) (cK == 0) ds w7) (
 Br (n9 == 1) (
 ∃iC,w7.cell? ((⟨r1,0,none⟩:Addr).add 1)=some (.int .i64 iC)/\
 Br (iC == 0) (
 zKR R (some (⟨r1,0,none⟩:Addr)) true ds w7) (
 ∃de,w7.cell? ((⟨r1,0,none⟩:Addr).add 1)=some (.int .i64 de)/\
 zKR R (some (⟨r1,0,none⟩:Addr)) (de == 1) ds w7)) (
 Br (n9 == 2) (
 ∃mX,w7.cell? ((⟨r1,0,none⟩:Addr).add 1)=some (.int .i64 mX)/\
 Calls prog 167 #[.int .i64 mX] w7 λe w9=>
 ∃b29:Bool,e=.returned (.bool b29)/\
 zKR R (some (⟨r1,0,none⟩:Addr)) b29 ds w9) (
 Br (n9 == 3) (
 ∃qx,w7.cell? ((⟨r1,0,none⟩:Addr).add 1)=some (.int .i64 qx)/\
 Br (decide (qx >= 0)) (
 ∃io,w7.cell? ((⟨r1,0,none⟩:Addr).add 1)=some (.int .i64 io)/\
 zKR R (some (⟨r1,0,none⟩:Addr)) (decide (io<=3652059)) ds w7) (
 zKR R (some (⟨r1,0,none⟩:Addr)) false ds w7)) (
 Br (n9 == 4) (
 ∃eF,w7.cell? ((⟨r1,0,none⟩:Addr).add 1)=some (.int .i64 eF)/\
 zKR R (some (⟨r1,0,none⟩:Addr)) (eF == 0) ds w7) (
 zKR R (some (⟨r1,0,none⟩:Addr)) false ds w7))))))
theorem F132_p:Pl prog f132 [aS 0 [.int .i64,.int .i64,.str]] xW6:=λR=>
 pc 6 (rest [pS 1,bS 3] (zKR R) lf)
theorem yW7 (aw aI:Int) (fX:ByteArray) (w:World) (R:Rt) (h:xW6 R aw aI fX [] w):Calls prog 132 #[.agg #[.int .i64 aw,.int .i64 aI,.string fX]] w R:=
 plC F132_p func132 h
def xV6(R:Rt)(n0:Int)(ds:Ds)(w:World):Prop:=
 Br (decide (n0 >= (-1000000000000000))) (
 zQb prog ds w λw1=>
 R (.returned (.bool (decide (n0<=1000000000000000)))) w1) (
 zQb prog ds w λw2=>
 R (.returned (.bool false)) w2)
theorem F167_p:Pl prog f167 [iS 0] xV6:=λR=>
 lf
theorem yWj (n0:Int) (w:World) (R:Rt) (h:xV6 R n0 [] w):Calls prog 167 #[.int .i64 n0] w R:=
 plC F167_p func167 h
end Go.Proofs.YtaeecpjhfmcliaaGreatDoor
/- Shallow texts of functions, printed by program, each checked by the kernel against the loaded code. No condition. -/
namespace Go.Proofs.YtaeecpjhfmcliaaGreatDoor
open Go.Sh Tryz
def yKn(R:Rt)(p1 p3:Option Addr)(b4:Bool)(ds:Ds)(w:World):Prop:=
 Br b4 (
 zQf p1 λa1=>
 ∃vY,w.cell? a1=some (.string vY)/\
 Calls prog 146 #[.string vY] w λe w2=>
 ∃iQ:Bool,e=.returned (.bool iQ)/\
 Br iQ (
 zQf p1 λa3=>
 ∃jh,w2.cell? (a3.add 2)=some (.int .i64 jh)/\
 zQf p3 λa4=>
 ∃de,w2.cell? (a4.add 1)=some (.int .i64 de)/\
 Br (decide (jh >= de)) (
 zQf p1 λa5=>
 ∃gi,w2.cell? (a5.add 2)=some (.int .i64 gi)/\
 zQf p3 λa6=>
 ∃xT,w2.cell? (a6.add 2)=some (.int .i64 xT)/\
 zQb prog ds w2 λw7=>
 R (.returned (.bool (decide (gi<=xT)))) w7) (
 zQb prog ds w2 λw8=>
 R (.returned (.bool false)) w8)) (
 zQb prog ds w2 λw9=>
 R (.returned (.bool false)) w9)) (
 zQb prog ds w λaP=>
 R (.returned (.bool false)) aP)
def xKs(R:Rt)(aW:ByteArray)(aI aX:Int)(aY:Bool)(ds:Ds)(w:World):Prop:=
 alE (.cells #[.string aW,.int .i64 aI,.int .i64 aX,.bool aY] 129) w λr1 aU=>
 dwE aU λaQ=>
 ∃S1:World->Prop,S1 aQ/\
 ∃n8,(∀w',S1 w'->w'.cell? ((⟨r1,0,none⟩:Addr).add 1)=some (.int .i64 n8))/\
 (
 Calls prog 145 #[] aQ λe aJ=>
 ∃m6:Option Nat,e=.returned (.map m6)/\
 ∃S2:World->Prop,S2 aJ/\(∀u,S2 u->S1 u)/\
 ∃jX:Int,∃jY:Int,∃jZ:Int,∃j0:Value,∃j1:Value,∃qy:Bool,(∀w',S2 w'->(Instr.lookup 176 (.map m6) (.int .i64 n8) true).run prog w'=.ok (.tuple #[.agg #[.int .u8 jX,.int .i64 jY,.int .i64 jZ,j0,j1],.bool qy]) w')/\
 alE (.cells #[.int .u8 0,.int .i64 0,.int .i64 0,.nilFunc,.nilFunc] 174) aJ λr3 bB=>
 ∃S3:World->Prop,S3 bB/\(∀u,S3 u->S2 u)/\
 stA prog 174 (⟨r3,0,none⟩:Addr) #[.int .u8 jX,.int .i64 jY,.int .i64 jZ,j0,j1] bB λbm=>
 yKn R (some (⟨r1,0,none⟩:Addr)) (some (⟨r3,0,none⟩:Addr)) qy ds bm)/\(
 alE (.cells #[.int .u8 0,.int .i64 0,.int .i64 0,.nilFunc,.nilFunc] 174) aQ λr3 bF=>
 ∃S4:World->Prop,S4 bF/\(∀u,S4 u->S1 u)/\
 Calls prog 145 #[] bF λe bH=>
 ∃m6:Option Nat,e=.returned (.map m6)/\
 ∃S5:World->Prop,S5 bH/\(∀u,S5 u->S4 u)/\
 ∃jX:Int,∃jY:Int,∃jZ:Int,∃j0:Value,∃j1:Value,∃qy:Bool,(∀w',S5 w'->(Instr.lookup 176 (.map m6) (.int .i64 n8) true).run prog w'=.ok (.tuple #[.agg #[.int .u8 jX,.int .i64 jY,.int .i64 jZ,j0,j1],.bool qy]) w')/\
 stA prog 174 (⟨r3,0,none⟩:Addr) #[.int .u8 jX,.int .i64 jY,.int .i64 jZ,j0,j1] bH λbU=>
 yKn R (some (⟨r1,0,none⟩:Addr)) (some (⟨r3,0,none⟩:Addr)) qy ds bU)
theorem F115_p:Pl prog f115 [aS 0 [.str,.int .i64,.int .i64,.bool]] xKs:=λR=>
 pc 2 (rest [pS 1,pS 3,bS 4] (yKn R) lf)
theorem yWn (aW:ByteArray) (aI aX:Int) (aY:Bool) (w:World) (R:Rt) (h:xKs R aW aI aX aY [] w):Calls prog 115 #[.agg #[.string aW,.int .i64 aI,.int .i64 aX,.bool aY]] w R:=
 plC F115_p func115 h
def xQp(R:Rt)(s0:ByteArray)(ds:Ds)(w:World):Prop:=
 Br (!(s0.toList == (⟨#[]⟩:ByteArray).toList)) (
 Br (decide ((s0.size:Int)<=10)) (
 Calls prog 190 #[.string s0,.string (⟨#[65,66,67,68,69,70,71,72,73,74,75,76,77,78,79,80,81,82,83,84,85,86,87,88,89,90,48,49,50,51,52,53,54,55,56,57,95]⟩:ByteArray)] w λe w1=>
 ∃rV:ByteArray,e=.returned (.string rV)/\
 Br (rV.toList == (⟨#[]⟩:ByteArray).toList) (
 ∃rW:UInt8,0<=(0:Int)/\s0[(0:Int).toNat]?=some rW/\
 Br (decide ((rW.toNat:Int) >= 65)) (
 ∃pE:UInt8,0<=(0:Int)/\s0[(0:Int).toNat]?=some pE/\
 zQb prog ds w1 λw2=>
 R (.returned (.bool (decide ((pE.toNat:Int)<=90)))) w2) (
 zQb prog ds w1 λw3=>
 R (.returned (.bool false)) w3)) (
 zQb prog ds w1 λw4=>
 R (.returned (.bool false)) w4)) (
 zQb prog ds w λw5=>
 R (.returned (.bool false)) w5)) (
 zQb prog ds w λw6=>
 R (.returned (.bool false)) w6)
theorem F146_p:Pl prog f146 [sS 0] xQp:=λR=>
 lf
theorem yWB (s0:ByteArray) (w:World) (R:Rt) (h:xQp R s0 [] w):Calls prog 146 #[.string s0] w R:=
 plC F146_p func146 h
def xKN(R:Rt)(ds:Ds)(w:World):Prop:=
 alE (.map #[] 0) w λr1 w1=>
 doE prog (Instr.mapUpdate 176 (.map (some r1)) (.int .i64 1) (.agg #[.int .u8 76,.int .i64 1,.int .i64 1,.func (.func 180) #[] #[],.func (.func 181) #[] #[]])) w1 λw2=>
 doE prog (Instr.mapUpdate 176 (.map (some r1)) (.int .i64 2) (.agg #[.int .u8 78,.int .i64 1,.int .i64 15,.func (.func 182) #[] #[],.func (.func 183) #[] #[]])) w2 λw3=>
 doE prog (Instr.mapUpdate 176 (.map (some r1)) (.int .i64 3) (.agg #[.int .u8 68,.int .i64 8,.int .i64 8,.func (.func 184) #[] #[],.func (.func 185) #[] #[]])) w3 λw4=>
 doE prog (Instr.mapUpdate 176 (.map (some r1)) (.int .i64 4) (.agg #[.int .u8 67,.int .i64 1,.int .i64 254,.func (.func 186) #[] #[],.func (.func 187) #[] #[]])) w4 λw5=>
 doE prog (Instr.mapUpdate 176 (.map (some r1)) (.int .i64 5) (.agg #[.int .u8 77,.int .i64 8,.int .i64 8,.func (.func 188) #[] #[],.func (.func 189) #[] #[]])) w5 λw6=>
 zQb prog ds w6 λw7=>
 R (.returned (.map (some r1))) w7
theorem F145_p:Pl prog f145 [] xKN:=λR=>
 lf
theorem yWz  (w:World) (R:Rt) (h:xKN R [] w):Calls prog 145 #[] w R:=
 plC F145_p func145 h
def xWr(R:Rt)(n0:Int)(ds:Ds)(w:World):Prop:=
 Br (decide (n0 >= 0)) (
 zQb prog ds w λw1=>
 R (.returned (.bool (decide (n0<=2)))) w1) (
 zQb prog ds w λw2=>
 R (.returned (.bool false)) w2)
theorem F116_p:Pl prog f116 [iS 0] xWr:=λR=>
 lf
theorem yKW (n0:Int) (w:World) (R:Rt) (h:xWr R n0 [] w):Calls prog 116 #[.int .i64 n0] w R:=
 plC F116_p func116 h
def F91_1(R:Rt)(aW:ByteArray)(aI aX:Int)(aY:Bool)(ds:Ds)(w:World):Prop:=
 alE (.cells #[.string aW,.int .i64 aI,.int .i64 aX,.bool aY] 129) w λr1 w1=>
 ∃s4,w1.cell? (⟨r1,0,none⟩:Addr)=some (.string s4)/\
 Calls prog 130 #[.string s4] w1 λe w2=>
 ∃b5:Bool,e=.returned (.bool b5)/\
 Br (!b5) (
 zQb prog ds w2 λw3=>
 R (.returned (.bool false)) w3) (
 ∃n8,w2.cell? ((⟨r1,0,none⟩:Addr).add 1)=some (.int .i64 n8)/\
 Br (n8 == 1) (
 ∃dz,w2.cell? ((⟨r1,0,none⟩:Addr).add 2)=some (.int .i64 dz)/\
 zQb prog ds w2 λw4=>
 R (.returned (.bool (dz == 1))) w4) (
 Br (n8 == 2) (
 ∃mW,w2.cell? ((⟨r1,0,none⟩:Addr).add 2)=some (.int .i64 mW)/\
 Br (decide (mW >= 1)) (
 ∃jO,w2.cell? ((⟨r1,0,none⟩:Addr).add 2)=some (.int .i64 jO)/\
 zQb prog ds w2 λw5=>
 R (.returned (.bool (decide (jO<=15)))) w5) (
 zQb prog ds w2 λw6=>
 R (.returned (.bool false)) w6)) (
 Br (n8 == 3) (
 Br (n8 == 3) (
 ∃mX,w2.cell? ((⟨r1,0,none⟩:Addr).add 2)=some (.int .i64 mX)/\
 zQb prog ds w2 λw7=>
 R (.returned (.bool (mX == 8))) w7) (
 Br (n8 == 4) (
 ∃qx,w2.cell? ((⟨r1,0,none⟩:Addr).add 2)=some (.int .i64 qx)/\
 Br (decide (qx >= 1)) (
 ∃io,w2.cell? ((⟨r1,0,none⟩:Addr).add 2)=some (.int .i64 io)/\
 zQb prog ds w2 λw8=>
 R (.returned (.bool (decide (io<=254)))) w8) (
 zQb prog ds w2 λw9=>
 R (.returned (.bool false)) w9)) (
 zQb prog ds w2 λaP=>
 R (.returned (.bool false)) aP))) (
 Br (n8 == 5) (
 ∃mX,w2.cell? ((⟨r1,0,none⟩:Addr).add 2)=some (.int .i64 mX)/\
 zQb prog ds w2 λaU=>
 R (.returned (.bool (mX == 8))) aU) (
 Br (n8 == 4) (
 ∃qx,w2.cell? ((⟨r1,0,none⟩:Addr).add 2)=some (.int .i64 qx)/\
 Br (decide (qx >= 1)) (
 ∃io,w2.cell? ((⟨r1,0,none⟩:Addr).add 2)=some (.int .i64 io)/\
 zQb prog ds w2 λaQ=>
 R (.returned (.bool (decide (io<=254)))) aQ) (
 zQb prog ds w2 λaJ=>
 R (.returned (.bool false)) aJ)) (
 zQb prog ds w2 λbB=>
 R (.returned (.bool false)) bB))))))
theorem F91_p:Pl prog f91 [aS 0 [.str,.int .i64,.int .i64,.bool]] F91_1:=λR=>
 lf
theorem xXx (aW:ByteArray) (aI aX:Int) (aY:Bool) (w:World) (R:Rt) (h:F91_1 R aW aI aX aY [] w):Calls prog 91 #[.agg #[.string aW,.int .i64 aI,.int .i64 aX,.bool aY]] w R:=
 plC F91_p func91 h
def F52_1(R:Rt)(n0:Int)(ds:Ds)(w:World):Prop:=
 Br (decide (n0 >= 0)) (
 zQb prog ds w λw1=>
 R (.returned (.bool (decide (n0<=2)))) w1) (
 zQb prog ds w λw2=>
 R (.returned (.bool false)) w2)
theorem F52_p:Pl prog f52 [iS 0] F52_1:=λR=>
 lf
theorem xQn (n0:Int) (w:World) (R:Rt) (h:F52_1 R n0 [] w):Calls prog 52 #[.int .i64 n0] w R:=
 plC F52_p func52 h
def xWq(R:Rt)(ds:Ds)(w:World):Prop:=
 zQb prog ds w λw1=>
 R (.returned (.bool true)) w1
def zWz (R:Rt) (J1:(Int)->World->Prop) (s0:ByteArray) (n3:Int) (ds:Ds) (w:World):Prop:=
 J1 (IntKind.i64.wrap (n3+1)) w
def xJQ (R:Rt) (J1:(Int)->World->Prop) (s0:ByteArray) (n3:Int) (ds:Ds) (w:World):Prop:=
 ∃pE:UInt8,0<=n3/\s0[n3.toNat]?=some pE/\
 Br (decide ((pE.toNat:Int) >= 65)) (
 Br (!(decide ((pE.toNat:Int)<=90))) (
 Br (n3 == 0) (
 zQb prog ds w λw2=>
 R (.returned (.bool false)) w2) (
 Br ((pE.toNat:Int) != 95) (
 Calls prog 166 #[.int .u8 (pE.toNat:Int)] w λe w3=>
 ∃sT:Bool,e=.returned (.bool sT)/\
 Br (!sT) (
 zQb prog ds w3 λw4=>
 R (.returned (.bool false)) w4) (
 zWz R J1 s0 n3 ds w3)) (
 zWz R J1 s0 n3 ds w))) (
 zWz R J1 s0 n3 ds w)) (
 Br (n3 == 0) (
 zQb prog ds w λw5=>
 R (.returned (.bool false)) w5) (
 Br ((pE.toNat:Int) != 95) (
 Calls prog 166 #[.int .u8 (pE.toNat:Int)] w λe w6=>
 ∃sT:Bool,e=.returned (.bool sT)/\
 Br (!sT) (
 zQb prog ds w6 λw7=>
 R (.returned (.bool false)) w7) (
 zWz R J1 s0 n3 ds w6)) (
 zWz R J1 s0 n3 ds w)))
def xWZ (R:Rt) (J1:(Int)->World->Prop) (s0:ByteArray) (n3:Int) (ds:Ds) (w:World):Prop:=
 Br (decide (n3<(s0.size:Int))) (
 xJQ R J1 s0 n3 ds w) (
 xWq R ds w)
def xVG(R:Rt)(s0:ByteArray)(n3:Int)(ds:Ds)(w:World):Prop:=
 zQA (λ(J1:(Int)->World->Prop) (s:Int) (w:World)=>xWZ R J1 s0 s ds w) n3 w
def xJ3(R:Rt)(s0:ByteArray)(ds:Ds)(w:World):Prop:=
 Br (decide ((s0.size:Int)<1)) (
 zQb prog ds w λw8=>
 R (.returned (.bool false)) w8) (
 Br (decide ((s0.size:Int) > 10)) (
 zQb prog ds w λw9=>
 R (.returned (.bool false)) w9) (
 xVG R s0 0 ds w))
theorem F130_p:Pl prog f130 [sS 0] xJ3:=λR=>
 pc 4 (rest [sS 0,iS 3] (xVG R) (bk 0 (rest [] (xWq R) lf) (lp [iS 3] [sS 0,iS 3] (xWZ R) zXI λJ1=>pc 2 (rest [sS 0,iS 3] (xJQ R J1) (pc 1 (rest [sS 0,iS 3] (zWz R J1) lf))))))
theorem yWE (s0:ByteArray) (w:World) (R:Rt) (h:xJ3 R s0 [] w):Calls prog 130 #[.string s0] w R:=
 plC F130_p func130 h
def xKc(R:Rt)(n0:Int)(ds:Ds)(w:World):Prop:=
 Br (decide (n0 >= 48)) (
 zQb prog ds w λw1=>
 R (.returned (.bool (decide (n0<=57)))) w1) (
 zQb prog ds w λw2=>
 R (.returned (.bool false)) w2)
theorem F166_p:Pl prog f166 [kS .u8 0] xKc:=λR=>
 lf
theorem yKA (n0:Int) (w:World) (R:Rt) (h:xKc R n0 [] w):Calls prog 166 #[.int .u8 n0] w R:=
 plC F166_p func166 h
def xJG(R:Rt)(aW:ByteArray)(aI aX:Int)(aY:Bool)(ds:Ds)(w:World):Prop:=
 alE (.cells #[.string aW,.int .i64 aI,.int .i64 aX,.bool aY] 129) w λr1 w1=>
 alE (.cells #[.int .i64 0,.int .i64 0,.string (⟨#[]⟩:ByteArray)] 73) w1 λr2 w2=>
 ∃n4,w2.cell? ((⟨r1,0,none⟩:Addr).add 1)=some (.int .i64 n4)/\
 Br (n4 == 5) (
 stA prog 73 (⟨r2,0,none⟩:Addr) #[.int .i64 2,.int .i64 0,.string (⟨#[]⟩:ByteArray)] w2 λw3=>
 zQb prog ds w3 λw4=>
 ∃ag,w4.cell? ((⟨r2,0,none⟩:Addr).add 0)=some (.int .i64 ag)/\
 ∃aj,w4.cell? ((⟨r2,0,none⟩:Addr).add 1)=some (.int .i64 aj)/\
 ∃ak,w4.cell? ((⟨r2,0,none⟩:Addr).add 2)=some (.string ak)/\
 R (.returned (.agg #[.int .i64 ag,.int .i64 aj,.string ak])) w4) (
 ∃n8,w2.cell? ((⟨r1,0,none⟩:Addr).add 1)=some (.int .i64 n8)/\
 stA prog 73 (⟨r2,0,none⟩:Addr) #[.int .i64 n8,.int .i64 0,.string (⟨#[]⟩:ByteArray)] w2 λw5=>
 zQb prog ds w5 λw6=>
 ∃ag,w6.cell? ((⟨r2,0,none⟩:Addr).add 0)=some (.int .i64 ag)/\
 ∃aj,w6.cell? ((⟨r2,0,none⟩:Addr).add 1)=some (.int .i64 aj)/\
 ∃ak,w6.cell? ((⟨r2,0,none⟩:Addr).add 2)=some (.string ak)/\
 R (.returned (.agg #[.int .i64 ag,.int .i64 aj,.string ak])) w6)
theorem F118_p:Pl prog f118 [aS 0 [.str,.int .i64,.int .i64,.bool]] xJG:=λR=>
 lf
theorem yVt (aW:ByteArray) (aI aX:Int) (aY:Bool) (w:World) (R:Rt) (h:xJG R aW aI aX aY [] w):Calls prog 118 #[.agg #[.string aW,.int .i64 aI,.int .i64 aX,.bool aY]] w R:=
 plC F118_p func118 h
end Go.Proofs.YtaeecpjhfmcliaaGreatDoor
/- Shallow texts of functions, printed by program, each checked by the kernel against the loaded code. No condition. -/
namespace Go.Proofs.YtaeecpjhfmcliaaGreatDoor
open Go.Sh Tryz
def xX5(R:Rt)(n1:Int)(s6:ByteArray)(ds:Ds)(w:World):Prop:=
 Calls prog 155 #[.string (⟨#[32]⟩:ByteArray),.int .i64 (IntKind.i64.wrap (n1 - (s6.size:Int)))] w λe w1=>
 ∃s30:ByteArray,e=.returned (.string s30)/\
 ((s30.size+s6.size:Nat):Int)<=9223372036854775807/\
 zQb prog ds w1 λw2=>
 R (.returned (.tuple #[.string (s30 ++ s6),.int .i64 0])) w2
def xKB(R:Rt)(n0 n1:Int)(ds:Ds)(w:World):Prop:=
 Calls prog 153 #[.int .i64 n0] w λe w3=>
 ∃b8:Bool,e=.returned (.bool b8)/\
 Br (!b8) (
 zQb prog ds w3 λw4=>
 R (.returned (.tuple #[.string (⟨#[]⟩:ByteArray),.int .i64 1])) w4) (
 Br (decide (n1<1)) (
 zQb prog ds w3 λw5=>
 R (.returned (.tuple #[.string (⟨#[]⟩:ByteArray),.int .i64 1])) w5) (
 Br (decide (n1 > 254)) (
 zQb prog ds w3 λw6=>
 R (.returned (.tuple #[.string (⟨#[]⟩:ByteArray),.int .i64 1])) w6) (
 Calls prog 154 #[.int .i64 n0] w3 λe w7=>
 ∃m7:ByteArray,e=.returned (.string m7)/\
 Br (decide ((m7.size:Int) > n1)) (
 Calls prog 155 #[.string (⟨#[42]⟩:ByteArray),.int .i64 n1] w7 λe w8=>
 ∃s25:ByteArray,e=.returned (.string s25)/\
 zQb prog ds w8 λw9=>
 R (.returned (.tuple #[.string s25,.int .i64 0])) w9) (
 xX5 R n1 m7 ds w7))))
theorem F121_p:Pl prog f121 [iS 0,iS 1] xKB:=λR=>
 pc 6 (rest [iS 1,sS 6] (xX5 R) lf)
theorem yWC (n0 n1:Int) (w:World) (R:Rt) (h:xKB R n0 n1 [] w):Calls prog 121 #[.int .i64 n0,.int .i64 n1] w R:=
 plC F121_p func121 h
def xVh(R:Rt)(n0:Int)(ds:Ds)(w:World):Prop:=
 Br (decide (n0<0)) (
 Calls prog 154 #[.int .i64 (IntKind.i64.wrap (0 - n0))] w λe w1=>
 ∃s8:ByteArray,e=.returned (.string s8)/\
 (((⟨#[45]⟩:ByteArray).size+s8.size:Nat):Int)<=9223372036854775807/\
 zQb prog ds w1 λw2=>
 R (.returned (.string ((⟨#[45]⟩:ByteArray) ++ s8))) w2) (
 Br (decide (n0<10)) (
 0<=(IntKind.i64.wrap (n0+1))/\(IntKind.i64.wrap (n0+1)).toNat<=(⟨#[48,49,50,51,52,53,54,55,56,57]⟩:ByteArray).size/\0<=n0/\n0.toNat<=(IntKind.i64.wrap (n0+1)).toNat/\
 zQb prog ds w λw3=>
 R (.returned (.string ((⟨#[48,49,50,51,52,53,54,55,56,57]⟩:ByteArray).extract n0.toNat ((IntKind.i64.wrap (n0+1)).toNat)))) w3) (
 dwE w λw4=>
 IntKind.i64=IntKind.i64/\(10:Int) ≠ 0/\
 IntKind.i64=IntKind.i64/\(10:Int) ≠ 0/\
 IntKind.i64=IntKind.i64/\(10:Int) ≠ 0/\
 0<=(IntKind.i64.wrap ((n0.tmod 10)+1))/\(IntKind.i64.wrap ((n0.tmod 10)+1)).toNat<=(⟨#[48,49,50,51,52,53,54,55,56,57]⟩:ByteArray).size/\0<=(n0.tmod 10)/\(n0.tmod 10).toNat<=(IntKind.i64.wrap ((n0.tmod 10)+1)).toNat/\
 Calls prog 154 #[.int .i64 (IntKind.i64.wrap (n0.tdiv 10))] w4 λe w5=>
 ∃m7:ByteArray,e=.returned (.string m7)/\
 ((m7.size+((⟨#[48,49,50,51,52,53,54,55,56,57]⟩:ByteArray).extract ((n0.tmod 10).toNat) ((IntKind.i64.wrap ((n0.tmod 10)+1)).toNat)).size:Nat):Int)<=9223372036854775807/\
 zQb prog ds w5 λw6=>
 R (.returned (.string (m7 ++ ((⟨#[48,49,50,51,52,53,54,55,56,57]⟩:ByteArray).extract ((n0.tmod 10).toNat) ((IntKind.i64.wrap ((n0.tmod 10)+1)).toNat))))) w6))
theorem F154_p:Pl prog f154 [iS 0] xVh:=λR=>
 lf
theorem yQC (n0:Int) (w:World) (R:Rt) (h:xVh R n0 [] w):Calls prog 154 #[.int .i64 n0] w R:=
 plC F154_p func154 h
def xKf(R:Rt)(n0:Int)(ds:Ds)(w:World):Prop:=
 Br (decide (n0<0)) (
 Br (n0 == (-9223372036854775808)) (
 zQb prog ds w λw1=>
 R (.returned (.string (⟨#[45,57,50,50,51,51,55,50,48,51,54,56,53,52,55,55,53,56,48,56]⟩:ByteArray))) w1) (
 Calls prog 134 #[.int .i64 (IntKind.i64.wrap (0 - n0))] w λe w2=>
 ∃s9:ByteArray,e=.returned (.string s9)/\
 (((⟨#[45]⟩:ByteArray).size+s9.size:Nat):Int)<=9223372036854775807/\
 zQb prog ds w2 λw3=>
 R (.returned (.string ((⟨#[45]⟩:ByteArray) ++ s9))) w3)) (
 Br (decide (n0<10)) (
 0<=(IntKind.i64.wrap (n0+1))/\(IntKind.i64.wrap (n0+1)).toNat<=(⟨#[48,49,50,51,52,53,54,55,56,57]⟩:ByteArray).size/\0<=n0/\n0.toNat<=(IntKind.i64.wrap (n0+1)).toNat/\
 zQb prog ds w λw4=>
 R (.returned (.string ((⟨#[48,49,50,51,52,53,54,55,56,57]⟩:ByteArray).extract n0.toNat ((IntKind.i64.wrap (n0+1)).toNat)))) w4) (
 IntKind.i64=IntKind.i64/\(10:Int) ≠ 0/\
 Calls prog 134 #[.int .i64 (IntKind.i64.wrap (n0.tdiv 10))] w λe w5=>
 ∃m7:ByteArray,e=.returned (.string m7)/\
 IntKind.i64=IntKind.i64/\(10:Int) ≠ 0/\
 Calls prog 134 #[.int .i64 (n0.tmod 10)] w5 λe w6=>
 ∃xk:ByteArray,e=.returned (.string xk)/\
 ((m7.size+xk.size:Nat):Int)<=9223372036854775807/\
 zQb prog ds w6 λw7=>
 R (.returned (.string (m7 ++ xk))) w7))
theorem F134_p:Pl prog f134 [iS 0] xKf:=λR=>
 lf
theorem yQn (n0:Int) (w:World) (R:Rt) (h:xKf R n0 [] w):Calls prog 134 #[.int .i64 n0] w R:=
 plC F134_p func134 h
def yZD(R:Rt)(s0:ByteArray)(n3:Int)(ds:Ds)(w:World):Prop:=
 0<=n3/\n3.toNat<=s0.size/\0<=n3.toNat/\
 zQb prog ds w λw1=>
 R (.returned (.string (s0.extract 0 n3.toNat))) w1
def xKM (R:Rt) (J1:(Int)->World->Prop) (s0:ByteArray) (n3:Int) (ds:Ds) (w:World):Prop:=
 Br (decide (n3 > 0)) (
 ∃cL:UInt8,0<=(IntKind.i64.wrap (n3 - 1))/\s0[(IntKind.i64.wrap (n3 - 1)).toNat]?=some cL/\
 Br ((cL.toNat:Int) == 32) (
 J1 (IntKind.i64.wrap (n3 - 1)) w) (
 yZD R s0 n3 ds w)) (
 yZD R s0 n3 ds w)
def xWU(R:Rt)(s0:ByteArray)(n3:Int)(ds:Ds)(w:World):Prop:=
 zQA (λ(J1:(Int)->World->Prop) (s:Int) (w:World)=>xKM R J1 s0 s ds w) n3 w
def xVj(R:Rt)(s0:ByteArray)(ds:Ds)(w:World):Prop:=
 xWU R s0 (s0.size:Int) ds w
theorem F135_p:Pl prog f135 [sS 0] xVj:=λR=>
 pc 2 (rest [sS 0,iS 3] (xWU R) (bk 0 (rest [sS 0,iS 3] (yZD R) lf) (lp [iS 3] [sS 0,iS 3] (xKM R) zXI λJ1=>lf)))
theorem yWM (s0:ByteArray) (w:World) (R:Rt) (h:xVj R s0 [] w):Calls prog 135 #[.string s0] w R:=
 plC F135_p func135 h
def xJ9(R:Rt)(s0:ByteArray)(ds:Ds)(w:World):Prop:=
 alE (.cells #[.int .i64 0,.int .i64 0,.string (⟨#[]⟩:ByteArray)] 73) w λr2 w1=>
 stA prog 73 (⟨r2,0,none⟩:Addr) #[.int .i64 4,.int .i64 0,.string s0] w1 λw2=>
 zQb prog ds w2 λw3=>
 ∃ag,w3.cell? ((⟨r2,0,none⟩:Addr).add 0)=some (.int .i64 ag)/\
 ∃aj,w3.cell? ((⟨r2,0,none⟩:Addr).add 1)=some (.int .i64 aj)/\
 ∃ak,w3.cell? ((⟨r2,0,none⟩:Addr).add 2)=some (.string ak)/\
 R (.returned (.agg #[.int .i64 ag,.int .i64 aj,.string ak])) w3
theorem F177_p:Pl prog f177 [sS 0] xJ9:=λR=>
 lf
theorem yVG (s0:ByteArray) (w:World) (R:Rt) (h:xJ9 R s0 [] w):Calls prog 177 #[.string s0] w R:=
 plC F177_p func177 h
end Go.Proofs.YtaeecpjhfmcliaaGreatDoor
/- Shallow texts of functions, printed by program, each checked by the kernel against the loaded code. No condition. -/
namespace Go.Proofs.YtaeecpjhfmcliaaGreatDoor
open Go.Sh Tryz
def xVx(R:Rt)(s0:ByteArray)(n1:Int)(ds:Ds)(w:World):Prop:=
 Calls prog 152 #[.string s0,.int .i64 n1] w λe w1=>
 ∃sU:Bool,∃ji:Int,e=.returned (.tuple #[.bool sU,.int .i64 ji])/\
 Br sU (
 zQb prog ds w1 λw2=>
 R (.returned (.bool (ji == 0))) w2) (
 zQb prog ds w1 λw3=>
 R (.returned (.bool false)) w3)
theorem F120_p:Pl prog f120 [sS 0,iS 1] xVx:=λR=>
 lf
theorem yVD (s0:ByteArray) (n1:Int) (w:World) (R:Rt) (h:xVx R s0 n1 [] w):Calls prog 120 #[.string s0,.int .i64 n1] w R:=
 plC F120_p func120 h
def xKY(R:Rt)(ds:Ds)(w:World):Prop:=
 zQb prog ds w λw1=>
 R (.returned (.tuple #[.bool true,.int .i64 0])) w1
def xKm (R:Rt) (J1:(Int)->World->Prop) (p7:Option Addr) (cz:SV) (de iw:Int) (ds:Ds) (w:World):Prop:=
 Br (decide (iw<de)) (
 ∃a2,cz.a=some a2/\0<=iw/\iw<(cz.len:Int)/\
 ∃cv,w.cell? (a2.add (iw.toNat * 1))=some (.int .u8 cv)/\
 zQf p7 λa3=>
 0<=cv/\cv<(256:Int)/\
 ∃xT,w.cell? (a3.add (cv.toNat * 1))=some (.int .i32 xT)/\
 Br (decide (xT<0)) (
 zQb prog ds w λw4=>
 R (.returned (.tuple #[.bool false,.int .i64 0])) w4) (
 J1 (IntKind.i64.wrap (iw+1)) w)) (
 xKY R ds w)
def xVg(R:Rt)(p7:Option Addr)(cz:SV)(de iw:Int)(ds:Ds)(w:World):Prop:=
 zQA (λ(J1:(Int)->World->Prop) (s:Int) (w:World)=>xKm R J1 p7 cz de s ds w) iw w
def xV0(R:Rt)(s0:ByteArray)(n1:Int)(ds:Ds)(w:World):Prop:=
 alE (.cells #[.string s0] 9) w λpF w5=>
 Calls prog 195 #[.int .i64 n1,.slice (some ⟨pF,0,none⟩) 1 1] w5 λe w6=>
 ∃cK:Int,e=.returned (.int .i64 cK)/\
 Br (cK != 0) (
 zQb prog ds w6 λw7=>
 R (.returned (.tuple #[.bool false,.int .i64 cK])) w7) (
 Calls prog 196 #[] w6 λe w8=>
 ∃c17:Array Value,c17.size=768/\e=.returned (.agg c17)/\
 ∃c19:Array Value,c19.size=256/\∃w9,(Instr.index 213 (.agg c17) (.int .i64 n1)).run prog w8=.ok (.agg c19) w9/\
 alE (.cells (zc prog 212) 212) w9 λr7 aP=>
 stA prog 212 (⟨r7,0,none⟩:Addr) c19 aP λaU=>
 ∃cz:SV,∃aQ,(convert 9 22 (.string s0)).run prog aU=.ok (cz.v) aQ/\
 xVg R (some (⟨r7,0,none⟩:Addr)) cz (cz.len:Int) 0 ds aQ)
theorem F152_p:Pl prog f152 [sS 0,iS 1] xV0:=λR=>
 pc 6 (rest [pS 7,lS 21,iS 22,iS 23] (xVg R) (bk 0 (rest [] (xKY R) lf) (lp [iS 23] [pS 7,lS 21,iS 22,iS 23] (xKm R) zXI λJ1=>lf)))
theorem yWi (s0:ByteArray) (n1:Int) (w:World) (R:Rt) (h:xV0 R s0 n1 [] w):Calls prog 152 #[.string s0,.int .i64 n1] w R:=
 plC F152_p func152 h
def xVp(R:Rt)(n0:Int)(ds:Ds)(w:World):Prop:=
 Br (decide (n0<0)) (
 zQb prog ds w λw1=>
 R (.returned (.int .i64 1)) w1) (
 Br (decide (n0 > 2)) (
 zQb prog ds w λw2=>
 R (.returned (.int .i64 1)) w2) (
 zQb prog ds w λw3=>
 R (.returned (.int .i64 0)) w3))
def xWu (R:Rt) (J1:(Int)->World->Prop) (n0:Int) (l7:SV) (n8 n9:Int) (ds:Ds) (w:World):Prop:=
 Br (decide (n9<n8)) (
 ∃a4,l7.a=some a4/\0<=n9/\n9<(l7.len:Int)/\
 ∃rV,w.cell? (a4.add (n9.toNat * 1))=some (.string rV)/\
 Br (decide ((rV.size:Int) > 2048)) (
 zQb prog ds w λw5=>
 R (.returned (.int .i64 3)) w5) (
 J1 (IntKind.i64.wrap (n9+1)) w)) (
 xVp R n0 ds w)
def xVR(R:Rt)(n0:Int)(l7:SV)(n8 n9:Int)(ds:Ds)(w:World):Prop:=
 zQA (λ(J1:(Int)->World->Prop) (s:Int) (w:World)=>xWu R J1 n0 l7 n8 s ds w) n9 w
def xJB(R:Rt)(n0:Int)(l1:SV)(ds:Ds)(w:World):Prop:=
 xVR R n0 l1 (l1.len:Int) 0 ds w
theorem F195_p:Pl prog f195 [iS 0,lS 1] xJB:=λR=>
 pc 2 (rest [iS 0,lS 7,iS 8,iS 9] (xVR R) (bk 0 (rest [iS 0] (xVp R) lf) (lp [iS 9] [iS 0,lS 7,iS 8,iS 9] (xWu R) zXI λJ1=>lf)))
theorem yKM (n0:Int) (l1:SV) (w:World) (R:Rt) (h:xJB R n0 l1 [] w):Calls prog 195 #[.int .i64 n0,l1.v] w R:=
 plC F195_p func195 h
def xQf(R:Rt)(p0 p1:Option Addr)(ds:Ds)(w:World):Prop:=
 zQf p1 λa1=>
 ∃c48:Array Value,c48.size=768/\(∀i,i<768->w.cell? (a1.add i)=c48[i]?)/\
 zQf p0 λa2=>
 stA prog 213 a2 c48 w λw3=>
 zQb prog ds w3 λw4=>
 zQf p0 λa5=>
 ∃cR0:Array Value,cR0.size=768/\(∀i,i<768->w4.cell? (a5.add i)=cR0[i]?)/\
 R (.returned (.agg cR0)) w4
def xWm (R:Rt) (J1:(Int)->World->Prop) (p0 p1:Option Addr) (n5:Int) (ds:Ds) (w:World):Prop:=
 Br (decide (n5<=239)) (
 zQf p1 λa6=>
 0<=(2:Int)/\(2:Int)<(3:Int)/\
 0<=n5/\n5<(256:Int)/\
 st1 ((a6.add ((2:Int).toNat * 256)).add (n5.toNat * 1)) (.int .i32 (IntKind.i32.wrap ((1088:Int)+(IntKind.i32.wrap (IntKind.i64.wrap (n5 - 224)))))) w λw7=>
 J1 (IntKind.i64.wrap (n5+1)) w7) (
 xQf R p0 p1 ds w)
def xKA(R:Rt)(p0 p1:Option Addr)(n5:Int)(ds:Ds)(w:World):Prop:=
 zQA (λ(J1:(Int)->World->Prop) (s:Int) (w:World)=>xWm R J1 p0 p1 s ds w) n5 w
def xVS(R:Rt)(p0 p1:Option Addr)(ds:Ds)(w:World):Prop:=
 xKA R p0 p1 224 ds w
def xWn (R:Rt) (J1:(Int)->World->Prop) (p0 p1:Option Addr) (n4:Int) (ds:Ds) (w:World):Prop:=
 Br (decide (n4<=175)) (
 zQf p1 λa8=>
 0<=(2:Int)/\(2:Int)<(3:Int)/\
 0<=n4/\n4<(256:Int)/\
 st1 ((a8.add ((2:Int).toNat * 256)).add (n4.toNat * 1)) (.int .i32 (IntKind.i32.wrap ((1040:Int)+(IntKind.i32.wrap (IntKind.i64.wrap (n4 - 128)))))) w λw9=>
 J1 (IntKind.i64.wrap (n4+1)) w9) (
 xVS R p0 p1 ds w)
def xV9(R:Rt)(p0 p1:Option Addr)(n4:Int)(ds:Ds)(w:World):Prop:=
 zQA (λ(J1:(Int)->World->Prop) (s:Int) (w:World)=>xWn R J1 p0 p1 s ds w) n4 w
def xKp(R:Rt)(p0 p1:Option Addr)(ds:Ds)(w:World):Prop:=
 xV9 R p0 p1 128 ds w
def yVW (R:Rt) (J1:(Int)->World->Prop) (p0 p1:Option Addr) (n6:Int) (ds:Ds) (w:World):Prop:=
 Br (decide (n6<256)) (
 zQf p1 λdy=>
 0<=(1:Int)/\(1:Int)<(3:Int)/\
 0<=n6/\n6<(256:Int)/\
 st1 ((dy.add ((1:Int).toNat * 256)).add (n6.toNat * 1)) (.int .i32 (IntKind.i32.wrap n6)) w λaU=>
 Br (decide (n6 >= 128)) (
 zQf p1 λjj=>
 0<=(0:Int)/\(0:Int)<(3:Int)/\
 0<=n6/\n6<(256:Int)/\
 st1 ((jj.add ((0:Int).toNat * 256)).add (n6.toNat * 1)) (.int .i32 (-1)) aU λaJ=>
 zQf p1 λfY=>
 0<=(2:Int)/\(2:Int)<(3:Int)/\
 0<=n6/\n6<(256:Int)/\
 st1 ((fY.add ((2:Int).toNat * 256)).add (n6.toNat * 1)) (.int .i32 (-1)) aJ λbm=>
 J1 (IntKind.i64.wrap (n6+1)) bm) (
 zQf p1 λip=>
 0<=(0:Int)/\(0:Int)<(3:Int)/\
 0<=n6/\n6<(256:Int)/\
 st1 ((ip.add ((0:Int).toNat * 256)).add (n6.toNat * 1)) (.int .i32 (IntKind.i32.wrap n6)) aU λbH=>
 zQf p1 λjk=>
 0<=(2:Int)/\(2:Int)<(3:Int)/\
 0<=n6/\n6<(256:Int)/\
 st1 ((jk.add ((2:Int).toNat * 256)).add (n6.toNat * 1)) (.int .i32 (IntKind.i32.wrap n6)) bH λcM=>
 J1 (IntKind.i64.wrap (n6+1)) cM)) (
 xKp R p0 p1 ds w)
def xXd(R:Rt)(p0 p1:Option Addr)(n6:Int)(ds:Ds)(w:World):Prop:=
 zQA (λ(J1:(Int)->World->Prop) (s:Int) (w:World)=>yVW R J1 p0 p1 s ds w) n6 w
def yYC(R:Rt)(ds:Ds)(w:World):Prop:=
 alE (.cells (zc prog 213) 213) w λr0 bT=>
 alE (.cells (zc prog 213) 213) bT λr1 bX=>
 xXd R (some (⟨r0,0,none⟩:Addr)) (some (⟨r1,0,none⟩:Addr)) 0 ds bX
theorem F196_p:Pl prog f196 [] yYC:=λR=>
 pc 3 (rest [pS 0,pS 1,iS 6] (xXd R) (bk 0 (rest [pS 0,pS 1] (xKp R) (pc 1 (rest [pS 0,pS 1,iS 4] (xV9 R) (bk 2 (rest [pS 0,pS 1] (xVS R) (pc 1 (rest [pS 0,pS 1,iS 5] (xKA R) (bk 4 (rest [pS 0,pS 1] (xQf R) lf) (lp [iS 5] [pS 0,pS 1,iS 5] (xWm R) zXI λJ1=>lf))))) (lp [iS 4] [pS 0,pS 1,iS 4] (xWn R) zXI λJ1=>lf))))) (lp [iS 6] [pS 0,pS 1,iS 6] (yVW R) zXI λJ1=>lf)))
theorem yWf  (w:World) (R:Rt) (h:yYC R [] w):Calls prog 196 #[] w R:=
 plC F196_p func196 h
def xVf(R:Rt)(ds:Ds)(w:World):Prop:=
 zQb prog ds w λw1=>
 R (.returned (.bool true)) w1
def xJN (R:Rt) (J1:(Int)->World->Prop) (s0:ByteArray) (n1 n5:Int) (ds:Ds) (w:World):Prop:=
 Br (decide (n5<(s0.size:Int))) (
 ∃iy:UInt8,0<=n5/\s0[n5.toNat]?=some iy/\
 Calls prog 168 #[.int .u8 (iy.toNat:Int),.int .i64 n1] w λe w2=>
 ∃iQ:Bool,e=.returned (.bool iQ)/\
 Br (!iQ) (
 zQb prog ds w2 λw3=>
 R (.returned (.bool false)) w3) (
 J1 (IntKind.i64.wrap (n5+1)) w2)) (
 xVf R ds w)
def xKQ(R:Rt)(s0:ByteArray)(n1 n5:Int)(ds:Ds)(w:World):Prop:=
 zQA (λ(J1:(Int)->World->Prop) (s:Int) (w:World)=>xJN R J1 s0 n1 s ds w) n5 w
def xKu(R:Rt)(s0:ByteArray)(n1:Int)(ds:Ds)(w:World):Prop:=
 xKQ R s0 n1 0 ds w
theorem F136_p:Pl prog f136 [sS 0,iS 1] xKu:=λR=>
 pc 2 (rest [sS 0,iS 1,iS 5] (xKQ R) (bk 0 (rest [] (xVf R) lf) (lp [iS 5] [sS 0,iS 1,iS 5] (xJN R) zXI λJ1=>lf)))
theorem yV4 (s0:ByteArray) (n1:Int) (w:World) (R:Rt) (h:xKu R s0 n1 [] w):Calls prog 136 #[.string s0,.int .i64 n1] w R:=
 plC F136_p func136 h
def xVE(R:Rt)(n0 n1:Int)(ds:Ds)(w:World):Prop:=
 Br (n1 == 0) (
 zQb prog ds w λw1=>
 R (.returned (.bool (decide (n0<128)))) w1) (
 Br (n1 == 1) (
 zQb prog ds w λw2=>
 R (.returned (.bool true)) w2) (
 Br (decide (n0<176)) (
 zQb prog ds w λw3=>
 R (.returned (.bool true)) w3) (
 Br (decide (n0 >= 224)) (
 zQb prog ds w λw4=>
 R (.returned (.bool (decide (n0<240)))) w4) (
 zQb prog ds w λw5=>
 R (.returned (.bool false)) w5))))
theorem F168_p:Pl prog f168 [kS .u8 0,iS 1] xVE:=λR=>
 lf
theorem yKY (n0 n1:Int) (w:World) (R:Rt) (h:xVE R n0 n1 [] w):Calls prog 168 #[.int .u8 n0,.int .i64 n1] w R:=
 plC F168_p func168 h
end Go.Proofs.YtaeecpjhfmcliaaGreatDoor
/- Shallow texts of functions, printed by program, each checked by the kernel against the loaded code. No condition. -/
namespace Go.Proofs.YtaeecpjhfmcliaaGreatDoor
open Go.Sh Tryz
def F83_1(R:Rt)(n1:Int)(p3 p5 p6:Option Addr)(od:Int)(ds:Ds)(w:World):Prop:=
 Br (od == 4) (
 zQf p5 λa1=>
 ∃s46,w.cell? (a1.add 2)=some (.string s46)/\
 zQf p5 λa2=>
 ∃s48,w.cell? (a2.add 2)=some (.string s48)/\
 zQf p3 λa3=>
 ∃ov,w.cell? (a3.add 2)=some (.int .i64 ov)/\
 ∃sV:Int,∃w4,(Builtin.min_ #[3,3] 3 #[.int .i64 (s48.size:Int),.int .i64 ov]).run prog w=.ok (.int .i64 sV) w4/\
 0<=sV/\sV.toNat<=s46.size/\0<=sV.toNat/\
 Calls prog 119 #[.string (s46.extract 0 sV.toNat),.string (⟨#[32]⟩:ByteArray)] w4 λe w5=>
 ∃oU:ByteArray,e=.returned (.string oU)/\
 zQf p5 λa6=>
 st1 (a6.add 2) (.string oU) w5 λw7=>
 zQf p5 λa8=>
 ∃xU,w7.cell? (a8.add 2)=some (.string xU)/\
 Calls prog 120 #[.string xU,.int .i64 n1] w7 λe w9=>
 ∃b59:Bool,e=.returned (.bool b59)/\
 Br (!b59) (
 zQf p6 λdy=>
 stA prog 73 dy #[.int .i64 0,.int .i64 0,.string (⟨#[]⟩:ByteArray)] w9 λaU=>
 zQb prog ds aU λaQ=>
 zQf p6 λkN=>
 ∃ag,aQ.cell? (kN.add 0)=some (.int .i64 ag)/\
 ∃aj,aQ.cell? (kN.add 1)=some (.int .i64 aj)/\
 ∃ak,aQ.cell? (kN.add 2)=some (.string ak)/\
 R (.returned (.tuple #[.agg #[.int .i64 ag,.int .i64 aj,.string ak],.int .i64 10])) aQ) (
 zQf p5 λfY=>
 ∃gj,w9.cell? (fY.add 0)=some (.int .i64 gj)/\
 ∃eL,w9.cell? (fY.add 1)=some (.int .i64 eL)/\
 ∃gk,w9.cell? (fY.add 2)=some (.string gk)/\
 zQf p6 λkx=>
 stA prog 73 kx #[.int .i64 gj,.int .i64 eL,.string gk] w9 λbF=>
 zQb prog ds bF λbH=>
 zQf p6 λjk=>
 ∃ag,bH.cell? (jk.add 0)=some (.int .i64 ag)/\
 ∃aj,bH.cell? (jk.add 1)=some (.int .i64 aj)/\
 ∃ak,bH.cell? (jk.add 2)=some (.string ak)/\
 R (.returned (.tuple #[.agg #[.int .i64 ag,.int .i64 aj,.string ak],.int .i64 0])) bH)) (
 Br (od == 2) (
 zQf p5 λky=>
 ∃xV,w.cell? (ky.add 1)=some (.int .i64 xV)/\
 zQf p3 λa20=>
 ∃xW,w.cell? (a20.add 2)=some (.int .i64 xW)/\
 Calls prog 121 #[.int .i64 xV,.int .i64 xW] w λe bX=>
 ∃sW:ByteArray,∃sX:Int,e=.returned (.tuple #[.string sW,.int .i64 sX])/\
 Br (sX != 0) (
 zQf p6 λpG=>
 stA prog 73 pG #[.int .i64 0,.int .i64 0,.string (⟨#[]⟩:ByteArray)] bX λdU=>
 zQb prog ds dU λdw=>
 zQf p6 λm8=>
 ∃ag,dw.cell? (m8.add 0)=some (.int .i64 ag)/\
 ∃aj,dw.cell? (m8.add 1)=some (.int .i64 aj)/\
 ∃ak,dw.cell? (m8.add 2)=some (.string ak)/\
 R (.returned (.tuple #[.agg #[.int .i64 ag,.int .i64 aj,.string ak],.int .i64 10])) dw) (
 Calls prog 122 #[.string sW,.string (⟨#[42]⟩:ByteArray)] bX λe fj=>
 ∃b76:Bool,e=.returned (.bool b76)/\
 Br b76 (
 zQf p6 λxX=>
 stA prog 73 xX #[.int .i64 0,.int .i64 0,.string (⟨#[]⟩:ByteArray)] fj λeg=>
 zQb prog ds eg λfm=>
 zQf p6 λow=>
 ∃ag,fm.cell? (ow.add 0)=some (.int .i64 ag)/\
 ∃aj,fm.cell? (ow.add 1)=some (.int .i64 aj)/\
 ∃ak,fm.cell? (ow.add 2)=some (.string ak)/\
 R (.returned (.tuple #[.agg #[.int .i64 ag,.int .i64 aj,.string ak],.int .i64 10])) fm) (
 zQf p5 λrX=>
 ∃gj,fj.cell? (rX.add 0)=some (.int .i64 gj)/\
 ∃eL,fj.cell? (rX.add 1)=some (.int .i64 eL)/\
 ∃gk,fj.cell? (rX.add 2)=some (.string gk)/\
 zQf p6 λvZ=>
 stA prog 73 vZ #[.int .i64 gj,.int .i64 eL,.string gk] fj λfU=>
 zQb prog ds fU λfV=>
 zQf p6 λrY=>
 ∃ag,fV.cell? (rY.add 0)=some (.int .i64 ag)/\
 ∃aj,fV.cell? (rY.add 1)=some (.int .i64 aj)/\
 ∃ak,fV.cell? (rY.add 2)=some (.string ak)/\
 R (.returned (.tuple #[.agg #[.int .i64 ag,.int .i64 aj,.string ak],.int .i64 0])) fV))) (
 Br (od == 5) (
 zQf p5 λpW=>
 ∃xY,w.cell? (pW.add 1)=some (.int .i64 xY)/\
 Br (decide (xY<0)) (
 zQf p6 λa37=>
 stA prog 73 a37 #[.int .i64 0,.int .i64 0,.string (⟨#[]⟩:ByteArray)] w λna=>
 zQb prog ds na λjU=>
 zQf p6 λrZ=>
 ∃ag,jU.cell? (rZ.add 0)=some (.int .i64 ag)/\
 ∃aj,jU.cell? (rZ.add 1)=some (.int .i64 aj)/\
 ∃ak,jU.cell? (rZ.add 2)=some (.string ak)/\
 R (.returned (.tuple #[.agg #[.int .i64 ag,.int .i64 aj,.string ak],.int .i64 10])) jU) (
 zQf p5 λxZ=>
 ∃n86,w.cell? (xZ.add 1)=some (.int .i64 n86)/\
 Br (decide (n86 > 99999999)) (
 zQf p6 λsa=>
 stA prog 73 sa #[.int .i64 0,.int .i64 0,.string (⟨#[]⟩:ByteArray)] w λoV=>
 zQb prog ds oV λkz=>
 zQf p6 λsb=>
 ∃ag,kz.cell? (sb.add 0)=some (.int .i64 ag)/\
 ∃aj,kz.cell? (sb.add 1)=some (.int .i64 aj)/\
 ∃ak,kz.cell? (sb.add 2)=some (.string ak)/\
 R (.returned (.tuple #[.agg #[.int .i64 ag,.int .i64 aj,.string ak],.int .i64 10])) kz) (
 zQf p5 λa46=>
 ∃gj,w.cell? (a46.add 0)=some (.int .i64 gj)/\
 ∃eL,w.cell? (a46.add 1)=some (.int .i64 eL)/\
 ∃gk,w.cell? (a46.add 2)=some (.string gk)/\
 zQf p6 λx6=>
 stA prog 73 x6 #[.int .i64 gj,.int .i64 eL,.string gk] w λkA=>
 zQb prog ds kA λsY=>
 zQf p6 λv6=>
 ∃ag,sY.cell? (v6.add 0)=some (.int .i64 ag)/\
 ∃aj,sY.cell? (v6.add 1)=some (.int .i64 aj)/\
 ∃ak,sY.cell? (v6.add 2)=some (.string ak)/\
 R (.returned (.tuple #[.agg #[.int .i64 ag,.int .i64 aj,.string ak],.int .i64 0])) sY))) (
 zQf p5 λa51=>
 ∃gj,w.cell? (a51.add 0)=some (.int .i64 gj)/\
 ∃eL,w.cell? (a51.add 1)=some (.int .i64 eL)/\
 ∃gk,w.cell? (a51.add 2)=some (.string gk)/\
 zQf p6 λv7=>
 stA prog 73 v7 #[.int .i64 gj,.int .i64 eL,.string gk] w λrO=>
 zQb prog ds rO λqz=>
 zQf p6 λa55=>
 ∃ag,qz.cell? (a55.add 0)=some (.int .i64 ag)/\
 ∃aj,qz.cell? (a55.add 1)=some (.int .i64 aj)/\
 ∃ak,qz.cell? (a55.add 2)=some (.string ak)/\
 R (.returned (.tuple #[.agg #[.int .i64 ag,.int .i64 aj,.string ak],.int .i64 0])) qz)))
def F83_2(R:Rt)(aW:ByteArray)(aI aX:Int)(aY:Bool)(n1 dk ei:Int)(eo:ByteArray)(ds:Ds)(w:World):Prop:=
 alE (.cells #[.string aW,.int .i64 aI,.int .i64 aX,.bool aY] 129) w λr3 xm=>
 alE (.cells #[.int .i64 dk,.int .i64 ei,.string eo] 73) xm λr5 wj=>
 alE (.cells #[.int .i64 0,.int .i64 0,.string (⟨#[]⟩:ByteArray)] 73) wj λr6 rP=>
 ∃jl,rP.cell? ((⟨r3,0,none⟩:Addr).add 0)=some (.string jl)/\
 ∃d7,rP.cell? ((⟨r3,0,none⟩:Addr).add 1)=some (.int .i64 d7)/\
 ∃jm,rP.cell? ((⟨r3,0,none⟩:Addr).add 2)=some (.int .i64 jm)/\
 ∃jn,rP.cell? ((⟨r3,0,none⟩:Addr).add 3)=some (.bool jn)/\
 Calls prog 115 #[.agg #[.string jl,.int .i64 d7,.int .i64 jm,.bool jn]] rP λe oy=>
 ∃cL:Bool,e=.returned (.bool cL)/\
 Br (!cL) (
 stA prog 73 (⟨r6,0,none⟩:Addr) #[.int .i64 0,.int .i64 0,.string (⟨#[]⟩:ByteArray)] oy λoW=>
 zQb prog ds oW λpH=>
 ∃ag,pH.cell? ((⟨r6,0,none⟩:Addr).add 0)=some (.int .i64 ag)/\
 ∃aj,pH.cell? ((⟨r6,0,none⟩:Addr).add 1)=some (.int .i64 aj)/\
 ∃ak,pH.cell? ((⟨r6,0,none⟩:Addr).add 2)=some (.string ak)/\
 R (.returned (.tuple #[.agg #[.int .i64 ag,.int .i64 aj,.string ak],.int .i64 1])) pH) (
 Calls prog 116 #[.int .i64 n1] oy λe qA=>
 ∃iQ:Bool,e=.returned (.bool iQ)/\
 Br (!iQ) (
 stA prog 73 (⟨r6,0,none⟩:Addr) #[.int .i64 0,.int .i64 0,.string (⟨#[]⟩:ByteArray)] qA λoe=>
 zQb prog ds oe λog=>
 ∃ag,og.cell? ((⟨r6,0,none⟩:Addr).add 0)=some (.int .i64 ag)/\
 ∃aj,og.cell? ((⟨r6,0,none⟩:Addr).add 1)=some (.int .i64 aj)/\
 ∃ak,og.cell? ((⟨r6,0,none⟩:Addr).add 2)=some (.string ak)/\
 R (.returned (.tuple #[.agg #[.int .i64 ag,.int .i64 aj,.string ak],.int .i64 1])) og) (
 ∃gl,qA.cell? ((⟨r5,0,none⟩:Addr).add 0)=some (.int .i64 gl)/\
 ∃eM,qA.cell? ((⟨r5,0,none⟩:Addr).add 1)=some (.int .i64 eM)/\
 ∃gm,qA.cell? ((⟨r5,0,none⟩:Addr).add 2)=some (.string gm)/\
 Calls prog 117 #[.agg #[.int .i64 gl,.int .i64 eM,.string gm]] qA λe oz=>
 ∃jO:Int,e=.returned (.int .i64 jO)/\
 Br (jO != 0) (
 stA prog 73 (⟨r6,0,none⟩:Addr) #[.int .i64 0,.int .i64 0,.string (⟨#[]⟩:ByteArray)] oz λoX=>
 zQb prog ds oX λw67=>
 ∃ag,w67.cell? ((⟨r6,0,none⟩:Addr).add 0)=some (.int .i64 ag)/\
 ∃aj,w67.cell? ((⟨r6,0,none⟩:Addr).add 1)=some (.int .i64 aj)/\
 ∃ak,w67.cell? ((⟨r6,0,none⟩:Addr).add 2)=some (.string ak)/\
 R (.returned (.tuple #[.agg #[.int .i64 ag,.int .i64 aj,.string ak],.int .i64 jO])) w67) (
 ∃gi,oz.cell? (⟨r5,0,none⟩:Addr)=some (.int .i64 gi)/\
 Br (gi == 0) (
 ∃qB,oz.cell? ((⟨r3,0,none⟩:Addr).add 3)=some (.bool qB)/\
 Br (!qB) (
 stA prog 73 (⟨r6,0,none⟩:Addr) #[.int .i64 0,.int .i64 0,.string (⟨#[]⟩:ByteArray)] oz λx7=>
 zQb prog ds x7 λsd=>
 ∃ag,sd.cell? ((⟨r6,0,none⟩:Addr).add 0)=some (.int .i64 ag)/\
 ∃aj,sd.cell? ((⟨r6,0,none⟩:Addr).add 1)=some (.int .i64 aj)/\
 ∃ak,sd.cell? ((⟨r6,0,none⟩:Addr).add 2)=some (.string ak)/\
 R (.returned (.tuple #[.agg #[.int .i64 ag,.int .i64 aj,.string ak],.int .i64 7])) sd) (
 ∃nc,oz.cell? ((⟨r5,0,none⟩:Addr).add 0)=some (.int .i64 nc)/\
 ∃ng,oz.cell? ((⟨r5,0,none⟩:Addr).add 1)=some (.int .i64 ng)/\
 ∃nh,oz.cell? ((⟨r5,0,none⟩:Addr).add 2)=some (.string nh)/\
 stA prog 73 (⟨r6,0,none⟩:Addr) #[.int .i64 nc,.int .i64 ng,.string nh] oz λx8=>
 zQb prog ds x8 λpX=>
 ∃ag,pX.cell? ((⟨r6,0,none⟩:Addr).add 0)=some (.int .i64 ag)/\
 ∃aj,pX.cell? ((⟨r6,0,none⟩:Addr).add 1)=some (.int .i64 aj)/\
 ∃ak,pX.cell? ((⟨r6,0,none⟩:Addr).add 2)=some (.string ak)/\
 R (.returned (.tuple #[.agg #[.int .i64 ag,.int .i64 aj,.string ak],.int .i64 0])) pX)) (
 dwE oz λx9=>
 ∃S1:World->Prop,S1 x9/\
 ∃sQ,(∀w',S1 w'->w'.cell? (⟨r5,0,none⟩:Addr)=some (.int .i64 sQ))/\
 ∃sZ,(∀w',S1 w'->w'.cell? ((⟨r3,0,none⟩:Addr).add 0)=some (.string sZ))/\
 ∃ta,(∀w',S1 w'->w'.cell? ((⟨r3,0,none⟩:Addr).add 1)=some (.int .i64 ta))/\
 ∃tc,(∀w',S1 w'->w'.cell? ((⟨r3,0,none⟩:Addr).add 2)=some (.int .i64 tc))/\
 ∃td,(∀w',S1 w'->w'.cell? ((⟨r3,0,none⟩:Addr).add 3)=some (.bool td))/\
 Calls prog 118 #[.agg #[.string sZ,.int .i64 ta,.int .i64 tc,.bool td]] x9 λe te=>
 ∃jo:Int,∃ya:Int,∃yb:ByteArray,e=.returned (.agg #[.int .i64 jo,.int .i64 ya,.string yb])/\
 S1 te/\
 Br (sQ != jo) (
 stA prog 73 (⟨r6,0,none⟩:Addr) #[.int .i64 0,.int .i64 0,.string (⟨#[]⟩:ByteArray)] te λwk=>
 zQb prog ds wk λoA=>
 ∃ag,oA.cell? ((⟨r6,0,none⟩:Addr).add 0)=some (.int .i64 ag)/\
 ∃aj,oA.cell? ((⟨r6,0,none⟩:Addr).add 1)=some (.int .i64 aj)/\
 ∃ak,oA.cell? ((⟨r6,0,none⟩:Addr).add 2)=some (.string ak)/\
 R (.returned (.tuple #[.agg #[.int .i64 ag,.int .i64 aj,.string ak],.int .i64 6])) oA) (
 ∃od,te.cell? ((⟨r3,0,none⟩:Addr).add 1)=some (.int .i64 od)/\
 F83_1 R n1 (some (⟨r3,0,none⟩:Addr)) (some (⟨r5,0,none⟩:Addr)) (some (⟨r6,0,none⟩:Addr)) od ds te)))))
theorem F83_p:Pl prog f83 [aS 0 [.str,.int .i64,.int .i64,.bool],iS 1,aS 2 [.int .i64,.int .i64,.str]] F83_2:=λR=>
 pc 11 (rest [iS 1,pS 3,pS 5,pS 6,iS 42] (F83_1 R) lf)
theorem xX8 (aW:ByteArray) (aI aX:Int) (aY:Bool) (n1 dk ei:Int) (eo:ByteArray) (w:World) (R:Rt) (h:F83_2 R aW aI aX aY n1 dk ei eo [] w):Calls prog 83 #[.agg #[.string aW,.int .i64 aI,.int .i64 aX,.bool aY],.int .i64 n1,.agg #[.int .i64 dk,.int .i64 ei,.string eo]] w R:=
 plC F83_p func83 h
def xWw(R:Rt)(aW:ByteArray)(aI aX:Int)(aY:Bool)(n1 dk ei:Int)(eo:ByteArray)(ds:Ds)(w:World):Prop:=
 alE (.cells #[.string aW,.int .i64 aI,.int .i64 aX,.bool aY] 129) w λr3 w1=>
 alE (.cells #[.int .i64 dk,.int .i64 ei,.string eo] 73) w1 λr5 w2=>
 alE (.cells #[.int .i64 0,.int .i64 0,.string (⟨#[]⟩:ByteArray)] 73) w2 λr6 w3=>
 ∃yc,w3.cell? ((⟨r3,0,none⟩:Addr).add 0)=some (.string yc)/\
 ∃dA,w3.cell? ((⟨r3,0,none⟩:Addr).add 1)=some (.int .i64 dA)/\
 ∃qC,w3.cell? ((⟨r3,0,none⟩:Addr).add 2)=some (.int .i64 qC)/\
 ∃yd,w3.cell? ((⟨r3,0,none⟩:Addr).add 3)=some (.bool yd)/\
 Calls prog 91 #[.agg #[.string yc,.int .i64 dA,.int .i64 qC,.bool yd]] w3 λe w4=>
 ∃dR:Bool,e=.returned (.bool dR)/\
 Br (!dR) (
 stA prog 73 (⟨r6,0,none⟩:Addr) #[.int .i64 0,.int .i64 0,.string (⟨#[]⟩:ByteArray)] w4 λw5=>
 zQb prog ds w5 λw6=>
 ∃ag,w6.cell? ((⟨r6,0,none⟩:Addr).add 0)=some (.int .i64 ag)/\
 ∃aj,w6.cell? ((⟨r6,0,none⟩:Addr).add 1)=some (.int .i64 aj)/\
 ∃ak,w6.cell? ((⟨r6,0,none⟩:Addr).add 2)=some (.string ak)/\
 R (.returned (.tuple #[.agg #[.int .i64 ag,.int .i64 aj,.string ak],.int .i64 1])) w6) (
 Calls prog 52 #[.int .i64 n1] w4 λe w7=>
 ∃iy:Bool,e=.returned (.bool iy)/\
 Br (!iy) (
 stA prog 73 (⟨r6,0,none⟩:Addr) #[.int .i64 0,.int .i64 0,.string (⟨#[]⟩:ByteArray)] w7 λw8=>
 zQb prog ds w8 λw9=>
 ∃ag,w9.cell? ((⟨r6,0,none⟩:Addr).add 0)=some (.int .i64 ag)/\
 ∃aj,w9.cell? ((⟨r6,0,none⟩:Addr).add 1)=some (.int .i64 aj)/\
 ∃ak,w9.cell? ((⟨r6,0,none⟩:Addr).add 2)=some (.string ak)/\
 R (.returned (.tuple #[.agg #[.int .i64 ag,.int .i64 aj,.string ak],.int .i64 1])) w9) (
 ∃eO,w7.cell? ((⟨r5,0,none⟩:Addr).add 0)=some (.int .i64 eO)/\
 ∃f7,w7.cell? ((⟨r5,0,none⟩:Addr).add 1)=some (.int .i64 f7)/\
 ∃tf,w7.cell? ((⟨r5,0,none⟩:Addr).add 2)=some (.string tf)/\
 Calls prog 132 #[.agg #[.int .i64 eO,.int .i64 f7,.string tf]] w7 λe aP=>
 ∃iR:Int,e=.returned (.int .i64 iR)/\
 Br (iR != 0) (
 stA prog 73 (⟨r6,0,none⟩:Addr) #[.int .i64 0,.int .i64 0,.string (⟨#[]⟩:ByteArray)] aP λaU=>
 zQb prog ds aU λaQ=>
 ∃ag,aQ.cell? ((⟨r6,0,none⟩:Addr).add 0)=some (.int .i64 ag)/\
 ∃aj,aQ.cell? ((⟨r6,0,none⟩:Addr).add 1)=some (.int .i64 aj)/\
 ∃ak,aQ.cell? ((⟨r6,0,none⟩:Addr).add 2)=some (.string ak)/\
 R (.returned (.tuple #[.agg #[.int .i64 ag,.int .i64 aj,.string ak],.int .i64 iR])) aQ) (
 ∃ni,aP.cell? ((⟨r3,0,none⟩:Addr).add 0)=some (.string ni)/\
 ∃jp,aP.cell? ((⟨r3,0,none⟩:Addr).add 1)=some (.int .i64 jp)/\
 ∃nj,aP.cell? ((⟨r3,0,none⟩:Addr).add 2)=some (.int .i64 nj)/\
 ∃nl,aP.cell? ((⟨r3,0,none⟩:Addr).add 3)=some (.bool nl)/\
 ∃eQ,aP.cell? ((⟨r5,0,none⟩:Addr).add 0)=some (.int .i64 eQ)/\
 ∃fp,aP.cell? ((⟨r5,0,none⟩:Addr).add 1)=some (.int .i64 fp)/\
 ∃tg,aP.cell? ((⟨r5,0,none⟩:Addr).add 2)=some (.string tg)/\
 Calls prog 139 #[.agg #[.string ni,.int .i64 jp,.int .i64 nj,.bool nl],.int .i64 n1,.agg #[.int .i64 eQ,.int .i64 fp,.string tg]] aP λe aJ=>
 ∃oY:Int,∃oZ:Int,∃o0:ByteArray,∃th:Int,e=.returned (.tuple #[.agg #[.int .i64 oY,.int .i64 oZ,.string o0],.int .i64 th])/\
 stA prog 73 (⟨r6,0,none⟩:Addr) #[.int .i64 oY,.int .i64 oZ,.string o0] aJ λbB=>
 zQb prog ds bB λbm=>
 ∃ag,bm.cell? ((⟨r6,0,none⟩:Addr).add 0)=some (.int .i64 ag)/\
 ∃aj,bm.cell? ((⟨r6,0,none⟩:Addr).add 1)=some (.int .i64 aj)/\
 ∃ak,bm.cell? ((⟨r6,0,none⟩:Addr).add 2)=some (.string ak)/\
 R (.returned (.tuple #[.agg #[.int .i64 ag,.int .i64 aj,.string ak],.int .i64 th])) bm)))
theorem F104_p:Pl prog f104 [aS 0 [.str,.int .i64,.int .i64,.bool],iS 1,aS 2 [.int .i64,.int .i64,.str]] xWw:=λR=>
 lf
theorem yV1 (aW:ByteArray) (aI aX:Int) (aY:Bool) (n1 dk ei:Int) (eo:ByteArray) (w:World) (R:Rt) (h:xWw R aW aI aX aY n1 dk ei eo [] w):Calls prog 104 #[.agg #[.string aW,.int .i64 aI,.int .i64 aX,.bool aY],.int .i64 n1,.agg #[.int .i64 dk,.int .i64 ei,.string eo]] w R:=
 plC F104_p func104 h
def xKg(R:Rt)(aW:ByteArray)(aI aX:Int)(aY:Bool)(n1 dk ei:Int)(eo:ByteArray)(ds:Ds)(w:World):Prop:=
 alE (.cells #[.string aW,.int .i64 aI,.int .i64 aX,.bool aY] 129) w λr3 w1=>
 alE (.cells #[.int .i64 dk,.int .i64 ei,.string eo] 73) w1 λr5 w2=>
 alE (.cells #[.int .i64 0,.int .i64 0,.string (⟨#[]⟩:ByteArray)] 73) w2 λr6 w3=>
 ∃dx,w3.cell? (⟨r5,0,none⟩:Addr)=some (.int .i64 dx)/\
 Br (dx == 0) (
 ∃iy,w3.cell? ((⟨r3,0,none⟩:Addr).add 3)=some (.bool iy)/\
 Br (!iy) (
 stA prog 73 (⟨r6,0,none⟩:Addr) #[.int .i64 0,.int .i64 0,.string (⟨#[]⟩:ByteArray)] w3 λw4=>
 zQb prog ds w4 λw5=>
 ∃ag,w5.cell? ((⟨r6,0,none⟩:Addr).add 0)=some (.int .i64 ag)/\
 ∃aj,w5.cell? ((⟨r6,0,none⟩:Addr).add 1)=some (.int .i64 aj)/\
 ∃ak,w5.cell? ((⟨r6,0,none⟩:Addr).add 2)=some (.string ak)/\
 R (.returned (.tuple #[.agg #[.int .i64 ag,.int .i64 aj,.string ak],.int .i64 7])) w5) (
 ∃gn,w3.cell? ((⟨r5,0,none⟩:Addr).add 0)=some (.int .i64 gn)/\
 ∃kO,w3.cell? ((⟨r5,0,none⟩:Addr).add 1)=some (.int .i64 kO)/\
 ∃tj,w3.cell? ((⟨r5,0,none⟩:Addr).add 2)=some (.string tj)/\
 stA prog 73 (⟨r6,0,none⟩:Addr) #[.int .i64 gn,.int .i64 kO,.string tj] w3 λw6=>
 zQb prog ds w6 λw7=>
 ∃ag,w7.cell? ((⟨r6,0,none⟩:Addr).add 0)=some (.int .i64 ag)/\
 ∃aj,w7.cell? ((⟨r6,0,none⟩:Addr).add 1)=some (.int .i64 aj)/\
 ∃ak,w7.cell? ((⟨r6,0,none⟩:Addr).add 2)=some (.string ak)/\
 R (.returned (.tuple #[.agg #[.int .i64 ag,.int .i64 aj,.string ak],.int .i64 0])) w7)) (
 ∃iR,w3.cell? ((⟨r3,0,none⟩:Addr).add 1)=some (.int .i64 iR)/\
 Br (iR == 5) (
 ∃iw,w3.cell? (⟨r5,0,none⟩:Addr)=some (.int .i64 iw)/\
 Br (iw != 2) (
 stA prog 73 (⟨r6,0,none⟩:Addr) #[.int .i64 0,.int .i64 0,.string (⟨#[]⟩:ByteArray)] w3 λw8=>
 zQb prog ds w8 λw9=>
 ∃ag,w9.cell? ((⟨r6,0,none⟩:Addr).add 0)=some (.int .i64 ag)/\
 ∃aj,w9.cell? ((⟨r6,0,none⟩:Addr).add 1)=some (.int .i64 aj)/\
 ∃ak,w9.cell? ((⟨r6,0,none⟩:Addr).add 2)=some (.string ak)/\
 R (.returned (.tuple #[.agg #[.int .i64 ag,.int .i64 aj,.string ak],.int .i64 6])) w9) (
 ∃mX,w3.cell? ((⟨r3,0,none⟩:Addr).add 1)=some (.int .i64 mX)/\
 Br (mX == 4) (
 ∃qD,w3.cell? ((⟨r5,0,none⟩:Addr).add 2)=some (.string qD)/\
 ∃tk,w3.cell? ((⟨r5,0,none⟩:Addr).add 2)=some (.string tk)/\
 ∃jP,w3.cell? ((⟨r3,0,none⟩:Addr).add 2)=some (.int .i64 jP)/\
 ∃io:Int,∃aP,(Builtin.min_ #[3,3] 3 #[.int .i64 (tk.size:Int),.int .i64 jP]).run prog w3=.ok (.int .i64 io) aP/\
 0<=io/\io.toNat<=qD.size/\0<=io.toNat/\
 Calls prog 135 #[.string (qD.extract 0 io.toNat)] aP λe aU=>
 ∃qE:ByteArray,e=.returned (.string qE)/\
 Calls prog 136 #[.string qE,.int .i64 n1] aU λe aQ=>
 ∃qw:Bool,e=.returned (.bool qw)/\
 Br (!qw) (
 stA prog 73 (⟨r6,0,none⟩:Addr) #[.int .i64 0,.int .i64 0,.string (⟨#[]⟩:ByteArray)] aQ λaJ=>
 zQb prog ds aJ λbB=>
 ∃ag,bB.cell? ((⟨r6,0,none⟩:Addr).add 0)=some (.int .i64 ag)/\
 ∃aj,bB.cell? ((⟨r6,0,none⟩:Addr).add 1)=some (.int .i64 aj)/\
 ∃ak,bB.cell? ((⟨r6,0,none⟩:Addr).add 2)=some (.string ak)/\
 R (.returned (.tuple #[.agg #[.int .i64 ag,.int .i64 aj,.string ak],.int .i64 10])) bB) (
 Calls prog 177 #[.string qE] aQ λe bm=>
 ∃ga:Int,∃gb:Int,∃gc:ByteArray,e=.returned (.agg #[.int .i64 ga,.int .i64 gb,.string gc])/\
 stA prog 73 (⟨r6,0,none⟩:Addr) #[.int .i64 ga,.int .i64 gb,.string gc] bm λbF=>
 zQb prog ds bF λbH=>
 ∃ag,bH.cell? ((⟨r6,0,none⟩:Addr).add 0)=some (.int .i64 ag)/\
 ∃aj,bH.cell? ((⟨r6,0,none⟩:Addr).add 1)=some (.int .i64 aj)/\
 ∃ak,bH.cell? ((⟨r6,0,none⟩:Addr).add 2)=some (.string ak)/\
 R (.returned (.tuple #[.agg #[.int .i64 ag,.int .i64 aj,.string ak],.int .i64 0])) bH)) (
 ∃jq,w3.cell? ((⟨r3,0,none⟩:Addr).add 0)=some (.string jq)/\
 ∃cu,w3.cell? ((⟨r3,0,none⟩:Addr).add 1)=some (.int .i64 cu)/\
 ∃gp,w3.cell? ((⟨r3,0,none⟩:Addr).add 2)=some (.int .i64 gp)/\
 ∃jr,w3.cell? ((⟨r3,0,none⟩:Addr).add 3)=some (.bool jr)/\
 ∃gq,w3.cell? ((⟨r5,0,none⟩:Addr).add 0)=some (.int .i64 gq)/\
 ∃js,w3.cell? ((⟨r5,0,none⟩:Addr).add 1)=some (.int .i64 js)/\
 ∃jt,w3.cell? ((⟨r5,0,none⟩:Addr).add 2)=some (.string jt)/\
 Calls prog 93 #[.agg #[.string jq,.int .i64 cu,.int .i64 gp,.bool jr],.int .i64 n1,.agg #[.int .i64 gq,.int .i64 js,.string jt]] w3 λe bU=>
 ∃tm:Bool,e=.returned (.bool tm)/\
 Br (!tm) (
 stA prog 73 (⟨r6,0,none⟩:Addr) #[.int .i64 0,.int .i64 0,.string (⟨#[]⟩:ByteArray)] bU λcM=>
 zQb prog ds cM λbT=>
 ∃ag,bT.cell? ((⟨r6,0,none⟩:Addr).add 0)=some (.int .i64 ag)/\
 ∃aj,bT.cell? ((⟨r6,0,none⟩:Addr).add 1)=some (.int .i64 aj)/\
 ∃ak,bT.cell? ((⟨r6,0,none⟩:Addr).add 2)=some (.string ak)/\
 R (.returned (.tuple #[.agg #[.int .i64 ag,.int .i64 aj,.string ak],.int .i64 10])) bT) (
 ∃gr,bU.cell? ((⟨r5,0,none⟩:Addr).add 0)=some (.int .i64 gr)/\
 ∃gt,bU.cell? ((⟨r5,0,none⟩:Addr).add 1)=some (.int .i64 gt)/\
 ∃ju,bU.cell? ((⟨r5,0,none⟩:Addr).add 2)=some (.string ju)/\
 stA prog 73 (⟨r6,0,none⟩:Addr) #[.int .i64 gr,.int .i64 gt,.string ju] bU λbX=>
 zQb prog ds bX λdf=>
 ∃ag,df.cell? ((⟨r6,0,none⟩:Addr).add 0)=some (.int .i64 ag)/\
 ∃aj,df.cell? ((⟨r6,0,none⟩:Addr).add 1)=some (.int .i64 aj)/\
 ∃ak,df.cell? ((⟨r6,0,none⟩:Addr).add 2)=some (.string ak)/\
 R (.returned (.tuple #[.agg #[.int .i64 ag,.int .i64 aj,.string ak],.int .i64 0])) df)))) (
 ∃iw,w3.cell? (⟨r5,0,none⟩:Addr)=some (.int .i64 iw)/\
 Br (iw != iR) (
 stA prog 73 (⟨r6,0,none⟩:Addr) #[.int .i64 0,.int .i64 0,.string (⟨#[]⟩:ByteArray)] w3 λdU=>
 zQb prog ds dU λdw=>
 ∃ag,dw.cell? ((⟨r6,0,none⟩:Addr).add 0)=some (.int .i64 ag)/\
 ∃aj,dw.cell? ((⟨r6,0,none⟩:Addr).add 1)=some (.int .i64 aj)/\
 ∃ak,dw.cell? ((⟨r6,0,none⟩:Addr).add 2)=some (.string ak)/\
 R (.returned (.tuple #[.agg #[.int .i64 ag,.int .i64 aj,.string ak],.int .i64 6])) dw) (
 ∃mX,w3.cell? ((⟨r3,0,none⟩:Addr).add 1)=some (.int .i64 mX)/\
 Br (mX == 4) (
 ∃qD,w3.cell? ((⟨r5,0,none⟩:Addr).add 2)=some (.string qD)/\
 ∃tk,w3.cell? ((⟨r5,0,none⟩:Addr).add 2)=some (.string tk)/\
 ∃jP,w3.cell? ((⟨r3,0,none⟩:Addr).add 2)=some (.int .i64 jP)/\
 ∃io:Int,∃dH,(Builtin.min_ #[3,3] 3 #[.int .i64 (tk.size:Int),.int .i64 jP]).run prog w3=.ok (.int .i64 io) dH/\
 0<=io/\io.toNat<=qD.size/\0<=io.toNat/\
 Calls prog 135 #[.string (qD.extract 0 io.toNat)] dH λe fj=>
 ∃qE:ByteArray,e=.returned (.string qE)/\
 Calls prog 136 #[.string qE,.int .i64 n1] fj λe iq=>
 ∃qw:Bool,e=.returned (.bool qw)/\
 Br (!qw) (
 stA prog 73 (⟨r6,0,none⟩:Addr) #[.int .i64 0,.int .i64 0,.string (⟨#[]⟩:ByteArray)] iq λeg=>
 zQb prog ds eg λfm=>
 ∃ag,fm.cell? ((⟨r6,0,none⟩:Addr).add 0)=some (.int .i64 ag)/\
 ∃aj,fm.cell? ((⟨r6,0,none⟩:Addr).add 1)=some (.int .i64 aj)/\
 ∃ak,fm.cell? ((⟨r6,0,none⟩:Addr).add 2)=some (.string ak)/\
 R (.returned (.tuple #[.agg #[.int .i64 ag,.int .i64 aj,.string ak],.int .i64 10])) fm) (
 Calls prog 177 #[.string qE] iq λe ir=>
 ∃ga:Int,∃gb:Int,∃gc:ByteArray,e=.returned (.agg #[.int .i64 ga,.int .i64 gb,.string gc])/\
 stA prog 73 (⟨r6,0,none⟩:Addr) #[.int .i64 ga,.int .i64 gb,.string gc] ir λgu=>
 zQb prog ds gu λgd=>
 ∃ag,gd.cell? ((⟨r6,0,none⟩:Addr).add 0)=some (.int .i64 ag)/\
 ∃aj,gd.cell? ((⟨r6,0,none⟩:Addr).add 1)=some (.int .i64 aj)/\
 ∃ak,gd.cell? ((⟨r6,0,none⟩:Addr).add 2)=some (.string ak)/\
 R (.returned (.tuple #[.agg #[.int .i64 ag,.int .i64 aj,.string ak],.int .i64 0])) gd)) (
 ∃jq,w3.cell? ((⟨r3,0,none⟩:Addr).add 0)=some (.string jq)/\
 ∃cu,w3.cell? ((⟨r3,0,none⟩:Addr).add 1)=some (.int .i64 cu)/\
 ∃gp,w3.cell? ((⟨r3,0,none⟩:Addr).add 2)=some (.int .i64 gp)/\
 ∃jr,w3.cell? ((⟨r3,0,none⟩:Addr).add 3)=some (.bool jr)/\
 ∃gq,w3.cell? ((⟨r5,0,none⟩:Addr).add 0)=some (.int .i64 gq)/\
 ∃js,w3.cell? ((⟨r5,0,none⟩:Addr).add 1)=some (.int .i64 js)/\
 ∃jt,w3.cell? ((⟨r5,0,none⟩:Addr).add 2)=some (.string jt)/\
 Calls prog 93 #[.agg #[.string jq,.int .i64 cu,.int .i64 gp,.bool jr],.int .i64 n1,.agg #[.int .i64 gq,.int .i64 js,.string jt]] w3 λe fU=>
 ∃tm:Bool,e=.returned (.bool tm)/\
 Br (!tm) (
 stA prog 73 (⟨r6,0,none⟩:Addr) #[.int .i64 0,.int .i64 0,.string (⟨#[]⟩:ByteArray)] fU λfV=>
 zQb prog ds fV λiT=>
 ∃ag,iT.cell? ((⟨r6,0,none⟩:Addr).add 0)=some (.int .i64 ag)/\
 ∃aj,iT.cell? ((⟨r6,0,none⟩:Addr).add 1)=some (.int .i64 aj)/\
 ∃ak,iT.cell? ((⟨r6,0,none⟩:Addr).add 2)=some (.string ak)/\
 R (.returned (.tuple #[.agg #[.int .i64 ag,.int .i64 aj,.string ak],.int .i64 10])) iT) (
 ∃gr,fU.cell? ((⟨r5,0,none⟩:Addr).add 0)=some (.int .i64 gr)/\
 ∃gt,fU.cell? ((⟨r5,0,none⟩:Addr).add 1)=some (.int .i64 gt)/\
 ∃ju,fU.cell? ((⟨r5,0,none⟩:Addr).add 2)=some (.string ju)/\
 stA prog 73 (⟨r6,0,none⟩:Addr) #[.int .i64 gr,.int .i64 gt,.string ju] fU λpY=>
 zQb prog ds pY λnn=>
 ∃ag,nn.cell? ((⟨r6,0,none⟩:Addr).add 0)=some (.int .i64 ag)/\
 ∃aj,nn.cell? ((⟨r6,0,none⟩:Addr).add 1)=some (.int .i64 aj)/\
 ∃ak,nn.cell? ((⟨r6,0,none⟩:Addr).add 2)=some (.string ak)/\
 R (.returned (.tuple #[.agg #[.int .i64 ag,.int .i64 aj,.string ak],.int .i64 0])) nn)))))
theorem F139_p:Pl prog f139 [aS 0 [.str,.int .i64,.int .i64,.bool],iS 1,aS 2 [.int .i64,.int .i64,.str]] xKg:=λR=>
 lf
theorem yVd (aW:ByteArray) (aI aX:Int) (aY:Bool) (n1 dk ei:Int) (eo:ByteArray) (w:World) (R:Rt) (h:xKg R aW aI aX aY n1 dk ei eo [] w):Calls prog 139 #[.agg #[.string aW,.int .i64 aI,.int .i64 aX,.bool aY],.int .i64 n1,.agg #[.int .i64 dk,.int .i64 ei,.string eo]] w R:=
 plC F139_p func139 h
def F93_1(R:Rt)(aW:ByteArray)(aI aX:Int)(aY:Bool)(n1 dk ei:Int)(eo:ByteArray)(ds:Ds)(w:World):Prop:=
 alE (.cells #[.string aW,.int .i64 aI,.int .i64 aX,.bool aY] 129) w λr3 w1=>
 alE (.cells #[.int .i64 dk,.int .i64 ei,.string eo] 73) w1 λr5 w2=>
 ∃dG,w2.cell? ((⟨r5,0,none⟩:Addr).add 0)=some (.int .i64 dG)/\
 ∃dg,w2.cell? ((⟨r5,0,none⟩:Addr).add 1)=some (.int .i64 dg)/\
 ∃qu,w2.cell? ((⟨r5,0,none⟩:Addr).add 2)=some (.string qu)/\
 Calls prog 132 #[.agg #[.int .i64 dG,.int .i64 dg,.string qu]] w2 λe w3=>
 ∃n8:Int,e=.returned (.int .i64 n8)/\
 Br (n8 != 0) (
 zQb prog ds w3 λw4=>
 R (.returned (.bool false)) w4) (
 ∃dz,w3.cell? (⟨r5,0,none⟩:Addr)=some (.int .i64 dz)/\
 Br (dz == 0) (
 ∃iN,w3.cell? ((⟨r3,0,none⟩:Addr).add 3)=some (.bool iN)/\
 zQb prog ds w3 λw5=>
 R (.returned (.bool iN)) w5) (
 ∃iC,w3.cell? ((⟨r3,0,none⟩:Addr).add 1)=some (.int .i64 iC)/\
 Br (iC == 5) (
 ∃jO,w3.cell? (⟨r5,0,none⟩:Addr)=some (.int .i64 jO)/\
 Br (jO == 2) (
 ∃cw,w3.cell? ((⟨r5,0,none⟩:Addr).add 1)=some (.int .i64 cw)/\
 Calls prog 133 #[.int .i64 cw] w3 λe w6=>
 ∃pZ:Bool,e=.returned (.bool pZ)/\
 zQb prog ds w6 λw7=>
 R (.returned (.bool pZ)) w7) (
 zQb prog ds w3 λw8=>
 R (.returned (.bool false)) w8)) (
 ∃qF,w3.cell? (⟨r5,0,none⟩:Addr)=some (.int .i64 qF)/\
 ∃o1,w3.cell? ((⟨r3,0,none⟩:Addr).add 1)=some (.int .i64 o1)/\
 Br (qF != o1) (
 zQb prog ds w3 λw9=>
 R (.returned (.bool false)) w9) (
 ∃jP,w3.cell? ((⟨r3,0,none⟩:Addr).add 1)=some (.int .i64 jP)/\
 Br (jP == 2) (
 dwE w3 λaP=>
 ∃S1:World->Prop,S1 aP/\
 ∃eZ,(∀w',S1 w'->w'.cell? ((⟨r5,0,none⟩:Addr).add 1)=some (.int .i64 eZ))/\
 ∃eF,(∀w',S1 w'->w'.cell? ((⟨r3,0,none⟩:Addr).add 2)=some (.int .i64 eF))/\
 Calls prog 134 #[.int .i64 eZ] aP λe aU=>
 ∃s40:ByteArray,e=.returned (.string s40)/\
 S1 aU/\
 zQb prog ds aU λaQ=>
 R (.returned (.bool (decide ((s40.size:Int)<=eF)))) aQ) (
 ∃n47,w3.cell? ((⟨r3,0,none⟩:Addr).add 1)=some (.int .i64 n47)/\
 Br (n47 == 4) (
 dwE w3 λaJ=>
 ∃S2:World->Prop,S2 aJ/\
 ∃s50,(∀w',S2 w'->w'.cell? ((⟨r5,0,none⟩:Addr).add 2)=some (.string s50))/\
 ∃kP,(∀w',S2 w'->w'.cell? ((⟨r3,0,none⟩:Addr).add 2)=some (.int .i64 kP))/\
 Br (decide ((s50.size:Int)<=kP)) (
 ∃xU,(∀w',S2 w'->w'.cell? ((⟨r5,0,none⟩:Addr).add 2)=some (.string xU))/\
 ∃s60,(∀w',S2 w'->w'.cell? ((⟨r5,0,none⟩:Addr).add 2)=some (.string s60))/\
 Calls prog 135 #[.string xU] aJ λe bB=>
 ∃s58:ByteArray,e=.returned (.string s58)/\
 S2 bB/\
 Br (s58.toList == s60.toList) (
 ∃s65,(∀w',S2 w'->w'.cell? ((⟨r5,0,none⟩:Addr).add 2)=some (.string s65))/\
 Calls prog 136 #[.string s65,.int .i64 n1] bB λe bm=>
 ∃tn:Bool,e=.returned (.bool tn)/\
 zQb prog ds bm λbF=>
 R (.returned (.bool tn)) bF) (
 zQb prog ds bB λbH=>
 R (.returned (.bool false)) bH)) (
 zQb prog ds aJ λbU=>
 R (.returned (.bool false)) bU)) (
 zQb prog ds w3 λcM=>
 R (.returned (.bool true)) cM))))))
theorem F93_p:Pl prog f93 [aS 0 [.str,.int .i64,.int .i64,.bool],iS 1,aS 2 [.int .i64,.int .i64,.str]] F93_1:=λR=>
 lf
theorem xXO (aW:ByteArray) (aI aX:Int) (aY:Bool) (n1 dk ei:Int) (eo:ByteArray) (w:World) (R:Rt) (h:F93_1 R aW aI aX aY n1 dk ei eo [] w):Calls prog 93 #[.agg #[.string aW,.int .i64 aI,.int .i64 aX,.bool aY],.int .i64 n1,.agg #[.int .i64 dk,.int .i64 ei,.string eo]] w R:=
 plC F93_p func93 h
def xK3(R:Rt)(n0:Int)(ds:Ds)(w:World):Prop:=
 Br (decide (n0 >= 0)) (
 zQb prog ds w λw1=>
 R (.returned (.bool (decide (n0<=99999999)))) w1) (
 zQb prog ds w λw2=>
 R (.returned (.bool false)) w2)
theorem F133_p:Pl prog f133 [iS 0] xK3:=λR=>
 lf
theorem yVk (n0:Int) (w:World) (R:Rt) (h:xK3 R n0 [] w):Calls prog 133 #[.int .i64 n0] w R:=
 plC F133_p func133 h
end Go.Proofs.YtaeecpjhfmcliaaGreatDoor
/- Shallow texts of functions, printed by program, each checked by the kernel against the loaded code. No condition. -/
namespace Go.Proofs.YtaeecpjhfmcliaaGreatDoor
open Go.Sh Tryz
def xJ2(R:Rt)(l0:SV)(ds:Ds)(w:World):Prop:=
 Br (decide ((l0.len:Int) > 16)) (
 zQb prog ds w λw1=>
 R (.returned (.int .i64 3)) w1) (
 Calls prog 161 #[l0.v] w λe w2=>
 ∃qx:Int,e=.returned (.int .i64 qx)/\
 Br (decide (qx > 2000)) (
 zQb prog ds w2 λw3=>
 R (.returned (.int .i64 3)) w3) (
 zQb prog ds w2 λw4=>
 R (.returned (.int .i64 0)) w4))
def xWc (R:Rt) (J1:(Int)->World->Prop) (l0:SV) (m3:Option Nat) (bV:SV) (kB n16:Int) (ds:Ds) (w:World):Prop:=
 Br (decide (n16<kB)) (
 ∃a5,bV.a=some a5/\0<=n16/\n16<(bV.len:Int)/\
 ∃jv,w.cell? ((a5.add (n16.toNat * 4)).add 0)=some (.string jv)/\
 ∃co,w.cell? ((a5.add (n16.toNat * 4)).add 1)=some (.int .i64 co)/\
 ∃jw,w.cell? ((a5.add (n16.toNat * 4)).add 2)=some (.int .i64 jw)/\
 ∃jx,w.cell? ((a5.add (n16.toNat * 4)).add 3)=some (.bool jx)/\
 alE (.cells #[.string (⟨#[]⟩:ByteArray),.int .i64 0,.int .i64 0,.bool false] 129) w λr5 w6=>
 stA prog 129 (⟨r5,0,none⟩:Addr) #[.string jv,.int .i64 co,.int .i64 jw,.bool jx] w6 λw7=>
 ∃xk,w7.cell? (⟨r5,0,none⟩:Addr)=some (.string xk)/\
 ∃pI:Bool,∃w8,(Instr.lookup 206 (.map m3) (.string xk) false).run prog w7=.ok (.bool pI) w8/\
 Br pI (
 zQb prog ds w8 λw9=>
 R (.returned (.int .i64 5)) w9) (
 ∃s26,w8.cell? (⟨r5,0,none⟩:Addr)=some (.string s26)/\
 doE prog (Instr.mapUpdate 206 (.map m3) (.string s26) (.bool true)) w8 λaP=>
 J1 (IntKind.i64.wrap (n16+1)) aP)) (
 xJ2 R l0 ds w)
def xWN(R:Rt)(l0:SV)(m3:Option Nat)(bV:SV)(kB n16:Int)(ds:Ds)(w:World):Prop:=
 zQA (λ(J1:(Int)->World->Prop) (s:Int) (w:World)=>xWc R J1 l0 m3 bV kB s ds w) n16 w
def xVl(R:Rt)(l0:SV)(ds:Ds)(w:World):Prop:=
 Br ((l0.len:Int) == 0) (
 zQb prog ds w λaU=>
 R (.returned (.int .i64 1)) aU) (
 Calls prog 178 #[l0.v,.func (.func 179) #[] #[]] w λe aQ=>
 ∃pJ:Bool,e=.returned (.bool pJ)/\
 Br pJ (
 zQb prog ds aQ λaJ=>
 R (.returned (.int .i64 1)) aJ) (
 alE (.map #[] 0) aQ λqa bB=>
 xWN R l0 (some qa) l0 (l0.len:Int) 0 ds bB))
theorem F141_p:Pl prog f141 [lS 0] xVl:=λR=>
 pc 5 (rest [lS 0,mS 3,lS 14,iS 15,iS 16] (xWN R) (bk 0 (rest [lS 0] (xJ2 R) lf) (lp [iS 16] [lS 0,mS 3,lS 14,iS 15,iS 16] (xWc R) zXI λJ1=>lf)))
theorem yV0 (l0:SV) (w:World) (R:Rt) (h:xVl R l0 [] w):Calls prog 141 #[l0.v] w R:=
 plC F141_p func141 h
def xWR(R:Rt)(l0:SV)(v1:Value)(ds:Ds)(w:World):Prop:=
 Calls prog 113 #[l0.v,v1] w λe w1=>
 ∃n7:Int,e=.returned (.int .i64 n7)/\
 zQb prog ds w1 λw2=>
 R (.returned (.bool (decide (n7 >= 0)))) w2
theorem F178_p:Pl prog f178 [lS 0,vS 1] xWR:=λR=>
 lf
theorem yWa (l0:SV) (v1:Value) (w:World) (R:Rt) (h:xWR R l0 v1 [] w):Calls prog 178 #[l0.v,v1] w R:=
 plC F178_p func178 h
def xVc(R:Rt)(aW:ByteArray)(aI aX:Int)(aY:Bool)(ds:Ds)(w:World):Prop:=
 alE (.cells #[.string aW,.int .i64 aI,.int .i64 aX,.bool aY] 129) w λr1 w1=>
 ∃ye,w1.cell? ((⟨r1,0,none⟩:Addr).add 0)=some (.string ye)/\
 ∃gv,w1.cell? ((⟨r1,0,none⟩:Addr).add 1)=some (.int .i64 gv)/\
 ∃oB,w1.cell? ((⟨r1,0,none⟩:Addr).add 2)=some (.int .i64 oB)/\
 ∃yf,w1.cell? ((⟨r1,0,none⟩:Addr).add 3)=some (.bool yf)/\
 Calls prog 115 #[.agg #[.string ye,.int .i64 gv,.int .i64 oB,.bool yf]] w1 λe w2=>
 ∃b4:Bool,e=.returned (.bool b4)/\
 zQb prog ds w2 λw3=>
 R (.returned (.bool (!b4))) w3
theorem F179_p:Pl prog f179 [aS 0 [.str,.int .i64,.int .i64,.bool]] xVc:=λR=>
 lf
theorem yVu (aW:ByteArray) (aI aX:Int) (aY:Bool) (w:World) (R:Rt) (h:xVc R aW aI aX aY [] w):Calls prog 179 #[.agg #[.string aW,.int .i64 aI,.int .i64 aX,.bool aY]] w R:=
 plC F179_p func179 h
def xJM(R:Rt)(n3:Int)(ds:Ds)(w:World):Prop:=
 zQb prog ds w λw1=>
 R (.returned (.int .i64 n3)) w1
def xKC (R:Rt) (J1:(Int × Int)->World->Prop) (n3:Int) (l9:SV) (iU dx:Int) (ds:Ds) (w:World):Prop:=
 Br (decide (dx<iU)) (
 ∃a2,l9.a=some a2/\0<=dx/\dx<(l9.len:Int)/\
 ∃tp,w.cell? ((a2.add (dx.toNat * 4)).add 0)=some (.string tp)/\
 ∃tq,w.cell? ((a2.add (dx.toNat * 4)).add 1)=some (.int .i64 tq)/\
 ∃tr,w.cell? ((a2.add (dx.toNat * 4)).add 2)=some (.int .i64 tr)/\
 ∃tt,w.cell? ((a2.add (dx.toNat * 4)).add 3)=some (.bool tt)/\
 alE (.cells #[.string (⟨#[]⟩:ByteArray),.int .i64 0,.int .i64 0,.bool false] 129) w λr5 w3=>
 stA prog 129 (⟨r5,0,none⟩:Addr) #[.string tp,.int .i64 tq,.int .i64 tr,.bool tt] w3 λw4=>
 ∃mW,w4.cell? ((⟨r5,0,none⟩:Addr).add 2)=some (.int .i64 mW)/\
 J1 ((IntKind.i64.wrap (n3+mW)),(IntKind.i64.wrap (dx+1))) w4) (
 xJM R n3 ds w)
def xWp(R:Rt)(n3:Int)(l9:SV)(iU dx:Int)(ds:Ds)(w:World):Prop:=
 zQA (λ(J1:(Int × Int)->World->Prop) (s:Int × Int) (w:World)=>xKC R J1 s.1 l9 iU s.2 ds w) (n3,dx) w
def xKJ(R:Rt)(l0:SV)(ds:Ds)(w:World):Prop:=
 Calls prog 203 #[l0.v] w λe w5=>
 ∃n7:Int,e=.returned (.int .i64 n7)/\
 xWp R (IntKind.i64.wrap ((1:Int)+n7)) l0 (l0.len:Int) 0 ds w5
theorem F161_p:Pl prog f161 [lS 0] xKJ:=λR=>
 pc 3 (rest [iS 3,lS 9,iS 10,iS 11] (xWp R) (bk 0 (rest [iS 3] (xJM R) lf) (lp [iS 3,iS 11] [iS 3,lS 9,iS 10,iS 11] (xKC R) zXI λJ1=>lf)))
theorem yW2 (l0:SV) (w:World) (R:Rt) (h:xKJ R l0 [] w):Calls prog 161 #[l0.v] w R:=
 plC F161_p func161 h
def xVw(R:Rt)(n3:Int)(ds:Ds)(w:World):Prop:=
 IntKind.i64=IntKind.i64/\(8:Int) ≠ 0/\
 zQb prog ds w λw1=>
 R (.returned (.int .i64 (IntKind.i64.wrap ((IntKind.i64.wrap (n3+7)).tdiv 8)))) w1
def xWA (R:Rt) (J1:(Int × Int)->World->Prop) (n3:Int) (l6:SV) (n7 n8:Int) (ds:Ds) (w:World):Prop:=
 Br (decide (n8<n7)) (
 ∃a2,l6.a=some a2/\0<=n8/\n8<(l6.len:Int)/\
 ∃jl,w.cell? ((a2.add (n8.toNat * 4)).add 0)=some (.string jl)/\
 ∃d7,w.cell? ((a2.add (n8.toNat * 4)).add 1)=some (.int .i64 d7)/\
 ∃jm,w.cell? ((a2.add (n8.toNat * 4)).add 2)=some (.int .i64 jm)/\
 ∃jn,w.cell? ((a2.add (n8.toNat * 4)).add 3)=some (.bool jn)/\
 alE (.cells #[.string (⟨#[]⟩:ByteArray),.int .i64 0,.int .i64 0,.bool false] 129) w λr5 w3=>
 stA prog 129 (⟨r5,0,none⟩:Addr) #[.string jl,.int .i64 d7,.int .i64 jm,.bool jn] w3 λw4=>
 ∃kv,w4.cell? ((⟨r5,0,none⟩:Addr).add 3)=some (.bool kv)/\
 Br kv (
 J1 ((IntKind.i64.wrap (n3+1)),(IntKind.i64.wrap (n8+1))) w4) (
 J1 (n3,(IntKind.i64.wrap (n8+1))) w4)) (
 xVw R n3 ds w)
def xJP(R:Rt)(n3:Int)(l6:SV)(n7 n8:Int)(ds:Ds)(w:World):Prop:=
 zQA (λ(J1:(Int × Int)->World->Prop) (s:Int × Int) (w:World)=>xWA R J1 s.1 l6 n7 s.2 ds w) (n3,n8) w
def xWa(R:Rt)(l0:SV)(ds:Ds)(w:World):Prop:=
 xJP R 0 l0 (l0.len:Int) 0 ds w
theorem F203_p:Pl prog f203 [lS 0] xWa:=λR=>
 pc 3 (rest [iS 3,lS 6,iS 7,iS 8] (xJP R) (bk 0 (rest [iS 3] (xVw R) lf) (lp [iS 3,iS 8] [iS 3,lS 6,iS 7,iS 8] (xWA R) zXI λJ1=>lf)))
theorem yWt (l0:SV) (w:World) (R:Rt) (h:xWa R l0 [] w):Calls prog 203 #[l0.v] w R:=
 plC F203_p func203 h
def F53_1(R:Rt)(l0:SV)(ds:Ds)(w:World):Prop:=
 Br (decide ((l0.len:Int) > 16)) (
 zQb prog ds w λw1=>
 R (.returned (.int .i64 3)) w1) (
 Calls prog 92 #[l0.v] w λe w2=>
 ∃dm:Int,e=.returned (.int .i64 dm)/\
 Br (decide (dm > 2000)) (
 zQb prog ds w2 λw3=>
 R (.returned (.int .i64 3)) w3) (
 zQb prog ds w2 λw4=>
 R (.returned (.int .i64 0)) w4))
def F53_2 (R:Rt) (J1:(Int)->World->Prop) (l0:SV) (n4:Int) (ds:Ds) (w:World):Prop:=
 J1 (IntKind.i64.wrap (n4+1)) w
def F53_3 (R:Rt) (J1:(Int)->World->Prop) (J2:(Int)->World->Prop) (l0:SV) (n4 n5:Int) (ds:Ds) (w:World):Prop:=
 Br (decide (n5<n4)) (
 dwE w λw5=>
 ∃a6,l0.a=some a6/\0<=n4/\n4<(l0.len:Int)/\
 ∃s36,w5.cell? (a6.add (n4.toNat * 4))=some (.string s36)/\
 ∃a7,l0.a=some a7/\0<=n5/\n5<(l0.len:Int)/\
 ∃s41,w5.cell? (a7.add (n5.toNat * 4))=some (.string s41)/\
 Br (s36.toList == s41.toList) (
 zQb prog ds w5 λw8=>
 R (.returned (.int .i64 5)) w8) (
 J2 (IntKind.i64.wrap (n5+1)) w5)) (
 F53_2 R J1 l0 n4 ds w)
def F53_4 (R:Rt) (J1:(Int)->World->Prop) (l0:SV) (n4 n5:Int) (ds:Ds) (w:World):Prop:=
 zQA (λ(J2:(Int)->World->Prop) (s:Int) (w:World)=>F53_3 R J1 J2 l0 n4 s ds w) n5 w
def F53_6 (R:Rt) (J1:(Int)->World->Prop) (l0:SV) (n4:Int) (ds:Ds) (w:World):Prop:=
 F53_4 R J1 l0 n4 0 ds w
def F53_8 (R:Rt) (J1:(Int)->World->Prop) (l0:SV) (n4:Int) (ds:Ds) (w:World):Prop:=
 Br (decide (n4<(l0.len:Int))) (
 F53_6 R J1 l0 n4 ds w) (
 F53_1 R l0 ds w)
def F53_9(R:Rt)(l0:SV)(n4:Int)(ds:Ds)(w:World):Prop:=
 zQA (λ(J1:(Int)->World->Prop) (s:Int) (w:World)=>F53_8 R J1 l0 s ds w) n4 w
def xJA(R:Rt)(l0:SV)(ds:Ds)(w:World):Prop:=
 F53_9 R l0 0 ds w
def xJD (R:Rt) (J1:(Int)->World->Prop) (l0:SV) (n3:Int) (ds:Ds) (w:World):Prop:=
 Br (decide (n3<(l0.len:Int))) (
 ∃a9,l0.a=some a9/\0<=n3/\n3<(l0.len:Int)/\
 ∃tu,w.cell? ((a9.add (n3.toNat * 4)).add 0)=some (.string tu)/\
 ∃f7,w.cell? ((a9.add (n3.toNat * 4)).add 1)=some (.int .i64 f7)/\
 ∃tv,w.cell? ((a9.add (n3.toNat * 4)).add 2)=some (.int .i64 tv)/\
 ∃tw,w.cell? ((a9.add (n3.toNat * 4)).add 3)=some (.bool tw)/\
 Calls prog 91 #[.agg #[.string tu,.int .i64 f7,.int .i64 tv,.bool tw]] w λe aP=>
 ∃b19:Bool,e=.returned (.bool b19)/\
 Br (!b19) (
 zQb prog ds aP λaU=>
 R (.returned (.int .i64 1)) aU) (
 J1 (IntKind.i64.wrap (n3+1)) aP)) (
 xJA R l0 ds w)
def xVI(R:Rt)(l0:SV)(n3:Int)(ds:Ds)(w:World):Prop:=
 zQA (λ(J1:(Int)->World->Prop) (s:Int) (w:World)=>xJD R J1 l0 s ds w) n3 w
def xWL(R:Rt)(l0:SV)(ds:Ds)(w:World):Prop:=
 Br ((l0.len:Int) == 0) (
 zQb prog ds w λaQ=>
 R (.returned (.int .i64 1)) aQ) (
 xVI R l0 0 ds w)
theorem F53_p:Pl prog f53 [lS 0] xWL:=λR=>
 pc 4 (rest [lS 0,iS 3] (xVI R) (bk 0 (rest [lS 0] (xJA R) (pc 1 (rest [lS 0,iS 4] (F53_9 R) (bk 2 (rest [lS 0] (F53_1 R) lf) (lp [iS 4] [lS 0,iS 4] (F53_8 R) zXI λJ1=>pc 2 (rest [lS 0,iS 4] (F53_6 R J1) (bk 3 (rest [lS 0,iS 4] (F53_2 R J1) lf) (pc 1 (rest [lS 0,iS 4,iS 5] (F53_4 R J1) (bk 4 zXI (lp [iS 5] [lS 0,iS 4,iS 5] (F53_3 R J1) zXI λJ2=>lf))))))))))) (lp [iS 3] [lS 0,iS 3] (xJD R) zXI λJ1=>lf)))
theorem xQI (l0:SV) (w:World) (R:Rt) (h:xWL R l0 [] w):Calls prog 53 #[l0.v] w R:=
 plC F53_p func53 h
def F92_1(R:Rt)(n3:Int)(ds:Ds)(w:World):Prop:=
 zQb prog ds w λw1=>
 R (.returned (.int .i64 n3)) w1
def F92_2 (R:Rt) (J1:(Int × Int)->World->Prop) (l0:SV) (n3 n4:Int) (ds:Ds) (w:World):Prop:=
 Br (decide (n4<(l0.len:Int))) (
 ∃a2,l0.a=some a2/\0<=n4/\n4<(l0.len:Int)/\
 ∃iR,w.cell? ((a2.add (n4.toNat * 4)).add 2)=some (.int .i64 iR)/\
 J1 ((IntKind.i64.wrap (n3+iR)),(IntKind.i64.wrap (n4+1))) w) (
 F92_1 R n3 ds w)
def F92_3(R:Rt)(l0:SV)(n3 n4:Int)(ds:Ds)(w:World):Prop:=
 zQA (λ(J1:(Int × Int)->World->Prop) (s:Int × Int) (w:World)=>F92_2 R J1 l0 s.1 s.2 ds w) (n3,n4) w
def F92_5(R:Rt)(l0:SV)(ds:Ds)(w:World):Prop:=
 Calls prog 131 #[l0.v] w λe w3=>
 ∃n6:Int,e=.returned (.int .i64 n6)/\
 F92_3 R l0 (IntKind.i64.wrap ((1:Int)+n6)) 0 ds w3
theorem F92_p:Pl prog f92 [lS 0] F92_5:=λR=>
 pc 3 (rest [lS 0,iS 3,iS 4] (F92_3 R) (bk 0 (rest [iS 3] (F92_1 R) lf) (lp [iS 3,iS 4] [lS 0,iS 3,iS 4] (F92_2 R) zXI λJ1=>lf)))
theorem xXZ (l0:SV) (w:World) (R:Rt) (h:F92_5 R l0 [] w):Calls prog 92 #[l0.v] w R:=
 plC F92_p func92 h
def xWe(R:Rt)(n3:Int)(ds:Ds)(w:World):Prop:=
 IntKind.i64=IntKind.i64/\(8:Int) ≠ 0/\
 zQb prog ds w λw1=>
 R (.returned (.int .i64 (IntKind.i64.wrap ((IntKind.i64.wrap (n3+7)).tdiv 8)))) w1
def xJV (R:Rt) (J1:(Int × Int)->World->Prop) (l0:SV) (n3 n4:Int) (ds:Ds) (w:World):Prop:=
 Br (decide (n4<(l0.len:Int))) (
 ∃a2,l0.a=some a2/\0<=n4/\n4<(l0.len:Int)/\
 ∃iN,w.cell? ((a2.add (n4.toNat * 4)).add 3)=some (.bool iN)/\
 Br iN (
 J1 ((IntKind.i64.wrap (n3+1)),(IntKind.i64.wrap (n4+1))) w) (
 J1 (n3,(IntKind.i64.wrap (n4+1))) w)) (
 xWe R n3 ds w)
def xWJ(R:Rt)(l0:SV)(n3 n4:Int)(ds:Ds)(w:World):Prop:=
 zQA (λ(J1:(Int × Int)->World->Prop) (s:Int × Int) (w:World)=>xJV R J1 l0 s.1 s.2 ds w) (n3,n4) w
def xKD(R:Rt)(l0:SV)(ds:Ds)(w:World):Prop:=
 xWJ R l0 0 0 ds w
theorem F131_p:Pl prog f131 [lS 0] xKD:=λR=>
 pc 3 (rest [lS 0,iS 3,iS 4] (xWJ R) (bk 0 (rest [iS 3] (xWe R) lf) (lp [iS 3,iS 4] [lS 0,iS 3,iS 4] (xJV R) zXI λJ1=>lf)))
theorem yK9 (l0:SV) (w:World) (R:Rt) (h:xKD R l0 [] w):Calls prog 131 #[l0.v] w R:=
 plC F131_p func131 h
end Go.Proofs.YtaeecpjhfmcliaaGreatDoor
/- Shallow texts of functions, printed by program, each checked by the kernel against the loaded code. No condition. -/
namespace Go.Proofs.YtaeecpjhfmcliaaGreatDoor
open Go.Sh Tryz
def xVP(R:Rt)(ds:Ds)(w:World):Prop:=
 zQb prog ds w λw1=>
 R (.returned (.int .i64 (-1))) w1
def xKG (R:Rt) (J1:(Int)->World->Prop) (l0:SV) (v1:Value) (n7 n8:Int) (ds:Ds) (w:World):Prop:=
 Br (decide (n8<n7)) (
 ∃a2,l0.a=some a2/\0<=n8/\n8<(l0.len:Int)/\
 ∃tx,w.cell? ((a2.add (n8.toNat * 4)).add 0)=some (.string tx)/\
 ∃gw,w.cell? ((a2.add (n8.toNat * 4)).add 1)=some (.int .i64 gw)/\
 ∃tz,w.cell? ((a2.add (n8.toNat * 4)).add 2)=some (.int .i64 tz)/\
 ∃tA,w.cell? ((a2.add (n8.toNat * 4)).add 3)=some (.bool tA)/\
 fnE v1 λf16 first16 yg=>
 zQ5 prog f16=true/\Calls prog f16 (first16.toList ++ (([.agg #[.string tx,.int .i64 gw,.int .i64 tz,.bool tA]]:List Value) ++ yg.toList)).toArray w λe w3=>
 ∃iQ:Bool,e=.returned (.bool iQ)/\
 Br iQ (
 zQb prog ds w3 λw4=>
 R (.returned (.int .i64 n8)) w4) (
 J1 (IntKind.i64.wrap (n8+1)) w3)) (
 xVP R ds w)
def xVL(R:Rt)(l0:SV)(v1:Value)(n7 n8:Int)(ds:Ds)(w:World):Prop:=
 zQA (λ(J1:(Int)->World->Prop) (s:Int) (w:World)=>xKG R J1 l0 v1 n7 s ds w) n8 w
def xWO(R:Rt)(l0:SV)(v1:Value)(ds:Ds)(w:World):Prop:=
 xVL R l0 (v1) (l0.len:Int) 0 ds w
theorem F113_p:Pl prog f113 [lS 0,vS 1] xWO:=λR=>
 pc 2 (rest [lS 0,vS 1,iS 7,iS 8] (xVL R) (bk 0 (rest [] (xVP R) lf) (lp [iS 8] [lS 0,vS 1,iS 7,iS 8] (xKG R) zXI λJ1=>lf)))
theorem yKJ (l0:SV) (v1:Value) (w:World) (R:Rt) (h:xWO R l0 v1 [] w):Calls prog 113 #[l0.v,v1] w R:=
 plC F113_p func113 h
def xKe(R:Rt)(aW:ByteArray)(aI aX:Int)(aY:Bool)(v1:Value)(ds:Ds)(w:World):Prop:=
 alE (.cells #[.string aW,.int .i64 aI,.int .i64 aX,.bool aY] 129) w λr2 w1=>
 ∃s5,w1.cell? (⟨r2,0,none⟩:Addr)=some (.string s5)/\
 zVp v1 λa2=>
 ∃s6,w1.cell? a2=some (.string s6)/\
 zQb prog ds w1 λw3=>
 R (.returned (.bool (s5.toList == s6.toList))) w3
theorem F114_p:Pl prog f114 [aS 0 [.str,.int .i64,.int .i64,.bool],vS 1] xKe:=λR=>
 lf
theorem yWd (aW:ByteArray) (aI aX:Int) (aY:Bool) (v1:Value) (w:World) (R:Rt) (h:xKe R aW aI aX aY v1 [] w):Calls prog 114 #[.agg #[.string aW,.int .i64 aI,.int .i64 aX,.bool aY],v1] w R:=
 plC F114_p func114 h
def F82_1(R:Rt)(l0:SV)(s1:ByteArray)(ds:Ds)(w:World):Prop:=
 alE (.cells #[.string s1] 9) w λr3 w1=>
 Calls prog 113 #[l0.v,.func (.func 114) #[] #[.pointer (some (⟨r3,0,none⟩:Addr))]] w1 λe w2=>
 ∃n9:Int,e=.returned (.int .i64 n9)/\
 ∃dx:Int,∃w3,(Builtin.max_ #[3,3] 3 #[.int .i64 n9,.int .i64 0]).run prog w2=.ok (.int .i64 dx) w3/\
 zQb prog ds w3 λw4=>
 R (.returned (.tuple #[.int .i64 dx,.bool (decide (n9 >= 0))])) w4
theorem F82_p:Pl prog f82 [lS 0,sS 1] F82_1:=λR=>
 lf
theorem yVQ (l0:SV) (s1:ByteArray) (w:World) (R:Rt) (h:F82_1 R l0 s1 [] w):Calls prog 82 #[l0.v,.string s1] w R:=
 plC F82_p func82 h
def xK6(R:Rt)(ds:Ds)(w:World):Prop:=
 zQb prog ds w λw1=>
 R (.returned (.tuple #[.int .i64 0,.bool false])) w1
def xKz (R:Rt) (J1:(Int)->World->Prop) (l0:SV) (s1:ByteArray) (n6:Int) (ds:Ds) (w:World):Prop:=
 Br (decide (n6<(l0.len:Int))) (
 ∃a2,l0.a=some a2/\0<=n6/\n6<(l0.len:Int)/\
 ∃wm,w.cell? (a2.add (n6.toNat * 4))=some (.string wm)/\
 Br (wm.toList == s1.toList) (
 zQb prog ds w λw3=>
 R (.returned (.tuple #[.int .i64 n6,.bool true])) w3) (
 J1 (IntKind.i64.wrap (n6+1)) w)) (
 xK6 R ds w)
def xKq(R:Rt)(l0:SV)(s1:ByteArray)(n6:Int)(ds:Ds)(w:World):Prop:=
 zQA (λ(J1:(Int)->World->Prop) (s:Int) (w:World)=>xKz R J1 l0 s1 s ds w) n6 w
def xWX(R:Rt)(l0:SV)(s1:ByteArray)(ds:Ds)(w:World):Prop:=
 xKq R l0 s1 0 ds w
theorem F103_p:Pl prog f103 [lS 0,sS 1] xWX:=λR=>
 pc 2 (rest [lS 0,sS 1,iS 6] (xKq R) (bk 0 (rest [] (xK6 R) lf) (lp [iS 6] [lS 0,sS 1,iS 6] (xKz R) zXI λJ1=>lf)))
theorem yWJ (l0:SV) (s1:ByteArray) (w:World) (R:Rt) (h:xWX R l0 s1 [] w):Calls prog 103 #[l0.v,.string s1] w R:=
 plC F103_p func103 h
end Go.Proofs.YtaeecpjhfmcliaaGreatDoor
/- Shallow texts of functions, printed by program, each checked by the kernel against the loaded code. No condition. -/
namespace Go.Proofs.YtaeecpjhfmcliaaGreatDoor
open Go.Sh Tryz
def xWx(R:Rt)(ds:Ds)(w:World):Prop:=
 zQb prog ds w λw1=>
 R (.returned (.int .i64 0)) w1
def xQi (R:Rt) (J1:(Int)->World->Prop) (p1:Option Addr) (iV:SV) (om cw:Int) (ds:Ds) (w:World):Prop:=
 J1 (IntKind.i64.wrap (cw+1)) w
def xWv (R:Rt) (J1:(Int)->World->Prop) (J2:(Int)->World->Prop) (p1 p5:Option Addr) (iV:SV) (om cw:Int) (eR:SV) (rQ eZ:Int) (ds:Ds) (w:World):Prop:=
 Br (decide (eZ<rQ)) (
 ∃a2,eR.a=some a2/\0<=eZ/\eZ<(eR.len:Int)/\
 ∃tB,w.cell? ((a2.add (eZ.toNat * 4)).add 0)=some (.string tB)/\
 ∃tC,w.cell? ((a2.add (eZ.toNat * 4)).add 1)=some (.int .i64 tC)/\
 ∃tD,w.cell? ((a2.add (eZ.toNat * 4)).add 2)=some (.int .i64 tD)/\
 ∃tE,w.cell? ((a2.add (eZ.toNat * 4)).add 3)=some (.bool tE)/\
 alE (.cells #[.string (⟨#[]⟩:ByteArray),.int .i64 0,.int .i64 0,.bool false] 129) w λr7 w3=>
 stA prog 129 (⟨r7,0,none⟩:Addr) #[.string tB,.int .i64 tC,.int .i64 tD,.bool tE] w3 λw4=>
 dwE w4 λw5=>
 ∃tF,w5.cell? ((⟨r7,0,none⟩:Addr).add 0)=some (.string tF)/\
 ∃np,w5.cell? ((⟨r7,0,none⟩:Addr).add 1)=some (.int .i64 np)/\
 ∃tG,w5.cell? ((⟨r7,0,none⟩:Addr).add 2)=some (.int .i64 tG)/\
 ∃tH,w5.cell? ((⟨r7,0,none⟩:Addr).add 3)=some (.bool tH)/\
 zQf p1 λa6=>
 ∃ku,w5.cell? a6=some (.int .i64 ku)/\
 zQf p5 λa7=>
 ∃qb:SV,w5.cell? (a7.add 1)=some (qb.v)/\
 ∃a8,qb.a=some a8/\0<=eZ/\eZ<(qb.len:Int)/\
 ∃tI,w5.cell? ((a8.add (eZ.toNat * 3)).add 0)=some (.int .i64 tI)/\
 ∃nq,w5.cell? ((a8.add (eZ.toNat * 3)).add 1)=some (.int .i64 nq)/\
 ∃tJ,w5.cell? ((a8.add (eZ.toNat * 3)).add 2)=some (.string tJ)/\
 Calls prog 142 #[.agg #[.string tF,.int .i64 np,.int .i64 tG,.bool tH],.int .i64 ku,.agg #[.int .i64 tI,.int .i64 nq,.string tJ]] w5 λe w9=>
 ∃b52:Bool,e=.returned (.bool b52)/\
 Br (!b52) (
 zQb prog ds w9 λaP=>
 R (.returned (.int .i64 1)) aP) (
 J2 (IntKind.i64.wrap (eZ+1)) w9)) (
 xQi R J1 p1 iV om cw ds w)
def xJ6 (R:Rt) (J1:(Int)->World->Prop) (p1 p5:Option Addr) (iV:SV) (om cw:Int) (eR:SV) (rQ eZ:Int) (ds:Ds) (w:World):Prop:=
 zQA (λ(J2:(Int)->World->Prop) (s:Int) (w:World)=>xWv R J1 J2 p1 p5 iV om cw eR rQ s ds w) eZ w
def xKE (R:Rt) (J1:(Int)->World->Prop) (p1:Option Addr) (iV:SV) (om cw:Int) (ds:Ds) (w:World):Prop:=
 ∃dI,iV.a=some dI/\0<=cw/\cw<(iV.len:Int)/\
 ∃dJ,w.cell? ((dI.add (cw.toNat * 2)).add 0)=some (.bool dJ)/\
 ∃bg:SV,w.cell? ((dI.add (cw.toNat * 2)).add 1)=some (bg.v)/\
 alE (.cells #[.bool false,.slice none 0 0] 67) w λr5 aQ=>
 stA prog 67 (⟨r5,0,none⟩:Addr) #[.bool dJ,bg.v] aQ λaJ=>
 ∃oo:SV,aJ.cell? ((⟨r5,0,none⟩:Addr).add 1)=some (oo.v)/\
 zQf p1 λfY=>
 ∃iD:SV,aJ.cell? (fY.add 1)=some (iD.v)/\
 Br ((oo.len:Int) != (iD.len:Int)) (
 zQb prog ds aJ λbm=>
 R (.returned (.int .i64 10)) bm) (
 zQf p1 λip=>
 ∃eR:SV,aJ.cell? (ip.add 1)=some (eR.v)/\
 xJ6 R J1 p1 (some (⟨r5,0,none⟩:Addr)) iV om cw eR (eR.len:Int) 0 ds aJ)
def xVA (R:Rt) (J1:(Int)->World->Prop) (p1:Option Addr) (iV:SV) (om cw:Int) (ds:Ds) (w:World):Prop:=
 Br (decide (cw<om)) (
 xKE R J1 p1 iV om cw ds w) (
 xWx R ds w)
def xVo(R:Rt)(p1:Option Addr)(iV:SV)(om cw:Int)(ds:Ds)(w:World):Prop:=
 zQA (λ(J1:(Int)->World->Prop) (s:Int) (w:World)=>xVA R J1 p1 iV om s ds w) cw w
def yYa(R:Rt)(aw:Int)(ah ai:SV)(ds:Ds)(w:World):Prop:=
 alE (.cells #[.int .i64 aw,ah.v,ai.v] 35) w λr1 bH=>
 ∃n9,bH.cell? (⟨r1,0,none⟩:Addr)=some (.int .i64 n9)/\
 Calls prog 116 #[.int .i64 n9] bH λe bU=>
 ∃dR:Bool,e=.returned (.bool dR)/\
 Br (!dR) (
 zQb prog ds bU λcM=>
 R (.returned (.int .i64 1)) cM) (
 ∃cA:SV,bU.cell? ((⟨r1,0,none⟩:Addr).add 1)=some (cA.v)/\
 Calls prog 141 #[cA.v] bU λe bT=>
 ∃mG:Int,e=.returned (.int .i64 mG)/\
 Br (mG != 0) (
 zQb prog ds bT λbX=>
 R (.returned (.int .i64 mG)) bX) (
 ∃cH:SV,bT.cell? ((⟨r1,0,none⟩:Addr).add 2)=some (cH.v)/\
 Br (decide ((cH.len:Int) > 300)) (
 zQb prog ds bT λdf=>
 R (.returned (.int .i64 3)) df) (
 ∃iV:SV,bT.cell? ((⟨r1,0,none⟩:Addr).add 2)=some (iV.v)/\
 xVo R (some (⟨r1,0,none⟩:Addr)) iV (iV.len:Int) 0 ds bT)))
theorem F106_p:Pl prog f106 [aS 0 [.int .i64,.slice,.slice]] yYa:=λR=>
 pc 9 (rest [pS 1,lS 23,iS 24,iS 25] (xVo R) (bk 0 (rest [] (xWx R) lf) (lp [iS 25] [pS 1,lS 23,iS 24,iS 25] (xVA R) zXI λJ1=>pc 2 (rest [pS 1,lS 23,iS 24,iS 25] (xKE R J1) (bk 1 (rest [pS 1,lS 23,iS 24,iS 25] (xQi R J1) lf) (pc 4 (rest [pS 1,pS 5,lS 23,iS 24,iS 25,lS 37,iS 38,iS 39] (xJ6 R J1) (bk 2 zXI (lp [iS 39] [pS 1,pS 5,lS 23,iS 24,iS 25,lS 37,iS 38,iS 39] (xWv R J1) zXI λJ2=>lf)))))))))
theorem yVp (aw:Int) (ah ai:SV) (w:World) (R:Rt) (h:yYa R aw ah ai [] w):Calls prog 106 #[.agg #[.int .i64 aw,ah.v,ai.v]] w R:=
 plC F106_p func106 h
def xJY(R:Rt)(aW:ByteArray)(aI aX:Int)(aY:Bool)(n1 dk ei:Int)(eo:ByteArray)(ds:Ds)(w:World):Prop:=
 alE (.cells #[.string aW,.int .i64 aI,.int .i64 aX,.bool aY] 129) w λr3 w1=>
 alE (.cells #[.int .i64 dk,.int .i64 ei,.string eo] 73) w1 λr5 w2=>
 ∃iU,w2.cell? (⟨r5,0,none⟩:Addr)=some (.int .i64 iU)/\
 Br (iU == 0) (
 ∃kv,w2.cell? ((⟨r3,0,none⟩:Addr).add 3)=some (.bool kv)/\
 Br kv (
 ∃jy,w2.cell? ((⟨r5,0,none⟩:Addr).add 0)=some (.int .i64 jy)/\
 ∃gw,w2.cell? ((⟨r5,0,none⟩:Addr).add 1)=some (.int .i64 gw)/\
 ∃tK,w2.cell? ((⟨r5,0,none⟩:Addr).add 2)=some (.string tK)/\
 ∃rW:Bool,∃w3,(eqS .eql 73 (.tmp 15) (.tmp 16) (.agg #[.int .i64 jy,.int .i64 gw,.string tK]) (.agg #[.int .i64 0,.int .i64 0,.string (⟨#[]⟩:ByteArray)])).run prog w2=.ok (.bool rW) w3/\
 zQb prog ds w3 λw4=>
 R (.returned (.bool rW)) w4) (
 zQb prog ds w2 λw5=>
 R (.returned (.bool false)) w5)) (
 ∃dK,w2.cell? ((⟨r5,0,none⟩:Addr).add 0)=some (.int .i64 dK)/\
 ∃co,w2.cell? ((⟨r5,0,none⟩:Addr).add 1)=some (.int .i64 co)/\
 ∃jz,w2.cell? ((⟨r5,0,none⟩:Addr).add 2)=some (.string jz)/\
 Calls prog 117 #[.agg #[.int .i64 dK,.int .i64 co,.string jz]] w2 λe w6=>
 ∃jh:Int,e=.returned (.int .i64 jh)/\
 Br (jh != 0) (
 zQb prog ds w6 λw7=>
 R (.returned (.bool false)) w7) (
 ∃jA,w6.cell? ((⟨r3,0,none⟩:Addr).add 0)=some (.string jA)/\
 ∃d8,w6.cell? ((⟨r3,0,none⟩:Addr).add 1)=some (.int .i64 d8)/\
 ∃jB,w6.cell? ((⟨r3,0,none⟩:Addr).add 2)=some (.int .i64 jB)/\
 ∃jC,w6.cell? ((⟨r3,0,none⟩:Addr).add 3)=some (.bool jC)/\
 ∃j2,w6.cell? ((⟨r5,0,none⟩:Addr).add 0)=some (.int .i64 j2)/\
 ∃o2,w6.cell? ((⟨r5,0,none⟩:Addr).add 1)=some (.int .i64 o2)/\
 ∃tL,w6.cell? ((⟨r5,0,none⟩:Addr).add 2)=some (.string tL)/\
 Calls prog 83 #[.agg #[.string jA,.int .i64 d8,.int .i64 jB,.bool jC],.int .i64 n1,.agg #[.int .i64 j2,.int .i64 o2,.string tL]] w6 λe w8=>
 ∃o3:Int,∃o4:Int,∃o5:ByteArray,∃fp:Int,e=.returned (.tuple #[.agg #[.int .i64 o3,.int .i64 o4,.string o5],.int .i64 fp])/\
 alE (.cells #[.int .i64 0,.int .i64 0,.string (⟨#[]⟩:ByteArray)] 73) w8 λr7 w9=>
 stA prog 73 (⟨r7,0,none⟩:Addr) #[.int .i64 o3,.int .i64 o4,.string o5] w9 λaP=>
 Br (fp == 0) (
 ∃nr,aP.cell? ((⟨r7,0,none⟩:Addr).add 0)=some (.int .i64 nr)/\
 ∃o6,aP.cell? ((⟨r7,0,none⟩:Addr).add 1)=some (.int .i64 o6)/\
 ∃tM,aP.cell? ((⟨r7,0,none⟩:Addr).add 2)=some (.string tM)/\
 ∃nc,aP.cell? ((⟨r5,0,none⟩:Addr).add 0)=some (.int .i64 nc)/\
 ∃ng,aP.cell? ((⟨r5,0,none⟩:Addr).add 1)=some (.int .i64 ng)/\
 ∃nh,aP.cell? ((⟨r5,0,none⟩:Addr).add 2)=some (.string nh)/\
 ∃b34:Bool,∃aU,(eqS .eql 73 (.tmp 32) (.tmp 33) (.agg #[.int .i64 nr,.int .i64 o6,.string tM]) (.agg #[.int .i64 nc,.int .i64 ng,.string nh])).run prog aP=.ok (.bool b34) aU/\
 zQb prog ds aU λaQ=>
 R (.returned (.bool b34)) aQ) (
 zQb prog ds aP λaJ=>
 R (.returned (.bool false)) aJ)))
theorem F142_p:Pl prog f142 [aS 0 [.str,.int .i64,.int .i64,.bool],iS 1,aS 2 [.int .i64,.int .i64,.str]] xJY:=λR=>
 lf
theorem yWr (aW:ByteArray) (aI aX:Int) (aY:Bool) (n1 dk ei:Int) (eo:ByteArray) (w:World) (R:Rt) (h:xJY R aW aI aX aY n1 dk ei eo [] w):Calls prog 142 #[.agg #[.string aW,.int .i64 aI,.int .i64 aX,.bool aY],.int .i64 n1,.agg #[.int .i64 dk,.int .i64 ei,.string eo]] w R:=
 plC F142_p func142 h
def F13_1(R:Rt)(ds:Ds)(w:World):Prop:=
 zQb prog ds w λw1=>
 R (.returned (.int .i64 0)) w1
def F13_2 (R:Rt) (J1:(Int)->World->Prop) (p1:Option Addr) (n4:Int) (ds:Ds) (w:World):Prop:=
 zQf p1 λa2=>
 ∃dv:SV,w.cell? (a2.add 2)=some (dv.v)/\
 Br (decide (n4<(dv.len:Int))) (
 dwE w λw3=>
 zQf p1 λa4=>
 ∃eu:SV,w3.cell? (a4.add 1)=some (eu.v)/\
 zQf p1 λa5=>
 ∃qF,w3.cell? a5=some (.int .i64 qF)/\
 zQf p1 λa6=>
 ∃iW:SV,w3.cell? (a6.add 2)=some (iW.v)/\
 ∃a7,iW.a=some a7/\0<=n4/\n4<(iW.len:Int)/\
 ∃tO,w3.cell? ((a7.add (n4.toNat * 2)).add 0)=some (.bool tO)/\
 ∃fq:SV,w3.cell? ((a7.add (n4.toNat * 2)).add 1)=some (fq.v)/\
 Calls prog 54 #[eu.v,.int .i64 qF,.agg #[.bool tO,fq.v]] w3 λe w8=>
 ∃jP:Int,e=.returned (.int .i64 jP)/\
 Br (jP != 0) (
 zQb prog ds w8 λw9=>
 R (.returned (.int .i64 jP)) w9) (
 J1 (IntKind.i64.wrap (n4+1)) w8)) (
 F13_1 R ds w)
def F13_3(R:Rt)(p1:Option Addr)(n4:Int)(ds:Ds)(w:World):Prop:=
 zQA (λ(J1:(Int)->World->Prop) (s:Int) (w:World)=>F13_2 R J1 p1 s ds w) n4 w
def F13_5(R:Rt)(aw:Int)(ah ai:SV)(ds:Ds)(w:World):Prop:=
 alE (.cells #[.int .i64 aw,ah.v,ai.v] 35) w λr1 aP=>
 ∃n7,aP.cell? (⟨r1,0,none⟩:Addr)=some (.int .i64 n7)/\
 Calls prog 52 #[.int .i64 n7] aP λe aU=>
 ∃b8:Bool,e=.returned (.bool b8)/\
 Br (!b8) (
 zQb prog ds aU λaQ=>
 R (.returned (.int .i64 1)) aQ) (
 ∃dV:SV,aU.cell? ((⟨r1,0,none⟩:Addr).add 1)=some (dV.v)/\
 Calls prog 53 #[dV.v] aU λe aJ=>
 ∃dz:Int,e=.returned (.int .i64 dz)/\
 Br (dz != 0) (
 zQb prog ds aJ λbB=>
 R (.returned (.int .i64 dz)) bB) (
 ∃cN:SV,aJ.cell? ((⟨r1,0,none⟩:Addr).add 2)=some (cN.v)/\
 Br (decide ((cN.len:Int) > 300)) (
 zQb prog ds aJ λbm=>
 R (.returned (.int .i64 3)) bm) (
 F13_3 R (some (⟨r1,0,none⟩:Addr)) 0 ds aJ)))
theorem F13_p:Pl prog f13 [aS 0 [.int .i64,.slice,.slice]] F13_5:=λR=>
 pc 9 (rest [pS 1,iS 4] (F13_3 R) (bk 0 (rest [] (F13_1 R) lf) (lp [iS 4] [pS 1,iS 4] (F13_2 R) zXI λJ1=>lf)))
theorem yVY (aw:Int) (ah ai:SV) (w:World) (R:Rt) (h:F13_5 R aw ah ai [] w):Calls prog 13 #[.agg #[.int .i64 aw,ah.v,ai.v]] w R:=
 plC F13_p func13 h
def F54_1(R:Rt)(ds:Ds)(w:World):Prop:=
 zQb prog ds w λw1=>
 R (.returned (.int .i64 0)) w1
def F54_2 (R:Rt) (J1:(Int)->World->Prop) (l0:SV) (n1:Int) (p5:Option Addr) (n7:Int) (ds:Ds) (w:World):Prop:=
 Br (decide (n7<(l0.len:Int))) (
 dwE w λw2=>
 ∃a3,l0.a=some a3/\0<=n7/\n7<(l0.len:Int)/\
 ∃jA,w2.cell? ((a3.add (n7.toNat * 4)).add 0)=some (.string jA)/\
 ∃d8,w2.cell? ((a3.add (n7.toNat * 4)).add 1)=some (.int .i64 d8)/\
 ∃jB,w2.cell? ((a3.add (n7.toNat * 4)).add 2)=some (.int .i64 jB)/\
 ∃jC,w2.cell? ((a3.add (n7.toNat * 4)).add 3)=some (.bool jC)/\
 zQf p5 λa4=>
 ∃dS:SV,w2.cell? (a4.add 1)=some (dS.v)/\
 ∃a5,dS.a=some a5/\0<=n7/\n7<(dS.len:Int)/\
 ∃cO,w2.cell? ((a5.add (n7.toNat * 3)).add 0)=some (.int .i64 cO)/\
 ∃nt,w2.cell? ((a5.add (n7.toNat * 3)).add 1)=some (.int .i64 nt)/\
 ∃tP,w2.cell? ((a5.add (n7.toNat * 3)).add 2)=some (.string tP)/\
 Calls prog 93 #[.agg #[.string jA,.int .i64 d8,.int .i64 jB,.bool jC],.int .i64 n1,.agg #[.int .i64 cO,.int .i64 nt,.string tP]] w2 λe w6=>
 ∃qB:Bool,e=.returned (.bool qB)/\
 Br (!qB) (
 zQb prog ds w6 λw7=>
 R (.returned (.int .i64 1)) w7) (
 J1 (IntKind.i64.wrap (n7+1)) w6)) (
 F54_1 R ds w)
def F54_3(R:Rt)(l0:SV)(n1:Int)(p5:Option Addr)(n7:Int)(ds:Ds)(w:World):Prop:=
 zQA (λ(J1:(Int)->World->Prop) (s:Int) (w:World)=>F54_2 R J1 l0 n1 p5 s ds w) n7 w
def F54_5(R:Rt)(l0:SV)(n1:Int)(fZ:Bool)(bI:SV)(ds:Ds)(w:World):Prop:=
 alE (.cells #[.bool fZ,bI.v] 67) w λr5 w8=>
 ∃l9:SV,w8.cell? ((⟨r5,0,none⟩:Addr).add 1)=some (l9.v)/\
 Br ((l9.len:Int) != (l0.len:Int)) (
 zQb prog ds w8 λw9=>
 R (.returned (.int .i64 10)) w9) (
 F54_3 R l0 n1 (some (⟨r5,0,none⟩:Addr)) 0 ds w8)
theorem F54_p:Pl prog f54 [lS 0,iS 1,aS 2 [.bool,.slice]] F54_5:=λR=>
 pc 4 (rest [lS 0,iS 1,pS 5,iS 7] (F54_3 R) (bk 0 (rest [] (F54_1 R) lf) (lp [iS 7] [lS 0,iS 1,pS 5,iS 7] (F54_2 R) zXI λJ1=>lf)))
theorem yVV (l0:SV) (n1:Int) (fZ:Bool) (bI:SV) (w:World) (R:Rt) (h:F54_5 R l0 n1 fZ bI [] w):Calls prog 54 #[l0.v,.int .i64 n1,.agg #[.bool fZ,bI.v]] w R:=
 plC F54_p func54 h
end Go.Proofs.YtaeecpjhfmcliaaGreatDoor
/- Shallow texts of functions, printed by program, each checked by the kernel against the loaded code. No condition. -/
namespace Go.Proofs.YtaeecpjhfmcliaaGreatDoor
open Go.Sh Tryz
def xJJ(R:Rt)(aw:Int)(ah ai:SV)(ds:Ds)(w:World):Prop:=
 alE (.cells #[.int .i64 aw,ah.v,ai.v] 35) w λr1 w1=>
 ∃iF,w1.cell? ((⟨r1,0,none⟩:Addr).add 0)=some (.int .i64 iF)/\
 ∃dB:SV,w1.cell? ((⟨r1,0,none⟩:Addr).add 1)=some (dB.v)/\
 ∃cF:SV,w1.cell? ((⟨r1,0,none⟩:Addr).add 2)=some (cF.v)/\
 Calls prog 106 #[.agg #[.int .i64 iF,dB.v,cF.v]] w1 λe w2=>
 ∃n6:Int,e=.returned (.int .i64 n6)/\
 Br (n6 != 0) (
 zQb prog ds w2 λw3=>
 R (.returned (.tuple #[.slice none 0 0,.int .i64 n6])) w3) (
 ∃dL,w2.cell? ((⟨r1,0,none⟩:Addr).add 0)=some (.int .i64 dL)/\
 ∃bh:SV,w2.cell? ((⟨r1,0,none⟩:Addr).add 1)=some (bh.v)/\
 ∃bi:SV,w2.cell? ((⟨r1,0,none⟩:Addr).add 2)=some (bi.v)/\
 Calls prog 157 #[.agg #[.int .i64 dL,bh.v,bi.v]] w2 λe w4=>
 ∃dV:SV,e=.returned (dV.v)/\
 zQb prog ds w4 λw5=>
 R (.returned (.tuple #[dV.v,.int .i64 0])) w5)
theorem F165_p:Pl prog f165 [aS 0 [.int .i64,.slice,.slice]] xJJ:=λR=>
 lf
theorem yKZ (aw:Int) (ah ai:SV) (w:World) (R:Rt) (h:xJJ R aw ah ai [] w):Calls prog 165 #[.agg #[.int .i64 aw,ah.v,ai.v]] w R:=
 plC F165_p func165 h
def xKj(R:Rt)(l3:SV)(ds:Ds)(w:World):Prop:=
 alE (.cells #[.int .u8 13] 5) w λr65 w1=>
 ∃qc:SV,∃w2,(Builtin.append_ #[22,22] 22 #[l3.v,.slice (some ⟨r65,0,none⟩) 1 1]).run prog w1=.ok (qc.v) w2/\
 zQb prog ds w2 λw3=>
 R (.returned (qc.v)) w3
def xKd (R:Rt) (J1:(SV × Int)->World->Prop) (l3 eR:SV) (rQ eZ:Int) (ds:Ds) (w:World):Prop:=
 Br (decide (eZ<rQ)) (
 ∃a4,eR.a=some a4/\0<=eZ/\eZ<(eR.len:Int)/\
 ∃tQ,w.cell? ((a4.add (eZ.toNat * 4)).add 0)=some (.string tQ)/\
 ∃tR,w.cell? ((a4.add (eZ.toNat * 4)).add 1)=some (.int .i64 tR)/\
 ∃tS,w.cell? ((a4.add (eZ.toNat * 4)).add 2)=some (.int .i64 tS)/\
 ∃tT,w.cell? ((a4.add (eZ.toNat * 4)).add 3)=some (.bool tT)/\
 alE (.cells #[.string (⟨#[]⟩:ByteArray),.int .i64 0,.int .i64 0,.bool false] 129) w λr5 w5=>
 stA prog 129 (⟨r5,0,none⟩:Addr) #[.string tQ,.int .i64 tR,.int .i64 tS,.bool tT] w5 λw6=>
 alE (.cells #[.int .u8 0,.int .u8 0,.int .u8 0,.int .u8 0,.int .u8 0,.int .u8 0,.int .u8 0,.int .u8 0,.int .u8 0,.int .u8 0,.int .u8 0,.int .u8 0,.int .u8 0,.int .u8 0,.int .u8 0,.int .u8 0] 227) w6 λr6 w7=>
 dwE w7 λw8=>
 ∃S1:World->Prop,S1 w8/\
 ∃s45,(∀w',S1 w'->w'.cell? (⟨r5,0,none⟩:Addr)=some (.string s45))/\
 ∃mY:SV,∃w9,(Instr.sliceAt 227 (.pointer (some (⟨r6,0,none⟩:Addr))) none (some (.int .i64 10)) (some (.int .i64 10))).run prog w8=.ok (mY.v) w9/\
 S1 w9/\
 ∃ku:Int,∃aP,(Builtin.copy_ #[22,9] 3 #[mY.v,.string s45]).run prog w9=.ok (.int .i64 ku) aP/\
 dwE aP λaU=>
 ∃S2:World->Prop,S2 aU/\
 ∃sR,(∀w',S2 w'->w'.cell? ((⟨r5,0,none⟩:Addr).add 1)=some (.int .i64 sR))/\
 ∃kP,(∀w',S2 w'->w'.cell? ((⟨r5,0,none⟩:Addr).add 2)=some (.int .i64 kP))/\
 Calls prog 145 #[] aU λe aQ=>
 ∃m47:Option Nat,e=.returned (.map m47)/\
 ∃S3:World->Prop,S3 aQ/\(∀u,S3 u->S2 u)/\
 ∃kQ:Int,∃yh:Int,∃yi:Int,∃yj:Value,∃yk:Value,(∀w',S3 w'->(Instr.lookup 176 (.map m47) (.int .i64 sR) false).run prog w'=.ok (.agg #[.int .u8 kQ,.int .i64 yh,.int .i64 yi,yj,yk]) w')/\
 0<=(10:Int)/\(10:Int)<(16:Int)/\
 st1 ((⟨r6,0,none⟩:Addr).add ((10:Int).toNat * 1)) (.int .u8 kQ) aQ λaJ=>
 ∃S4:World->Prop,S4 aJ/\(∀u,S4 u->S3 u)/\
 0<=(11:Int)/\(11:Int)<(16:Int)/\
 st1 ((⟨r6,0,none⟩:Addr).add ((11:Int).toNat * 1)) (.int .u8 (IntKind.u8.wrap kP)) aJ λbB=>
 ∃b58,bB.cell? ((⟨r5,0,none⟩:Addr).add 3)=some (.bool b58)/\
 Br b58 (
 0<=(12:Int)/\(12:Int)<(16:Int)/\
 st1 ((⟨r6,0,none⟩:Addr).add ((12:Int).toNat * 1)) (.int .u8 1) bB λbm=>
 16<=16/\0<=16/\
 ∃kC:SV,∃bF,(Builtin.append_ #[22,22] 22 #[l3.v,.slice (some (if 16=0 then(⟨r6,0,none⟩:Addr)else(⟨r6,0,none⟩:Addr).add (0 * 1))) (16 - 0) (16 - 0)]).run prog bm=.ok (kC.v) bF/\
 J1 (kC,(IntKind.i64.wrap (eZ+1))) bF) (
 16<=16/\0<=16/\
 ∃kC:SV,∃bH,(Builtin.append_ #[22,22] 22 #[l3.v,.slice (some (if 16=0 then(⟨r6,0,none⟩:Addr)else(⟨r6,0,none⟩:Addr).add (0 * 1))) (16 - 0) (16 - 0)]).run prog bB=.ok (kC.v) bH/\
 J1 (kC,(IntKind.i64.wrap (eZ+1))) bH)) (
 xKj R l3 ds w)
def yXQ(R:Rt)(l3 eR:SV)(rQ eZ:Int)(ds:Ds)(w:World):Prop:=
 zQA (λ(J1:(SV × Int)->World->Prop) (s:SV × Int) (w:World)=>xKd R J1 s.1 eR rQ s.2 ds w) (l3,eZ) w
def xV7(R:Rt)(aw:Int)(ah ai:SV)(ds:Ds)(w:World):Prop:=
 alE (.cells #[.int .i64 aw,ah.v,ai.v] 35) w λr1 bU=>
 dwE bU λcM=>
 ∃S5:World->Prop,S5 cM/\
 ∃n8,(∀w',S5 w'->w'.cell? (⟨r1,0,none⟩:Addr)=some (.int .i64 n8))/\
 ∃eI:SV,(∀w',S5 w'->w'.cell? ((⟨r1,0,none⟩:Addr).add 2)=some (eI.v))/\
 (
 alE (.cells #[.int .u8 67,.int .u8 (IntKind.u8.wrap n8)] 5) cM λdu bT=>
 S5 bT/\
 Calls prog 202 #[.int .i64 (eI.len:Int),.int .i64 4] bT λe bX=>
 ∃bV:SV,e=.returned (bV.v)/\
 S5 bX/\
 ∃e7:SV,∃df,(Builtin.append_ #[22,22] 22 #[.slice (some ⟨du,0,none⟩) 2 2,bV.v]).run prog bX=.ok (e7.v) df/\
 ∃dW:SV,df.cell? ((⟨r1,0,none⟩:Addr).add 1)=some (dW.v)/\
 Calls prog 159 #[.int .i64 (dW.len:Int)] df λe dU=>
 ∃jh:Int,e=.returned (.int .i64 jh)/\
 Calls prog 202 #[.int .i64 jh,.int .i64 2] dU λe dw=>
 ∃cz:SV,e=.returned (cz.v)/\
 ∃dv:SV,∃dH,(Builtin.append_ #[22,22] 22 #[e7.v,cz.v]).run prog dw=.ok (dv.v) dH/\
 ∃eb:SV,dH.cell? ((⟨r1,0,none⟩:Addr).add 1)=some (eb.v)/\
 Calls prog 161 #[eb.v] dH λe fj=>
 ∃cv:Int,e=.returned (.int .i64 cv)/\
 Calls prog 202 #[.int .i64 cv,.int .i64 2] fj λe iq=>
 ∃cp:SV,e=.returned (cp.v)/\
 ∃eu:SV,∃eg,(Builtin.append_ #[22,22] 22 #[dv.v,cp.v]).run prog iq=.ok (eu.v) eg/\
 ∃mH:SV,eg.cell? ((⟨r1,0,none⟩:Addr).add 1)=some (mH.v)/\
 alE (.cells #[.int .u8 (IntKind.u8.wrap (mH.len:Int)),.int .u8 0] 5) eg λym fm=>
 ∃gf:SV,∃ir,(Builtin.append_ #[22,22] 22 #[eu.v,.slice (some ⟨ym,0,none⟩) 2 2]).run prog fm=.ok (gf.v) ir/\
 ∃eR:SV,ir.cell? ((⟨r1,0,none⟩:Addr).add 1)=some (eR.v)/\
 yXQ R gf eR (eR.len:Int) 0 ds ir)/\(
 Calls prog 202 #[.int .i64 (eI.len:Int),.int .i64 4] cM λe gu=>
 ∃bV:SV,e=.returned (bV.v)/\
 S5 gu/\
 alE (.cells #[.int .u8 67,.int .u8 (IntKind.u8.wrap n8)] 5) gu λdu gd=>
 S5 gd/\
 ∃e7:SV,∃fU,(Builtin.append_ #[22,22] 22 #[.slice (some ⟨du,0,none⟩) 2 2,bV.v]).run prog gd=.ok (e7.v) fU/\
 ∃dW:SV,fU.cell? ((⟨r1,0,none⟩:Addr).add 1)=some (dW.v)/\
 Calls prog 159 #[.int .i64 (dW.len:Int)] fU λe fV=>
 ∃jh:Int,e=.returned (.int .i64 jh)/\
 Calls prog 202 #[.int .i64 jh,.int .i64 2] fV λe iT=>
 ∃cz:SV,e=.returned (cz.v)/\
 ∃dv:SV,∃pY,(Builtin.append_ #[22,22] 22 #[e7.v,cz.v]).run prog iT=.ok (dv.v) pY/\
 ∃eb:SV,pY.cell? ((⟨r1,0,none⟩:Addr).add 1)=some (eb.v)/\
 Calls prog 161 #[eb.v] pY λe nn=>
 ∃cv:Int,e=.returned (.int .i64 cv)/\
 Calls prog 202 #[.int .i64 cv,.int .i64 2] nn λe na=>
 ∃cp:SV,e=.returned (cp.v)/\
 ∃eu:SV,∃jU,(Builtin.append_ #[22,22] 22 #[dv.v,cp.v]).run prog na=.ok (eu.v) jU/\
 ∃mH:SV,jU.cell? ((⟨r1,0,none⟩:Addr).add 1)=some (mH.v)/\
 alE (.cells #[.int .u8 (IntKind.u8.wrap (mH.len:Int)),.int .u8 0] 5) jU λym qG=>
 ∃gf:SV,∃qd,(Builtin.append_ #[22,22] 22 #[eu.v,.slice (some ⟨ym,0,none⟩) 2 2]).run prog qG=.ok (gf.v) qd/\
 ∃eR:SV,qd.cell? ((⟨r1,0,none⟩:Addr).add 1)=some (eR.v)/\
 yXQ R gf eR (eR.len:Int) 0 ds qd)
theorem F157_p:Pl prog f157 [aS 0 [.int .i64,.slice,.slice]] xV7:=λR=>
 pc 6 (rest [lS 3,lS 37,iS 38,iS 39] (yXQ R) (bk 0 (rest [lS 3] (xKj R) lf) (lp [lS 3,iS 39] [lS 3,lS 37,iS 38,iS 39] (xKd R) zXI λJ1=>lf)))
theorem yWo (aw:Int) (ah ai:SV) (w:World) (R:Rt) (h:xV7 R aw ah ai [] w):Calls prog 157 #[.agg #[.int .i64 aw,ah.v,ai.v]] w R:=
 plC F157_p func157 h
def xW9(R:Rt)(l5:SV)(ds:Ds)(w:World):Prop:=
 zQb prog ds w λw1=>
 R (.returned (l5.v)) w1
def xWD (R:Rt) (J1:(Int × SV × Int)->World->Prop) (n0:Int) (l5:SV) (n6 n7:Int) (ds:Ds) (w:World):Prop:=
 Br (decide (n7<n6)) (
 alE (.cells #[.int .u8 (IntKind.u8.wrap n0)] 5) w λpF w2=>
 ∃cA:SV,∃w3,(Builtin.append_ #[22,22] 22 #[l5.v,.slice (some ⟨pF,0,none⟩) 1 1]).run prog w2=.ok (cA.v) w3/\
 0<=(8:Int)/\
 J1 ((n0.fdiv (2 ^ 8)),cA,(IntKind.i64.wrap (n7+1))) w3) (
 xW9 R l5 ds w)
def xW0(R:Rt)(n0:Int)(l5:SV)(n6 n7:Int)(ds:Ds)(w:World):Prop:=
 zQA (λ(J1:(Int × SV × Int)->World->Prop) (s:Int × SV × Int) (w:World)=>xWD R J1 s.1 s.2.1 n6 s.2.2 ds w) (n0,l5,n7) w
def xV2(R:Rt)(n0 n1:Int)(ds:Ds)(w:World):Prop:=
 xW0 R n0 ⟨none,0,0⟩ n1 0 ds w
theorem F202_p:Pl prog f202 [iS 0,iS 1] xV2:=λR=>
 pc 3 (rest [iS 0,lS 5,iS 6,iS 7] (xW0 R) (bk 0 (rest [lS 5] (xW9 R) lf) (lp [iS 0,lS 5,iS 7] [iS 0,lS 5,iS 6,iS 7] (xWD R) zXI λJ1=>lf)))
theorem yKI (n0 n1:Int) (w:World) (R:Rt) (h:xV2 R n0 n1 [] w):Calls prog 202 #[.int .i64 n0,.int .i64 n1] w R:=
 plC F202_p func202 h
def xWi(R:Rt)(n0:Int)(ds:Ds)(w:World):Prop:=
 zQb prog ds w λw1=>
 R (.returned (.int .i64 (IntKind.i64.wrap ((13:Int)+(IntKind.i64.wrap ((16:Int) * n0)))))) w1
theorem F159_p:Pl prog f159 [iS 0] xWi:=λR=>
 lf
theorem yWl (n0:Int) (w:World) (R:Rt) (h:xWi R n0 [] w):Calls prog 159 #[.int .i64 n0] w R:=
 plC F159_p func159 h
end Go.Proofs.YtaeecpjhfmcliaaGreatDoor
/- Shallow texts of functions, printed by program, each checked by the kernel against the loaded code. No condition. -/
namespace Go.Proofs.YtaeecpjhfmcliaaGreatDoor
open Go.Sh Tryz
def xKi(R:Rt)(aw:Int)(ah ai:SV)(n1:Int)(ds:Ds)(w:World):Prop:=
 alE (.cells #[.int .i64 aw,ah.v,ai.v] 35) w λr2 w1=>
 ∃dG,w1.cell? ((⟨r2,0,none⟩:Addr).add 0)=some (.int .i64 dG)/\
 ∃bY:SV,w1.cell? ((⟨r2,0,none⟩:Addr).add 1)=some (bY.v)/\
 ∃bD:SV,w1.cell? ((⟨r2,0,none⟩:Addr).add 2)=some (bD.v)/\
 Calls prog 106 #[.agg #[.int .i64 dG,bY.v,bD.v]] w1 λe w2=>
 ∃n8:Int,e=.returned (.int .i64 n8)/\
 Br (n8 != 0) (
 zQb prog ds w2 λw3=>
 R (.returned (.tuple #[.slice none 0 0,.int .i64 n8])) w3) (
 Br (decide (n1<1)) (
 zQb prog ds w2 λw4=>
 R (.returned (.tuple #[.slice none 0 0,.int .i64 4])) w4) (
 ∃cN:SV,w2.cell? ((⟨r2,0,none⟩:Addr).add 2)=some (cN.v)/\
 Br (decide (n1 > (cN.len:Int))) (
 zQb prog ds w2 λw5=>
 R (.returned (.tuple #[.slice none 0 0,.int .i64 4])) w5) (
 dwE w2 λw6=>
 ∃dv:SV,w6.cell? ((⟨r2,0,none⟩:Addr).add 1)=some (dv.v)/\
 ∃bZ:SV,w6.cell? ((⟨r2,0,none⟩:Addr).add 2)=some (bZ.v)/\
 ∃a7,bZ.a=some a7/\0<=(IntKind.i64.wrap (n1 - 1))/\(IntKind.i64.wrap (n1 - 1))<(bZ.len:Int)/\
 ∃dJ,w6.cell? ((a7.add ((IntKind.i64.wrap (n1 - 1)).toNat * 2)).add 0)=some (.bool dJ)/\
 ∃bg:SV,w6.cell? ((a7.add ((IntKind.i64.wrap (n1 - 1)).toNat * 2)).add 1)=some (bg.v)/\
 Calls prog 158 #[dv.v,.agg #[.bool dJ,bg.v]] w6 λe w8=>
 ∃gx:SV,e=.returned (gx.v)/\
 zQb prog ds w8 λw9=>
 R (.returned (.tuple #[gx.v,.int .i64 0])) w9)))
theorem F144_p:Pl prog f144 [aS 0 [.int .i64,.slice,.slice],iS 1] xKi:=λR=>
 lf
theorem yKR (aw:Int) (ah ai:SV) (n1:Int) (w:World) (R:Rt) (h:xKi R aw ah ai n1 [] w):Calls prog 144 #[.agg #[.int .i64 aw,ah.v,ai.v],.int .i64 n1] w R:=
 plC F144_p func144 h
def xW8(R:Rt)(l5 l6:SV)(p7:Option Addr)(ds:Ds)(w:World):Prop:=
 ∃se:SV,∃w1,(Builtin.append_ #[22,22] 22 #[l5.v,l6.v]).run prog w=.ok (se.v) w1/\
 Calls prog 201 #[.pointer p7] w1 λe w2=>
 ∃s69:ByteArray,e=.returned (.string s69)/\
 ∃mI:SV,∃w3,(Builtin.append_ #[22,9] 22 #[se.v,.string s69]).run prog w2=.ok (mI.v) w3/\
 zQb prog ds w3 λw4=>
 R (.returned (mI.v)) w4
def xVu (R:Rt) (J1:(Int × Int)->World->Prop) (p3:Option Addr) (l5 l6:SV) (p7:Option Addr) (n8:Int) (dX:SV) (jO de:Int) (ds:Ds) (w:World):Prop:=
 Br (decide (de<jO)) (
 ∃a5,dX.a=some a5/\0<=de/\de<(dX.len:Int)/\
 ∃tU,w.cell? ((a5.add (de.toNat * 4)).add 0)=some (.string tU)/\
 ∃fp,w.cell? ((a5.add (de.toNat * 4)).add 1)=some (.int .i64 fp)/\
 ∃tV,w.cell? ((a5.add (de.toNat * 4)).add 2)=some (.int .i64 tV)/\
 ∃tW,w.cell? ((a5.add (de.toNat * 4)).add 3)=some (.bool tW)/\
 alE (.cells #[.string (⟨#[]⟩:ByteArray),.int .i64 0,.int .i64 0,.bool false] 129) w λdu w6=>
 stA prog 129 (⟨du,0,none⟩:Addr) #[.string tU,.int .i64 fp,.int .i64 tV,.bool tW] w6 λw7=>
 zQf p3 λa8=>
 ∃eu:SV,w7.cell? (a8.add 1)=some (eu.v)/\
 ∃a9,eu.a=some a9/\0<=de/\de<(eu.len:Int)/\
 ∃bC,w7.cell? ((a9.add (de.toNat * 3)).add 0)=some (.int .i64 bC)/\
 ∃gy,w7.cell? ((a9.add (de.toNat * 3)).add 1)=some (.int .i64 gy)/\
 ∃nu,w7.cell? ((a9.add (de.toNat * 3)).add 2)=some (.string nu)/\
 alE (.cells #[.int .i64 0,.int .i64 0,.string (⟨#[]⟩:ByteArray)] 73) w7 λcq aP=>
 stA prog 73 (⟨cq,0,none⟩:Addr) #[.int .i64 bC,.int .i64 gy,.string nu] aP λaU=>
 ∃b33,aU.cell? ((⟨du,0,none⟩:Addr).add 3)=some (.bool b33)/\
 Br b33 (
 ∃sQ,aU.cell? (⟨cq,0,none⟩:Addr)=some (.int .i64 sQ)/\
 Br (sQ == 0) (
 dwE aU λaQ=>
 IntKind.i64=IntKind.i64/\(8:Int) ≠ 0/\
 ∃kN,l6.a=some kN/\0<=(IntKind.i64.wrap (n8.tdiv 8))/\(IntKind.i64.wrap (n8.tdiv 8))<(l6.len:Int)/\
 ∃m4,aQ.cell? (kN.add ((IntKind.i64.wrap (n8.tdiv 8)).toNat * 1))=some (.int .u8 m4)/\
 IntKind.i64=IntKind.i64/\(8:Int) ≠ 0/\
 0<=(n8.tmod 8)/\
 ∃fY,l6.a=some fY/\0<=(IntKind.i64.wrap (n8.tdiv 8))/\(IntKind.i64.wrap (n8.tdiv 8))<(l6.len:Int)/\
 st1 (fY.add ((IntKind.i64.wrap (n8.tdiv 8)).toNat * 1)) (.int .u8 (IntKind.u8.wrap ((BitVec.ofInt 8 m4 ||| BitVec.ofInt 8 (IntKind.u8.wrap ((1:Int) * 2 ^ (min (n8.tmod 8).toNat 8)))).toNat:Nat))) aQ λbm=>
 ∃oC,bm.cell? (⟨cq,0,none⟩:Addr)=some (.int .i64 oC)/\
 Br (oC == 0) (
 ∃kP,bm.cell? ((⟨du,0,none⟩:Addr).add 2)=some (.int .i64 kP)/\
 Calls prog 155 #[.string (⟨#[32]⟩:ByteArray),.int .i64 kP] bm λe bF=>
 ∃oU:ByteArray,e=.returned (.string oU)/\
 Calls prog 199 #[.pointer p7,.string oU] bF λe bH=>
 ∃j3:Int,∃j4:Value,e=.returned (.tuple #[.int .i64 j3,j4])/\
 J1 ((IntKind.i64.wrap (n8+1)),(IntKind.i64.wrap (de+1))) bH) (
 dwE bm λbU=>
 ∃S2:World->Prop,S2 bU/\
 ∃qH,(∀w',S2 w'->w'.cell? ((⟨du,0,none⟩:Addr).add 1)=some (.int .i64 qH))/\
 ∃gz,(∀w',S2 w'->w'.cell? ((⟨du,0,none⟩:Addr).add 0)=some (.string gz))/\
 ∃gA,(∀w',S2 w'->w'.cell? ((⟨du,0,none⟩:Addr).add 1)=some (.int .i64 gA))/\
 ∃gB,(∀w',S2 w'->w'.cell? ((⟨du,0,none⟩:Addr).add 2)=some (.int .i64 gB))/\
 ∃gC,(∀w',S2 w'->w'.cell? ((⟨du,0,none⟩:Addr).add 3)=some (.bool gC))/\
 ∃dM,(∀w',S2 w'->w'.cell? ((⟨cq,0,none⟩:Addr).add 0)=some (.int .i64 dM))/\
 ∃gD,(∀w',S2 w'->w'.cell? ((⟨cq,0,none⟩:Addr).add 1)=some (.int .i64 gD))/\
 ∃gE,(∀w',S2 w'->w'.cell? ((⟨cq,0,none⟩:Addr).add 2)=some (.string gE))/\
 Calls prog 145 #[] bU λe cM=>
 ∃qI:Option Nat,e=.returned (.map qI)/\
 ∃S3:World->Prop,S3 cM/\(∀u,S3 u->S2 u)/\
 ∃j5:Int,∃iu:Int,∃iv:Int,∃gF:Value,∃j6:Value,(∀w',S3 w'->(Instr.lookup 176 (.map qI) (.int .i64 qH) false).run prog w'=.ok (.agg #[.int .u8 j5,.int .i64 iu,.int .i64 iv,gF,j6]) w')/\
 fnE gF λf63 first63 j7=>
 zQ5 prog f63=true/\Calls prog f63 (first63.toList ++ (([.agg #[.string gz,.int .i64 gA,.int .i64 gB,.bool gC],.agg #[.int .i64 dM,.int .i64 gD,.string gE]]:List Value) ++ j7.toList)).toArray cM λe bT=>
 ∃qJ:ByteArray,e=.returned (.string qJ)/\
 Calls prog 199 #[.pointer p7,.string qJ] bT λe bX=>
 ∃j8:Int,∃j9:Value,e=.returned (.tuple #[.int .i64 j8,j9])/\
 J1 ((IntKind.i64.wrap (n8+1)),(IntKind.i64.wrap (de+1))) bX)) (
 ∃oC,aU.cell? (⟨cq,0,none⟩:Addr)=some (.int .i64 oC)/\
 Br (oC == 0) (
 ∃kP,aU.cell? ((⟨du,0,none⟩:Addr).add 2)=some (.int .i64 kP)/\
 Calls prog 155 #[.string (⟨#[32]⟩:ByteArray),.int .i64 kP] aU λe df=>
 ∃oU:ByteArray,e=.returned (.string oU)/\
 Calls prog 199 #[.pointer p7,.string oU] df λe dU=>
 ∃j3:Int,∃j4:Value,e=.returned (.tuple #[.int .i64 j3,j4])/\
 J1 ((IntKind.i64.wrap (n8+1)),(IntKind.i64.wrap (de+1))) dU) (
 dwE aU λdw=>
 ∃S4:World->Prop,S4 dw/\
 ∃qH,(∀w',S4 w'->w'.cell? ((⟨du,0,none⟩:Addr).add 1)=some (.int .i64 qH))/\
 ∃gz,(∀w',S4 w'->w'.cell? ((⟨du,0,none⟩:Addr).add 0)=some (.string gz))/\
 ∃gA,(∀w',S4 w'->w'.cell? ((⟨du,0,none⟩:Addr).add 1)=some (.int .i64 gA))/\
 ∃gB,(∀w',S4 w'->w'.cell? ((⟨du,0,none⟩:Addr).add 2)=some (.int .i64 gB))/\
 ∃gC,(∀w',S4 w'->w'.cell? ((⟨du,0,none⟩:Addr).add 3)=some (.bool gC))/\
 ∃dM,(∀w',S4 w'->w'.cell? ((⟨cq,0,none⟩:Addr).add 0)=some (.int .i64 dM))/\
 ∃gD,(∀w',S4 w'->w'.cell? ((⟨cq,0,none⟩:Addr).add 1)=some (.int .i64 gD))/\
 ∃gE,(∀w',S4 w'->w'.cell? ((⟨cq,0,none⟩:Addr).add 2)=some (.string gE))/\
 Calls prog 145 #[] dw λe dH=>
 ∃qI:Option Nat,e=.returned (.map qI)/\
 ∃S5:World->Prop,S5 dH/\(∀u,S5 u->S4 u)/\
 ∃j5:Int,∃iu:Int,∃iv:Int,∃gF:Value,∃j6:Value,(∀w',S5 w'->(Instr.lookup 176 (.map qI) (.int .i64 qH) false).run prog w'=.ok (.agg #[.int .u8 j5,.int .i64 iu,.int .i64 iv,gF,j6]) w')/\
 fnE gF λf63 first63 j7=>
 zQ5 prog f63=true/\Calls prog f63 (first63.toList ++ (([.agg #[.string gz,.int .i64 gA,.int .i64 gB,.bool gC],.agg #[.int .i64 dM,.int .i64 gD,.string gE]]:List Value) ++ j7.toList)).toArray dH λe fj=>
 ∃qJ:ByteArray,e=.returned (.string qJ)/\
 Calls prog 199 #[.pointer p7,.string qJ] fj λe iq=>
 ∃j8:Int,∃j9:Value,e=.returned (.tuple #[.int .i64 j8,j9])/\
 J1 ((IntKind.i64.wrap (n8+1)),(IntKind.i64.wrap (de+1))) iq))) (
 ∃oC,aU.cell? (⟨cq,0,none⟩:Addr)=some (.int .i64 oC)/\
 Br (oC == 0) (
 ∃kP,aU.cell? ((⟨du,0,none⟩:Addr).add 2)=some (.int .i64 kP)/\
 Calls prog 155 #[.string (⟨#[32]⟩:ByteArray),.int .i64 kP] aU λe eg=>
 ∃oU:ByteArray,e=.returned (.string oU)/\
 Calls prog 199 #[.pointer p7,.string oU] eg λe fm=>
 ∃j3:Int,∃j4:Value,e=.returned (.tuple #[.int .i64 j3,j4])/\
 J1 (n8,(IntKind.i64.wrap (de+1))) fm) (
 dwE aU λir=>
 ∃S6:World->Prop,S6 ir/\
 ∃qH,(∀w',S6 w'->w'.cell? ((⟨du,0,none⟩:Addr).add 1)=some (.int .i64 qH))/\
 ∃gz,(∀w',S6 w'->w'.cell? ((⟨du,0,none⟩:Addr).add 0)=some (.string gz))/\
 ∃gA,(∀w',S6 w'->w'.cell? ((⟨du,0,none⟩:Addr).add 1)=some (.int .i64 gA))/\
 ∃gB,(∀w',S6 w'->w'.cell? ((⟨du,0,none⟩:Addr).add 2)=some (.int .i64 gB))/\
 ∃gC,(∀w',S6 w'->w'.cell? ((⟨du,0,none⟩:Addr).add 3)=some (.bool gC))/\
 ∃dM,(∀w',S6 w'->w'.cell? ((⟨cq,0,none⟩:Addr).add 0)=some (.int .i64 dM))/\
 ∃gD,(∀w',S6 w'->w'.cell? ((⟨cq,0,none⟩:Addr).add 1)=some (.int .i64 gD))/\
 ∃gE,(∀w',S6 w'->w'.cell? ((⟨cq,0,none⟩:Addr).add 2)=some (.string gE))/\
 Calls prog 145 #[] ir λe gu=>
 ∃qI:Option Nat,e=.returned (.map qI)/\
 ∃S7:World->Prop,S7 gu/\(∀u,S7 u->S6 u)/\
 ∃j5:Int,∃iu:Int,∃iv:Int,∃gF:Value,∃j6:Value,(∀w',S7 w'->(Instr.lookup 176 (.map qI) (.int .i64 qH) false).run prog w'=.ok (.agg #[.int .u8 j5,.int .i64 iu,.int .i64 iv,gF,j6]) w')/\
 fnE gF λf63 first63 j7=>
 zQ5 prog f63=true/\Calls prog f63 (first63.toList ++ (([.agg #[.string gz,.int .i64 gA,.int .i64 gB,.bool gC],.agg #[.int .i64 dM,.int .i64 gD,.string gE]]:List Value) ++ j7.toList)).toArray gu λe gd=>
 ∃qJ:ByteArray,e=.returned (.string qJ)/\
 Calls prog 199 #[.pointer p7,.string qJ] gd λe fU=>
 ∃j8:Int,∃j9:Value,e=.returned (.tuple #[.int .i64 j8,j9])/\
 J1 (n8,(IntKind.i64.wrap (de+1))) fU))) (
 xW8 R l5 l6 p7 ds w)
def yJV(R:Rt)(p3:Option Addr)(l5 l6:SV)(p7:Option Addr)(n8:Int)(dX:SV)(jO de:Int)(ds:Ds)(w:World):Prop:=
 zQA (λ(J1:(Int × Int)->World->Prop) (s:Int × Int) (w:World)=>xVu R J1 p3 l5 l6 p7 s.1 dX jO s.2 ds w) (n8,de) w
def xVi(R:Rt)(l0:SV)(eD:Bool)(aZ:SV)(ds:Ds)(w:World):Prop:=
 alE (.cells #[.bool eD,aZ.v] 67) w λr3 fV=>
 alE (.cells #[.int .u8 32] 5) fV λpF iT=>
 ∃iy,iT.cell? (⟨r3,0,none⟩:Addr)=some (.bool iy)/\
 Br iy (
 ∃pW:Addr,(some ⟨pF,0,none⟩)=some pW/\0<=(0:Int)/\(0:Int)<(1:Int)/\
 st1 (pW.add ((0:Int).toNat * 1)) (.int .u8 42) iT λnn=>
 Calls prog 203 #[l0.v] nn λe na=>
 ∃iC:Int,e=.returned (.int .i64 iC)/\
 ∃cH:SV,∃jU,(Instr.makeSlice 22 (.int .i64 iC) (.int .i64 iC)).run prog na=.ok (cH.v) jU/\
 alE (.cells #[.pointer none,.slice none 0 0] 220) jU λr7 qG=>
 yJV R (some (⟨r3,0,none⟩:Addr)) ⟨(some ⟨pF,0,none⟩),1,1⟩ cH (some (⟨r7,0,none⟩:Addr)) 0 l0 (l0.len:Int) 0 ds qG) (
 Calls prog 203 #[l0.v] iT λe qd=>
 ∃iC:Int,e=.returned (.int .i64 iC)/\
 ∃cH:SV,∃wo,(Instr.makeSlice 22 (.int .i64 iC) (.int .i64 iC)).run prog qd=.ok (cH.v) wo/\
 alE (.cells #[.pointer none,.slice none 0 0] 220) wo λr7 oV=>
 yJV R (some (⟨r3,0,none⟩:Addr)) ⟨(some ⟨pF,0,none⟩),1,1⟩ cH (some (⟨r7,0,none⟩:Addr)) 0 l0 (l0.len:Int) 0 ds oV)
theorem F158_p:Pl prog f158 [lS 0,aS 1 [.bool,.slice]] xVi:=λR=>
 pc 8 (rest [pS 3,lS 5,lS 6,pS 7,iS 8,lS 20,iS 21,iS 22] (yJV R) (bk 0 (rest [lS 5,lS 6,pS 7] (xW8 R) lf) (lp [iS 8,iS 22] [pS 3,lS 5,lS 6,pS 7,iS 8,lS 20,iS 21,iS 22] (xVu R) zXI λJ1=>lf)))
theorem yV5 (l0:SV) (eD:Bool) (aZ:SV) (w:World) (R:Rt) (h:xVi R l0 eD aZ [] w):Calls prog 158 #[l0.v,.agg #[.bool eD,aZ.v]] w R:=
 plC F158_p func158 h
def xJ8(R:Rt)(aW:ByteArray)(aI aX:Int)(aY:Bool)(bp cr:Int)(dp:ByteArray)(ds:Ds)(w:World):Prop:=
 alE (.cells #[.string aW,.int .i64 aI,.int .i64 aX,.bool aY] 129) w λr2 w1=>
 alE (.cells #[.int .i64 bp,.int .i64 cr,.string dp] 73) w1 λr3 w2=>
 dwE w2 λw3=>
 ∃S1:World->Prop,S1 w3/\
 ∃s6,(∀w',S1 w'->w'.cell? ((⟨r3,0,none⟩:Addr).add 2)=some (.string s6))/\
 ∃n8,(∀w',S1 w'->w'.cell? ((⟨r2,0,none⟩:Addr).add 2)=some (.int .i64 n8))/\
 ∃tX,(∀w',S1 w'->w'.cell? ((⟨r3,0,none⟩:Addr).add 2)=some (.string tX))/\
 Calls prog 155 #[.string (⟨#[32]⟩:ByteArray),.int .i64 (IntKind.i64.wrap (n8 - (tX.size:Int)))] w3 λe w4=>
 ∃qe:ByteArray,e=.returned (.string qe)/\
 S1 w4/\
 ((s6.size+qe.size:Nat):Int)<=9223372036854775807/\
 zQb prog ds w4 λw5=>
 R (.returned (.string (s6 ++ qe))) w5
theorem F186_p:Pl prog f186 [aS 0 [.str,.int .i64,.int .i64,.bool],aS 1 [.int .i64,.int .i64,.str]] xJ8:=λR=>
 lf
theorem yWK (aW:ByteArray) (aI aX:Int) (aY:Bool) (bp cr:Int) (dp:ByteArray) (w:World) (R:Rt) (h:xJ8 R aW aI aX aY bp cr dp [] w):Calls prog 186 #[.agg #[.string aW,.int .i64 aI,.int .i64 aX,.bool aY],.agg #[.int .i64 bp,.int .i64 cr,.string dp]] w R:=
 plC F186_p func186 h
end Go.Proofs.YtaeecpjhfmcliaaGreatDoor
/- Shallow texts of functions, printed by program, each checked by the kernel against the loaded code. No condition. -/
namespace Go.Proofs.YtaeecpjhfmcliaaGreatDoor
open Go.Sh Tryz
def xVD(R:Rt)(p0:Option Addr)(ds:Ds)(w:World):Prop:=
 dwE w λw1=>
 ∃S1:World->Prop,S1 w1/\
 zQf p0 λa2=>
 ∃l6:SV,(∀w',S1 w'->w'.cell? (a2.add 1)=some (l6.v))/\
 zQf p0 λa3=>
 ∃dV:SV,(∀w',S1 w'->w'.cell? (a3.add 1)=some (dV.v))/\
 ∃p7:Option Addr,∃w4,(Builtin.unsafeSliceData_ #[22] 243 #[l6.v]).run prog w1=.ok (.pointer p7) w4/\
 S1 w4/\
 ∃qe:ByteArray,∃w5,(Builtin.unsafeString_ #[243,3] 9 #[.pointer p7,.int .i64 (dV.len:Int)]).run prog w4=.ok (.string qe) w5/\
 zQb prog ds w5 λw6=>
 R (.returned (.string qe)) w6
theorem F201_p:Pl prog f201 [pS 0] xVD:=λR=>
 lf
theorem yWT (p0:Option Addr) (w:World) (R:Rt) (h:xVD R p0 [] w):Calls prog 201 #[.pointer p0] w R:=
 plC F201_p func201 h
end Go.Proofs.YtaeecpjhfmcliaaGreatDoor
/- Shallow texts of functions, printed by program, each checked by the kernel against the loaded code. No condition. -/
namespace Go.Proofs.YtaeecpjhfmcliaaGreatDoor
open Go.Sh Tryz
def xKK(R:Rt)(aw aI:Int)(fX:ByteArray)(bp cr:Int)(dp:ByteArray)(ds:Ds)(w:World):Prop:=
 alE (.cells #[.int .i64 aw,.int .i64 aI,.string fX] 73) w λr2 w1=>
 alE (.cells #[.int .i64 bp,.int .i64 cr,.string dp] 73) w1 λr3 w2=>
 ∃n6,w2.cell? (⟨r2,0,none⟩:Addr)=some (.int .i64 n6)/\
 ∃n8,w2.cell? (⟨r3,0,none⟩:Addr)=some (.int .i64 n8)/\
 Br (n6 == n8) (
 ∃dz,w2.cell? ((⟨r2,0,none⟩:Addr).add 1)=some (.int .i64 dz)/\
 ∃mG,w2.cell? ((⟨r3,0,none⟩:Addr).add 1)=some (.int .i64 mG)/\
 Br (dz == mG) (
 ∃m7,w2.cell? ((⟨r2,0,none⟩:Addr).add 2)=some (.string m7)/\
 ∃s21,w2.cell? ((⟨r3,0,none⟩:Addr).add 2)=some (.string s21)/\
 zQb prog ds w2 λw3=>
 R (.returned (.bool (m7.toList == s21.toList))) w3) (
 zQb prog ds w2 λw4=>
 R (.returned (.bool false)) w4)) (
 zQb prog ds w2 λw5=>
 R (.returned (.bool false)) w5)
theorem F140_p:Pl prog f140 [aS 0 [.int .i64,.int .i64,.str],aS 1 [.int .i64,.int .i64,.str]] xKK:=λR=>
 lf
theorem yWF (aw aI:Int) (fX:ByteArray) (bp cr:Int) (dp:ByteArray) (w:World) (R:Rt) (h:xKK R aw aI fX bp cr dp [] w):Calls prog 140 #[.agg #[.int .i64 aw,.int .i64 aI,.string fX],.agg #[.int .i64 bp,.int .i64 cr,.string dp]] w R:=
 plC F140_p func140 h
end Go.Proofs.YtaeecpjhfmcliaaGreatDoor
/- Shallow texts of functions, printed by program, each checked by the kernel against the loaded code. No condition. -/
namespace Go.Proofs.YtaeecpjhfmcliaaGreatDoor
open Go.Sh Tryz
def xWT(R:Rt)(l0:SV)(ds:Ds)(w:World):Prop:=
 Calls prog 141 #[l0.v] w λe w1=>
 ∃n6:Int,e=.returned (.int .i64 n6)/\
 Br (n6 != 0) (
 zQb prog ds w1 λw2=>
 R (.returned (.tuple #[.int .i64 0,.int .i64 n6])) w2) (
 Calls prog 161 #[l0.v] w1 λe w3=>
 ∃dx:Int,e=.returned (.int .i64 dx)/\
 zQb prog ds w3 λw4=>
 R (.returned (.tuple #[.int .i64 dx,.int .i64 0])) w4)
theorem F128_p:Pl prog f128 [lS 0] xWT:=λR=>
 lf
theorem yV9 (l0:SV) (w:World) (R:Rt) (h:xWT R l0 [] w):Calls prog 128 #[l0.v] w R:=
 plC F128_p func128 h
def F24_1(R:Rt)(ds:Ds)(w:World):Prop:=
 zQb prog ds w λw1=>
 R (.returned (.bool true)) w1
def F24_2 (R:Rt) (J1:(Int)->World->Prop) (l0 l1:SV) (n5:Int) (ds:Ds) (w:World):Prop:=
 Br (decide (n5<(l0.len:Int))) (
 dwE w λw2=>
 ∃a3,l0.a=some a3/\0<=n5/\n5<(l0.len:Int)/\
 ∃jh,w2.cell? (a3.add (n5.toNat * 1))=some (.int .i64 jh)/\
 ∃a4,l1.a=some a4/\0<=n5/\n5<(l1.len:Int)/\
 ∃om,w2.cell? (a4.add (n5.toNat * 1))=some (.int .i64 om)/\
 Br (jh != om) (
 zQb prog ds w2 λw5=>
 R (.returned (.bool false)) w5) (
 J1 (IntKind.i64.wrap (n5+1)) w2)) (
 F24_1 R ds w)
def F24_3(R:Rt)(l0 l1:SV)(n5:Int)(ds:Ds)(w:World):Prop:=
 zQA (λ(J1:(Int)->World->Prop) (s:Int) (w:World)=>F24_2 R J1 l0 l1 s ds w) n5 w
def F24_5(R:Rt)(l0 l1:SV)(ds:Ds)(w:World):Prop:=
 Br ((l0.len:Int) != (l1.len:Int)) (
 zQb prog ds w λw6=>
 R (.returned (.bool false)) w6) (
 F24_3 R l0 l1 0 ds w)
theorem F24_p:Pl prog f24 [lS 0,lS 1] F24_5:=λR=>
 pc 4 (rest [lS 0,lS 1,iS 5] (F24_3 R) (bk 0 (rest [] (F24_1 R) lf) (lp [iS 5] [lS 0,lS 1,iS 5] (F24_2 R) zXI λJ1=>lf)))
theorem yY6 (l0 l1:SV) (w:World) (R:Rt) (h:F24_5 R l0 l1 [] w):Calls prog 24 #[l0.v,l1.v] w R:=
 plC F24_p func24 h
end Go.Proofs.YtaeecpjhfmcliaaGreatDoor
/- Shallow texts of functions, printed by program, each checked by the kernel against the loaded code. No condition. -/
namespace Go.Proofs.YtaeecpjhfmcliaaGreatDoor
open Go.Sh Tryz
def F57_1(R:Rt)(n3:Int)(ds:Ds)(w:World):Prop:=
 zQb prog ds w λw1=>
 R (.returned (.int .i64 n3)) w1
def F57_2 (R:Rt) (J1:(Int × Int)->World->Prop) (p1:Option Addr) (n3 n5:Int) (ds:Ds) (w:World):Prop:=
 zQf p1 λa2=>
 ∃eu:SV,w.cell? (a2.add 2)=some (eu.v)/\
 Br (decide (n5<(eu.len:Int))) (
 zQf p1 λa3=>
 ∃gf:SV,w.cell? (a3.add 2)=some (gf.v)/\
 ∃a4,gf.a=some a4/\0<=n5/\n5<(gf.len:Int)/\
 ∃iE:SV,w.cell? ((a4.add (n5.toNat * 2)).add 1)=some (iE.v)/\
 Calls prog 58 #[iE.v] w λe w5=>
 ∃gG:Int,e=.returned (.int .i64 gG)/\
 J1 ((IntKind.i64.wrap (n3+(IntKind.i64.wrap ((8:Int)+gG)))),(IntKind.i64.wrap (n5+1))) w5) (
 F57_1 R n3 ds w)
def F57_3(R:Rt)(p1:Option Addr)(n3 n5:Int)(ds:Ds)(w:World):Prop:=
 zQA (λ(J1:(Int × Int)->World->Prop) (s:Int × Int) (w:World)=>F57_2 R J1 p1 s.1 s.2 ds w) (n3,n5) w
def F57_5(R:Rt)(p1:Option Addr)(n3:Int)(ds:Ds)(w:World):Prop:=
 F57_3 R p1 n3 0 ds w
def F57_6 (R:Rt) (J1:(Int × Int)->World->Prop) (p1:Option Addr) (n3 n4:Int) (ds:Ds) (w:World):Prop:=
 zQf p1 λa6=>
 ∃eI:SV,w.cell? (a6.add 1)=some (eI.v)/\
 Br (decide (n4<(eI.len:Int))) (
 zQf p1 λa7=>
 ∃cH:SV,w.cell? (a7.add 1)=some (cH.v)/\
 ∃a8,cH.a=some a8/\0<=n4/\n4<(cH.len:Int)/\
 ∃s23,w.cell? (a8.add (n4.toNat * 4))=some (.string s23)/\
 J1 ((IntKind.i64.wrap (n3+(s23.size:Int))),(IntKind.i64.wrap (n4+1))) w) (
 F57_5 R p1 n3 ds w)
def F57_7(R:Rt)(p1:Option Addr)(n3 n4:Int)(ds:Ds)(w:World):Prop:=
 zQA (λ(J1:(Int × Int)->World->Prop) (s:Int × Int) (w:World)=>F57_6 R J1 p1 s.1 s.2 ds w) (n3,n4) w
def F57_9(R:Rt)(aw:Int)(ah ai:SV)(ds:Ds)(w:World):Prop:=
 alE (.cells #[.int .i64 aw,ah.v,ai.v] 35) w λr1 w9=>
 ∃l7:SV,w9.cell? ((⟨r1,0,none⟩:Addr).add 1)=some (l7.v)/\
 F57_7 R (some (⟨r1,0,none⟩:Addr)) (IntKind.i64.wrap ((16:Int) * (l7.len:Int))) 0 ds w9
theorem F57_p:Pl prog f57 [aS 0 [.int .i64,.slice,.slice]] F57_9:=λR=>
 pc 3 (rest [pS 1,iS 3,iS 4] (F57_7 R) (bk 0 (rest [pS 1,iS 3] (F57_5 R) (pc 1 (rest [pS 1,iS 3,iS 5] (F57_3 R) (bk 2 (rest [iS 3] (F57_1 R) lf) (lp [iS 3,iS 5] [pS 1,iS 3,iS 5] (F57_2 R) zXI λJ1=>lf))))) (lp [iS 3,iS 4] [pS 1,iS 3,iS 4] (F57_6 R) zXI λJ1=>lf)))
theorem xQK (aw:Int) (ah ai:SV) (w:World) (R:Rt) (h:F57_9 R aw ah ai [] w):Calls prog 57 #[.agg #[.int .i64 aw,ah.v,ai.v]] w R:=
 plC F57_p func57 h
def F58_1(R:Rt)(n3:Int)(ds:Ds)(w:World):Prop:=
 zQb prog ds w λw1=>
 R (.returned (.int .i64 n3)) w1
def F58_2 (R:Rt) (J1:(Int × Int)->World->Prop) (l0:SV) (n3 n4:Int) (ds:Ds) (w:World):Prop:=
 Br (decide (n4<(l0.len:Int))) (
 ∃a2,l0.a=some a2/\0<=n4/\n4<(l0.len:Int)/\
 ∃m7,w.cell? ((a2.add (n4.toNat * 3)).add 2)=some (.string m7)/\
 J1 ((IntKind.i64.wrap (n3+(m7.size:Int))),(IntKind.i64.wrap (n4+1))) w) (
 F58_1 R n3 ds w)
def F58_3(R:Rt)(l0:SV)(n3 n4:Int)(ds:Ds)(w:World):Prop:=
 zQA (λ(J1:(Int × Int)->World->Prop) (s:Int × Int) (w:World)=>F58_2 R J1 l0 s.1 s.2 ds w) (n3,n4) w
def F58_5(R:Rt)(l0:SV)(ds:Ds)(w:World):Prop:=
 F58_3 R l0 (IntKind.i64.wrap ((8:Int) * (l0.len:Int))) 0 ds w
theorem F58_p:Pl prog f58 [lS 0] F58_5:=λR=>
 pc 3 (rest [lS 0,iS 3,iS 4] (F58_3 R) (bk 0 (rest [iS 3] (F58_1 R) lf) (lp [iS 3,iS 4] [lS 0,iS 3,iS 4] (F58_2 R) zXI λJ1=>lf)))
theorem yYo (l0:SV) (w:World) (R:Rt) (h:F58_5 R l0 [] w):Calls prog 58 #[l0.v] w R:=
 plC F58_p func58 h
end Go.Proofs.YtaeecpjhfmcliaaGreatDoor
/- Shallow texts of functions, printed by program, each checked by the kernel against the loaded code. No condition. -/
namespace Go.Proofs.YtaeecpjhfmcliaaGreatDoor
open Go.Sh Tryz
def xVt(R:Rt)(p2 p5:Option Addr)(ds:Ds)(w:World):Prop:=
 zQf p5 λa1=>
 ∃dJ,w.cell? (a1.add 0)=some (.bool dJ)/\
 ∃bg:SV,w.cell? (a1.add 1)=some (bg.v)/\
 zQf p2 λa2=>
 stA prog 67 a2 #[.bool dJ,bg.v] w λw3=>
 zQb prog ds w3 λw4=>
 zQf p2 λa5=>
 ∃bJ,w4.cell? (a5.add 0)=some (.bool bJ)/\
 ∃ab:SV,w4.cell? (a5.add 1)=some (ab.v)/\
 R (.returned (.tuple #[.agg #[.bool bJ,ab.v],.int .i64 0])) w4
def xK8 (R:Rt) (J1:(Int)->World->Prop) (p2 p5:Option Addr) (bV:SV) (kB n16:Int) (ds:Ds) (w:World):Prop:=
 Br (decide (n16<kB)) (
 ∃a6,bV.a=some a6/\0<=n16/\n16<(bV.len:Int)/\
 ∃jv,w.cell? ((a6.add (n16.toNat * 4)).add 0)=some (.string jv)/\
 ∃co,w.cell? ((a6.add (n16.toNat * 4)).add 1)=some (.int .i64 co)/\
 ∃jw,w.cell? ((a6.add (n16.toNat * 4)).add 2)=some (.int .i64 jw)/\
 ∃jx,w.cell? ((a6.add (n16.toNat * 4)).add 3)=some (.bool jx)/\
 alE (.cells #[.string (⟨#[]⟩:ByteArray),.int .i64 0,.int .i64 0,.bool false] 129) w λr7 w7=>
 stA prog 129 (⟨r7,0,none⟩:Addr) #[.string jv,.int .i64 co,.int .i64 jw,.bool jx] w7 λw8=>
 dwE w8 λw9=>
 ∃S1:World->Prop,S1 w9/\
 zQf p5 λdy=>
 ∃cz:SV,(∀w',S1 w'->w'.cell? (dy.add 1)=some (cz.v))/\
 ∃tY,(∀w',S1 w'->w'.cell? ((⟨r7,0,none⟩:Addr).add 0)=some (.string tY))/\
 ∃o7,(∀w',S1 w'->w'.cell? ((⟨r7,0,none⟩:Addr).add 1)=some (.int .i64 o7))/\
 ∃tZ,(∀w',S1 w'->w'.cell? ((⟨r7,0,none⟩:Addr).add 2)=some (.int .i64 tZ))/\
 ∃t6,(∀w',S1 w'->w'.cell? ((⟨r7,0,none⟩:Addr).add 3)=some (.bool t6))/\
 Calls prog 118 #[.agg #[.string tY,.int .i64 o7,.int .i64 tZ,.bool t6]] w9 λe aU=>
 ∃nw:Int,∃d8:Int,∃nx:ByteArray,e=.returned (.agg #[.int .i64 nw,.int .i64 d8,.string nx])/\
 S1 aU/\
 alE (.cells #[.int .i64 nw,.int .i64 d8,.string nx] 73) aU λr24 aQ=>
 S1 aQ/\
 ∃eb:SV,∃aJ,(Builtin.append_ #[38,38] 38 #[cz.v,.slice (some ⟨r24,0,none⟩) 1 1]).run prog aQ=.ok (eb.v) aJ/\
 zQf p5 λfY=>
 st1 (fY.add 1) (eb.v) aJ λbm=>
 J1 (IntKind.i64.wrap (n16+1)) bm) (
 xVt R p2 p5 ds w)
def xVT(R:Rt)(p2 p5:Option Addr)(bV:SV)(kB n16:Int)(ds:Ds)(w:World):Prop:=
 zQA (λ(J1:(Int)->World->Prop) (s:Int) (w:World)=>xK8 R J1 p2 p5 bV kB s ds w) n16 w
def xJT(R:Rt)(l0:SV)(ds:Ds)(w:World):Prop:=
 alE (.cells #[.bool false,.slice none 0 0] 67) w λr2 bF=>
 Calls prog 141 #[l0.v] bF λe bH=>
 ∃n9:Int,e=.returned (.int .i64 n9)/\
 Br (n9 != 0) (
 stA prog 67 (⟨r2,0,none⟩:Addr) #[.bool false,.slice none 0 0] bH λbU=>
 zQb prog ds bU λcM=>
 ∃bJ,cM.cell? ((⟨r2,0,none⟩:Addr).add 0)=some (.bool bJ)/\
 ∃ab:SV,cM.cell? ((⟨r2,0,none⟩:Addr).add 1)=some (ab.v)/\
 R (.returned (.tuple #[.agg #[.bool bJ,ab.v],.int .i64 n9])) cM) (
 alE (.cells #[.bool false,.slice none 0 0] 67) bH λr5 bT=>
 xVT R (some (⟨r2,0,none⟩:Addr)) (some (⟨r5,0,none⟩:Addr)) l0 (l0.len:Int) 0 ds bT)
theorem F164_p:Pl prog f164 [lS 0] xJT:=λR=>
 pc 6 (rest [pS 2,pS 5,lS 14,iS 15,iS 16] (xVT R) (bk 0 (rest [pS 2,pS 5] (xVt R) lf) (lp [iS 16] [pS 2,pS 5,lS 14,iS 15,iS 16] (xK8 R) zXI λJ1=>lf)))
theorem yWH (l0:SV) (w:World) (R:Rt) (h:xJT R l0 [] w):Calls prog 164 #[l0.v] w R:=
 plC F164_p func164 h
def F70_1(R:Rt)(mJ:Bool)(ah:SV)(eD:Bool)(aZ:SV)(ds:Ds)(w:World):Prop:=
 alE (.cells #[.bool mJ,ah.v] 67) w λr2 w1=>
 alE (.cells #[.bool eD,aZ.v] 67) w1 λr3 w2=>
 ∃b6,w2.cell? (⟨r2,0,none⟩:Addr)=some (.bool b6)/\
 ∃b8,w2.cell? (⟨r3,0,none⟩:Addr)=some (.bool b8)/\
 Br (b6 == b8) (
 ∃eI:SV,w2.cell? ((⟨r2,0,none⟩:Addr).add 1)=some (eI.v)/\
 ∃bV:SV,w2.cell? ((⟨r3,0,none⟩:Addr).add 1)=some (bV.v)/\
 Calls prog 105 #[eI.v,bV.v] w2 λe w3=>
 ∃iN:Bool,e=.returned (.bool iN)/\
 zQb prog ds w3 λw4=>
 R (.returned (.bool iN)) w4) (
 zQb prog ds w2 λw5=>
 R (.returned (.bool false)) w5)
theorem F70_p:Pl prog f70 [aS 0 [.bool,.slice],aS 1 [.bool,.slice]] F70_1:=λR=>
 lf
theorem xQ8 (mJ:Bool) (ah:SV) (eD:Bool) (aZ:SV) (w:World) (R:Rt) (h:F70_1 R mJ ah eD aZ [] w):Calls prog 70 #[.agg #[.bool mJ,ah.v],.agg #[.bool eD,aZ.v]] w R:=
 plC F70_p func70 h
def xJK(R:Rt)(ds:Ds)(w:World):Prop:=
 zQb prog ds w λw1=>
 R (.returned (.bool true)) w1
def xWF (R:Rt) (J1:(Int)->World->Prop) (l0 l1:SV) (n5:Int) (ds:Ds) (w:World):Prop:=
 Br (decide (n5<(l0.len:Int))) (
 dwE w λw2=>
 ∃a3,l0.a=some a3/\0<=n5/\n5<(l0.len:Int)/\
 ∃gl,w2.cell? ((a3.add (n5.toNat * 3)).add 0)=some (.int .i64 gl)/\
 ∃eM,w2.cell? ((a3.add (n5.toNat * 3)).add 1)=some (.int .i64 eM)/\
 ∃gm,w2.cell? ((a3.add (n5.toNat * 3)).add 2)=some (.string gm)/\
 ∃a4,l1.a=some a4/\0<=n5/\n5<(l1.len:Int)/\
 ∃gH,w2.cell? ((a4.add (n5.toNat * 3)).add 0)=some (.int .i64 gH)/\
 ∃jp,w2.cell? ((a4.add (n5.toNat * 3)).add 1)=some (.int .i64 jp)/\
 ∃t7,w2.cell? ((a4.add (n5.toNat * 3)).add 2)=some (.string t7)/\
 Calls prog 140 #[.agg #[.int .i64 gl,.int .i64 eM,.string gm],.agg #[.int .i64 gH,.int .i64 jp,.string t7]] w2 λe w5=>
 ∃qg:Bool,e=.returned (.bool qg)/\
 Br (!qg) (
 zQb prog ds w5 λw6=>
 R (.returned (.bool false)) w6) (
 J1 (IntKind.i64.wrap (n5+1)) w5)) (
 xJK R ds w)
def xVy(R:Rt)(l0 l1:SV)(n5:Int)(ds:Ds)(w:World):Prop:=
 zQA (λ(J1:(Int)->World->Prop) (s:Int) (w:World)=>xWF R J1 l0 l1 s ds w) n5 w
def xJX(R:Rt)(l0 l1:SV)(ds:Ds)(w:World):Prop:=
 Br ((l0.len:Int) != (l1.len:Int)) (
 zQb prog ds w λw7=>
 R (.returned (.bool false)) w7) (
 xVy R l0 l1 0 ds w)
theorem F105_p:Pl prog f105 [lS 0,lS 1] xJX:=λR=>
 pc 4 (rest [lS 0,lS 1,iS 5] (xVy R) (bk 0 (rest [] (xJK R) lf) (lp [iS 5] [lS 0,lS 1,iS 5] (xWF R) zXI λJ1=>lf)))
theorem yWs (l0 l1:SV) (w:World) (R:Rt) (h:xJX R l0 l1 [] w):Calls prog 105 #[l0.v,l1.v] w R:=
 plC F105_p func105 h
end Go.Proofs.YtaeecpjhfmcliaaGreatDoor
/- Shallow texts of functions, printed by program, each checked by the kernel against the loaded code. No condition. -/
namespace Go.Proofs.YtaeecpjhfmcliaaGreatDoor
open Go.Sh Tryz
def F45_1(R:Rt)(n0:Int)(ds:Ds)(w:World):Prop:=
 alE (.cells #[.int .i64 0,.int .i64 0,.string (⟨#[]⟩:ByteArray)] 73) w λr2 w1=>
 stA prog 73 (⟨r2,0,none⟩:Addr) #[.int .i64 2,.int .i64 n0,.string (⟨#[]⟩:ByteArray)] w1 λw2=>
 zQb prog ds w2 λw3=>
 ∃ag,w3.cell? ((⟨r2,0,none⟩:Addr).add 0)=some (.int .i64 ag)/\
 ∃aj,w3.cell? ((⟨r2,0,none⟩:Addr).add 1)=some (.int .i64 aj)/\
 ∃ak,w3.cell? ((⟨r2,0,none⟩:Addr).add 2)=some (.string ak)/\
 R (.returned (.agg #[.int .i64 ag,.int .i64 aj,.string ak])) w3
theorem F45_p:Pl prog f45 [iS 0] F45_1:=λR=>
 lf
theorem yYy (n0:Int) (w:World) (R:Rt) (h:F45_1 R n0 [] w):Calls prog 45 #[.int .i64 n0] w R:=
 plC F45_p func45 h
end Go.Proofs.YtaeecpjhfmcliaaGreatDoor
/- Shallow texts of functions, printed by program, each checked by the kernel against the loaded code. No condition. -/
namespace Go.Proofs.YtaeecpjhfmcliaaGreatDoor
open Go.Sh Tryz
def F72_1(R:Rt)(l8:SV)(ds:Ds)(w:World):Prop:=
 zQb prog ds w λw1=>
 R (.returned (.tuple #[l8.v,.int .i64 0])) w1
def yWk (R:Rt) (J1:(SV × Int)->World->Prop) (p2 p3:Option Addr) (l8:SV) (eZ gG:Int) (ds:Ds) (w:World):Prop:=
 J1 (l8,(IntKind.i64.wrap (gG+1))) w
def F72_3 (R:Rt) (J1:(SV × Int)->World->Prop) (p2 p3:Option Addr) (l8:SV) (eZ gG:Int) (ds:Ds) (w:World):Prop:=
 Br (decide (gG<eZ)) (
 dwE w λw2=>
 zQf p2 λa3=>
 ∃rR:SV,w2.cell? (a3.add 2)=some (rR.v)/\
 Br (decide (gG >= (rR.len:Int))) (
 alE (.cells #[.int .i64 (IntKind.i64.wrap (gG+1))] 3) w2 λwq w4=>
 ∃jV:SV,∃w5,(Builtin.append_ #[52,52] 52 #[l8.v,.slice (some ⟨wq,0,none⟩) 1 1]).run prog w4=.ok (jV.v) w5/\
 yWk R J1 p2 p3 jV eZ gG ds w5) (
 zQf p3 λa6=>
 ∃qK:SV,w2.cell? (a6.add 2)=some (qK.v)/\
 Br (decide (gG >= (qK.len:Int))) (
 alE (.cells #[.int .i64 (IntKind.i64.wrap (gG+1))] 3) w2 λwq w7=>
 ∃jV:SV,∃w8,(Builtin.append_ #[52,52] 52 #[l8.v,.slice (some ⟨wq,0,none⟩) 1 1]).run prog w7=.ok (jV.v) w8/\
 yWk R J1 p2 p3 jV eZ gG ds w8) (
 zQf p2 λa9=>
 ∃ka:SV,w2.cell? (a9.add 2)=some (ka.v)/\
 ∃dy,ka.a=some dy/\0<=gG/\gG<(ka.len:Int)/\
 ∃yn,w2.cell? (dy.add (gG.toNat * 2))=some (.bool yn)/\
 zQf p3 λdI=>
 ∃yo:SV,w2.cell? (dI.add 2)=some (yo.v)/\
 ∃jj,yo.a=some jj/\0<=gG/\gG<(yo.len:Int)/\
 ∃tn,w2.cell? (jj.add (gG.toNat * 2))=some (.bool tn)/\
 ∃b68:Bool,(∀w,(eqS .neq 4 (.tmp 61) (.tmp 67) (.bool yn) (.bool tn)).run prog w=.ok (.bool b68) w)/\
 Br b68 (
 alE (.cells #[.int .i64 (IntKind.i64.wrap (gG+1))] 3) w2 λwq aJ=>
 ∃jV:SV,∃bB,(Builtin.append_ #[52,52] 52 #[l8.v,.slice (some ⟨wq,0,none⟩) 1 1]).run prog aJ=.ok (jV.v) bB/\
 yWk R J1 p2 p3 jV eZ gG ds bB) (
 zQf p2 λkx=>
 ∃mK:SV,w2.cell? (kx.add 2)=some (mK.v)/\
 ∃ip,mK.a=some ip/\0<=gG/\gG<(mK.len:Int)/\
 ∃kb:SV,w2.cell? ((ip.add (gG.toNat * 2)).add 1)=some (kb.v)/\
 zQf p3 λpK=>
 ∃yp:SV,w2.cell? (pK.add 2)=some (yp.v)/\
 ∃jk,yp.a=some jk/\0<=gG/\gG<(yp.len:Int)/\
 ∃xn:SV,w2.cell? ((jk.add (gG.toNat * 2)).add 1)=some (xn.v)/\
 Calls prog 108 #[kb.v,xn.v] w2 λe cM=>
 ∃b83:Bool,e=.returned (.bool b83)/\
 Br (!b83) (
 alE (.cells #[.int .i64 (IntKind.i64.wrap (gG+1))] 3) cM λwq bT=>
 ∃jV:SV,∃bX,(Builtin.append_ #[52,52] 52 #[l8.v,.slice (some ⟨wq,0,none⟩) 1 1]).run prog bT=.ok (jV.v) bX/\
 yWk R J1 p2 p3 jV eZ gG ds bX) (
 yWk R J1 p2 p3 l8 eZ gG ds cM))))) (
 F72_1 R l8 ds w)
def F72_4(R:Rt)(p2 p3:Option Addr)(l8:SV)(eZ gG:Int)(ds:Ds)(w:World):Prop:=
 zQA (λ(J1:(SV × Int)->World->Prop) (s:SV × Int) (w:World)=>F72_3 R J1 p2 p3 s.1 eZ s.2 ds w) (l8,gG) w
def F72_6(R:Rt)(aw:Int)(ah ai:SV)(bp:Int)(aZ bK:SV)(ds:Ds)(w:World):Prop:=
 alE (.cells #[.int .i64 aw,ah.v,ai.v] 35) w λr2 df=>
 alE (.cells #[.int .i64 bp,aZ.v,bK.v] 35) df λr3 dU=>
 ∃dL,dU.cell? ((⟨r2,0,none⟩:Addr).add 0)=some (.int .i64 dL)/\
 ∃bh:SV,dU.cell? ((⟨r2,0,none⟩:Addr).add 1)=some (bh.v)/\
 ∃bi:SV,dU.cell? ((⟨r2,0,none⟩:Addr).add 2)=some (bi.v)/\
 Calls prog 106 #[.agg #[.int .i64 dL,bh.v,bi.v]] dU λe dw=>
 ∃dx:Int,e=.returned (.int .i64 dx)/\
 Br (dx != 0) (
 zQb prog ds dw λdH=>
 R (.returned (.tuple #[.slice none 0 0,.int .i64 dx])) dH) (
 ∃jy,dw.cell? ((⟨r3,0,none⟩:Addr).add 0)=some (.int .i64 jy)/\
 ∃cP:SV,dw.cell? ((⟨r3,0,none⟩:Addr).add 1)=some (cP.v)/\
 ∃ft:SV,dw.cell? ((⟨r3,0,none⟩:Addr).add 2)=some (ft.v)/\
 Calls prog 106 #[.agg #[.int .i64 jy,cP.v,ft.v]] dw λe fj=>
 ∃n16:Int,e=.returned (.int .i64 n16)/\
 Br (n16 != 0) (
 zQb prog ds fj λiq=>
 R (.returned (.tuple #[.slice none 0 0,.int .i64 n16])) iq) (
 ∃jO,fj.cell? (⟨r2,0,none⟩:Addr)=some (.int .i64 jO)/\
 ∃iw,fj.cell? (⟨r3,0,none⟩:Addr)=some (.int .i64 iw)/\
 Br (jO != iw) (
 zQb prog ds fj λeg=>
 R (.returned (.tuple #[.slice none 0 0,.int .i64 10])) eg) (
 ∃cp:SV,fj.cell? ((⟨r2,0,none⟩:Addr).add 1)=some (cp.v)/\
 ∃gx:SV,fj.cell? ((⟨r3,0,none⟩:Addr).add 1)=some (gx.v)/\
 Calls prog 107 #[cp.v,gx.v] fj λe fm=>
 ∃qB:Bool,e=.returned (.bool qB)/\
 Br (!qB) (
 zQb prog ds fm λir=>
 R (.returned (.tuple #[.slice none 0 0,.int .i64 10])) ir) (
 ∃jW:SV,fm.cell? ((⟨r2,0,none⟩:Addr).add 2)=some (jW.v)/\
 ∃eR:SV,fm.cell? ((⟨r3,0,none⟩:Addr).add 2)=some (eR.v)/\
 ∃eZ:Int,∃gu,(Builtin.max_ #[3,3] 3 #[.int .i64 (jW.len:Int),.int .i64 (eR.len:Int)]).run prog fm=.ok (.int .i64 eZ) gu/\
 F72_4 R (some (⟨r2,0,none⟩:Addr)) (some (⟨r3,0,none⟩:Addr)) ⟨none,0,0⟩ eZ 0 ds gu))))
theorem F72_p:Pl prog f72 [aS 0 [.int .i64,.slice,.slice],aS 1 [.int .i64,.slice,.slice]] F72_6:=λR=>
 pc 11 (rest [pS 2,pS 3,lS 8,iS 39,iS 40] (F72_4 R) (bk 0 (rest [lS 8] (F72_1 R) lf) (lp [lS 8,iS 40] [pS 2,pS 3,lS 8,iS 39,iS 40] (F72_3 R) zXI λJ1=>pc 3 (rest [pS 2,pS 3,lS 8,iS 39,iS 40] (yWk R J1) lf))))
theorem xQY (aw:Int) (ah ai:SV) (bp:Int) (aZ bK:SV) (w:World) (R:Rt) (h:F72_6 R aw ah ai bp aZ bK [] w):Calls prog 72 #[.agg #[.int .i64 aw,ah.v,ai.v],.agg #[.int .i64 bp,aZ.v,bK.v]] w R:=
 plC F72_p func72 h
def F73_1(R:Rt)(l8:SV)(ds:Ds)(w:World):Prop:=
 zQb prog ds w λw1=>
 R (.returned (.tuple #[l8.v,.int .i64 0])) w1
def xZC (R:Rt) (J1:(SV × Int)->World->Prop) (p2 p3:Option Addr) (l8:SV) (n9:Int) (ds:Ds) (w:World):Prop:=
 dwE w λw2=>
 zQf p2 λa3=>
 ∃oD:SV,w2.cell? (a3.add 2)=some (oD.v)/\
 Br (decide (n9 >= (oD.len:Int))) (
 alE (.cells #[.int .i64 (IntKind.i64.wrap (n9+1))] 3) w2 λyq w4=>
 ∃o8:SV,∃w5,(Builtin.append_ #[52,52] 52 #[l8.v,.slice (some ⟨yq,0,none⟩) 1 1]).run prog w4=.ok (o8.v) w5/\
 J1 (o8,(IntKind.i64.wrap (n9+1))) w5) (
 zQf p3 λa6=>
 ∃l55:SV,w2.cell? (a6.add 2)=some (l55.v)/\
 Br (decide (n9 >= (l55.len:Int))) (
 alE (.cells #[.int .i64 (IntKind.i64.wrap (n9+1))] 3) w2 λyq w7=>
 ∃o8:SV,∃w8,(Builtin.append_ #[52,52] 52 #[l8.v,.slice (some ⟨yq,0,none⟩) 1 1]).run prog w7=.ok (o8.v) w8/\
 J1 (o8,(IntKind.i64.wrap (n9+1))) w8) (
 zQf p2 λa9=>
 ∃qh:SV,w2.cell? (a9.add 2)=some (qh.v)/\
 ∃dy,qh.a=some dy/\0<=n9/\n9<(qh.len:Int)/\
 ∃t8,w2.cell? ((dy.add (n9.toNat * 2)).add 0)=some (.bool t8)/\
 ∃kR:SV,w2.cell? ((dy.add (n9.toNat * 2)).add 1)=some (kR.v)/\
 zQf p3 λdI=>
 ∃qc:SV,w2.cell? (dI.add 2)=some (qc.v)/\
 ∃jj,qc.a=some jj/\0<=n9/\n9<(qc.len:Int)/\
 ∃ua,w2.cell? ((jj.add (n9.toNat * 2)).add 0)=some (.bool ua)/\
 ∃fv:SV,w2.cell? ((jj.add (n9.toNat * 2)).add 1)=some (fv.v)/\
 Calls prog 70 #[.agg #[.bool t8,kR.v],.agg #[.bool ua,fv.v]] w2 λe aJ=>
 ∃b70:Bool,e=.returned (.bool b70)/\
 Br (!b70) (
 alE (.cells #[.int .i64 (IntKind.i64.wrap (n9+1))] 3) aJ λyq bB=>
 ∃o8:SV,∃bm,(Builtin.append_ #[52,52] 52 #[l8.v,.slice (some ⟨yq,0,none⟩) 1 1]).run prog bB=.ok (o8.v) bm/\
 J1 (o8,(IntKind.i64.wrap (n9+1))) bm) (
 J1 (l8,(IntKind.i64.wrap (n9+1))) aJ)))
def F73_3 (R:Rt) (J1:(SV × Int)->World->Prop) (p2 p3:Option Addr) (l8:SV) (n9:Int) (ds:Ds) (w:World):Prop:=
 zQf p2 λip=>
 ∃gf:SV,w.cell? (ip.add 2)=some (gf.v)/\
 Br (decide (n9<(gf.len:Int))) (
 xZC R J1 p2 p3 l8 n9 ds w) (
 zQf p3 λpK=>
 ∃ke:SV,w.cell? (pK.add 2)=some (ke.v)/\
 Br (decide (n9<(ke.len:Int))) (
 xZC R J1 p2 p3 l8 n9 ds w) (
 F73_1 R l8 ds w))
def F73_4(R:Rt)(p2 p3:Option Addr)(l8:SV)(n9:Int)(ds:Ds)(w:World):Prop:=
 zQA (λ(J1:(SV × Int)->World->Prop) (s:SV × Int) (w:World)=>F73_3 R J1 p2 p3 s.1 s.2 ds w) (l8,n9) w
def F73_6(R:Rt)(aw:Int)(ah ai:SV)(bp:Int)(aZ bK:SV)(ds:Ds)(w:World):Prop:=
 alE (.cells #[.int .i64 aw,ah.v,ai.v] 35) w λr2 bU=>
 alE (.cells #[.int .i64 bp,aZ.v,bK.v] 35) bU λr3 cM=>
 ∃dL,cM.cell? ((⟨r2,0,none⟩:Addr).add 0)=some (.int .i64 dL)/\
 ∃bh:SV,cM.cell? ((⟨r2,0,none⟩:Addr).add 1)=some (bh.v)/\
 ∃bi:SV,cM.cell? ((⟨r2,0,none⟩:Addr).add 2)=some (bi.v)/\
 Calls prog 13 #[.agg #[.int .i64 dL,bh.v,bi.v]] cM λe bT=>
 ∃dx:Int,e=.returned (.int .i64 dx)/\
 Br (dx != 0) (
 zQb prog ds bT λbX=>
 R (.returned (.tuple #[.slice none 0 0,.int .i64 dx])) bX) (
 ∃jy,bT.cell? ((⟨r3,0,none⟩:Addr).add 0)=some (.int .i64 jy)/\
 ∃cP:SV,bT.cell? ((⟨r3,0,none⟩:Addr).add 1)=some (cP.v)/\
 ∃ft:SV,bT.cell? ((⟨r3,0,none⟩:Addr).add 2)=some (ft.v)/\
 Calls prog 13 #[.agg #[.int .i64 jy,cP.v,ft.v]] bT λe df=>
 ∃n16:Int,e=.returned (.int .i64 n16)/\
 Br (n16 != 0) (
 zQb prog ds df λdU=>
 R (.returned (.tuple #[.slice none 0 0,.int .i64 n16])) dU) (
 ∃jO,df.cell? (⟨r2,0,none⟩:Addr)=some (.int .i64 jO)/\
 ∃iw,df.cell? (⟨r3,0,none⟩:Addr)=some (.int .i64 iw)/\
 Br (jO != iw) (
 zQb prog ds df λdw=>
 R (.returned (.tuple #[.slice none 0 0,.int .i64 10])) dw) (
 ∃cp:SV,df.cell? ((⟨r2,0,none⟩:Addr).add 1)=some (cp.v)/\
 ∃gx:SV,df.cell? ((⟨r3,0,none⟩:Addr).add 1)=some (gx.v)/\
 Calls prog 69 #[cp.v,gx.v] df λe dH=>
 ∃qB:Bool,e=.returned (.bool qB)/\
 Br (!qB) (
 zQb prog ds dH λfj=>
 R (.returned (.tuple #[.slice none 0 0,.int .i64 10])) fj) (
 F73_4 R (some (⟨r2,0,none⟩:Addr)) (some (⟨r3,0,none⟩:Addr)) ⟨none,0,0⟩ 0 ds dH))))
theorem F73_p:Pl prog f73 [aS 0 [.int .i64,.slice,.slice],aS 1 [.int .i64,.slice,.slice]] F73_6:=λR=>
 pc 11 (rest [pS 2,pS 3,lS 8,iS 9] (F73_4 R) (bk 0 (rest [lS 8] (F73_1 R) lf) (lp [lS 8,iS 9] [pS 2,pS 3,lS 8,iS 9] (F73_3 R) zXI λJ1=>pc 2 (rest [pS 2,pS 3,lS 8,iS 9] (xZC R J1) lf))))
theorem yY5 (aw:Int) (ah ai:SV) (bp:Int) (aZ bK:SV) (w:World) (R:Rt) (h:F73_6 R aw ah ai bp aZ bK [] w):Calls prog 73 #[.agg #[.int .i64 aw,ah.v,ai.v],.agg #[.int .i64 bp,aZ.v,bK.v]] w R:=
 plC F73_p func73 h
def xWo(R:Rt)(ds:Ds)(w:World):Prop:=
 zQb prog ds w λw1=>
 R (.returned (.bool true)) w1
def xWB (R:Rt) (J1:(Int)->World->Prop) (l0 l1:SV) (dz cK:Int) (ds:Ds) (w:World):Prop:=
 Br (decide (cK<dz)) (
 dwE w λw2=>
 ∃a3,l0.a=some a3/\0<=cK/\cK<(l0.len:Int)/\
 ∃jv,w2.cell? ((a3.add (cK.toNat * 4)).add 0)=some (.string jv)/\
 ∃co,w2.cell? ((a3.add (cK.toNat * 4)).add 1)=some (.int .i64 co)/\
 ∃jw,w2.cell? ((a3.add (cK.toNat * 4)).add 2)=some (.int .i64 jw)/\
 ∃jx,w2.cell? ((a3.add (cK.toNat * 4)).add 3)=some (.bool jx)/\
 ∃a4,l1.a=some a4/\0<=cK/\cK<(l1.len:Int)/\
 ∃jA,w2.cell? ((a4.add (cK.toNat * 4)).add 0)=some (.string jA)/\
 ∃d8,w2.cell? ((a4.add (cK.toNat * 4)).add 1)=some (.int .i64 d8)/\
 ∃jB,w2.cell? ((a4.add (cK.toNat * 4)).add 2)=some (.int .i64 jB)/\
 ∃jC,w2.cell? ((a4.add (cK.toNat * 4)).add 3)=some (.bool jC)/\
 ∃sf:Bool,(∀w,(eqS .neq 129 (.tmp 19) (.tmp 23) (.agg #[.string jv,.int .i64 co,.int .i64 jw,.bool jx]) (.agg #[.string jA,.int .i64 d8,.int .i64 jB,.bool jC])).run prog w=.ok (.bool sf) w)/\
 Br sf (
 zQb prog ds w2 λw5=>
 R (.returned (.bool false)) w5) (
 J1 (IntKind.i64.wrap (cK+1)) w2)) (
 xWo R ds w)
def xKy(R:Rt)(l0 l1:SV)(dz cK:Int)(ds:Ds)(w:World):Prop:=
 zQA (λ(J1:(Int)->World->Prop) (s:Int) (w:World)=>xWB R J1 l0 l1 dz s ds w) cK w
def xJI(R:Rt)(l0 l1:SV)(ds:Ds)(w:World):Prop:=
 Br ((l0.len:Int) != (l1.len:Int)) (
 zQb prog ds w λw6=>
 R (.returned (.bool false)) w6) (
 xKy R l0 l1 (l0.len:Int) 0 ds w)
theorem F107_p:Pl prog f107 [lS 0,lS 1] xJI:=λR=>
 pc 4 (rest [lS 0,lS 1,iS 12,iS 13] (xKy R) (bk 0 (rest [] (xWo R) lf) (lp [iS 13] [lS 0,lS 1,iS 12,iS 13] (xWB R) zXI λJ1=>lf)))
theorem yKP (l0 l1:SV) (w:World) (R:Rt) (h:xJI R l0 l1 [] w):Calls prog 107 #[l0.v,l1.v] w R:=
 plC F107_p func107 h
def xJF(R:Rt)(ds:Ds)(w:World):Prop:=
 zQb prog ds w λw1=>
 R (.returned (.bool true)) w1
def xK2 (R:Rt) (J1:(Int)->World->Prop) (l0 l1:SV) (dz cK:Int) (ds:Ds) (w:World):Prop:=
 Br (decide (cK<dz)) (
 dwE w λw2=>
 ∃a3,l0.a=some a3/\0<=cK/\cK<(l0.len:Int)/\
 ∃dK,w2.cell? ((a3.add (cK.toNat * 3)).add 0)=some (.int .i64 dK)/\
 ∃co,w2.cell? ((a3.add (cK.toNat * 3)).add 1)=some (.int .i64 co)/\
 ∃jz,w2.cell? ((a3.add (cK.toNat * 3)).add 2)=some (.string jz)/\
 ∃a4,l1.a=some a4/\0<=cK/\cK<(l1.len:Int)/\
 ∃nw,w2.cell? ((a4.add (cK.toNat * 3)).add 0)=some (.int .i64 nw)/\
 ∃d8,w2.cell? ((a4.add (cK.toNat * 3)).add 1)=some (.int .i64 d8)/\
 ∃nx,w2.cell? ((a4.add (cK.toNat * 3)).add 2)=some (.string nx)/\
 ∃sf:Bool,(∀w,(eqS .neq 73 (.tmp 19) (.tmp 23) (.agg #[.int .i64 dK,.int .i64 co,.string jz]) (.agg #[.int .i64 nw,.int .i64 d8,.string nx])).run prog w=.ok (.bool sf) w)/\
 Br sf (
 zQb prog ds w2 λw5=>
 R (.returned (.bool false)) w5) (
 J1 (IntKind.i64.wrap (cK+1)) w2)) (
 xJF R ds w)
def xWC(R:Rt)(l0 l1:SV)(dz cK:Int)(ds:Ds)(w:World):Prop:=
 zQA (λ(J1:(Int)->World->Prop) (s:Int) (w:World)=>xK2 R J1 l0 l1 dz s ds w) cK w
def xVB(R:Rt)(l0 l1:SV)(ds:Ds)(w:World):Prop:=
 Br ((l0.len:Int) != (l1.len:Int)) (
 zQb prog ds w λw6=>
 R (.returned (.bool false)) w6) (
 xWC R l0 l1 (l0.len:Int) 0 ds w)
theorem F108_p:Pl prog f108 [lS 0,lS 1] xVB:=λR=>
 pc 4 (rest [lS 0,lS 1,iS 12,iS 13] (xWC R) (bk 0 (rest [] (xJF R) lf) (lp [iS 13] [lS 0,lS 1,iS 12,iS 13] (xK2 R) zXI λJ1=>lf)))
theorem yWD (l0 l1:SV) (w:World) (R:Rt) (h:xVB R l0 l1 [] w):Calls prog 108 #[l0.v,l1.v] w R:=
 plC F108_p func108 h
def F69_1(R:Rt)(ds:Ds)(w:World):Prop:=
 zQb prog ds w λw1=>
 R (.returned (.bool true)) w1
def F69_2 (R:Rt) (J1:(Int)->World->Prop) (l0 l1:SV) (n5:Int) (ds:Ds) (w:World):Prop:=
 Br (decide (n5<(l0.len:Int))) (
 dwE w λw2=>
 ∃a3,l0.a=some a3/\0<=n5/\n5<(l0.len:Int)/\
 ∃ub,w2.cell? ((a3.add (n5.toNat * 4)).add 0)=some (.string ub)/\
 ∃eM,w2.cell? ((a3.add (n5.toNat * 4)).add 1)=some (.int .i64 eM)/\
 ∃uc,w2.cell? ((a3.add (n5.toNat * 4)).add 2)=some (.int .i64 uc)/\
 ∃ud,w2.cell? ((a3.add (n5.toNat * 4)).add 3)=some (.bool ud)/\
 ∃a4,l1.a=some a4/\0<=n5/\n5<(l1.len:Int)/\
 ∃ni,w2.cell? ((a4.add (n5.toNat * 4)).add 0)=some (.string ni)/\
 ∃jp,w2.cell? ((a4.add (n5.toNat * 4)).add 1)=some (.int .i64 jp)/\
 ∃nj,w2.cell? ((a4.add (n5.toNat * 4)).add 2)=some (.int .i64 nj)/\
 ∃nl,w2.cell? ((a4.add (n5.toNat * 4)).add 3)=some (.bool nl)/\
 ∃qg:Bool,(∀w,(eqS .neq 129 (.tmp 20) (.tmp 24) (.agg #[.string ub,.int .i64 eM,.int .i64 uc,.bool ud]) (.agg #[.string ni,.int .i64 jp,.int .i64 nj,.bool nl])).run prog w=.ok (.bool qg) w)/\
 Br qg (
 zQb prog ds w2 λw5=>
 R (.returned (.bool false)) w5) (
 J1 (IntKind.i64.wrap (n5+1)) w2)) (
 F69_1 R ds w)
def F69_3(R:Rt)(l0 l1:SV)(n5:Int)(ds:Ds)(w:World):Prop:=
 zQA (λ(J1:(Int)->World->Prop) (s:Int) (w:World)=>F69_2 R J1 l0 l1 s ds w) n5 w
def F69_5(R:Rt)(l0 l1:SV)(ds:Ds)(w:World):Prop:=
 Br ((l0.len:Int) != (l1.len:Int)) (
 zQb prog ds w λw6=>
 R (.returned (.bool false)) w6) (
 F69_3 R l0 l1 0 ds w)
theorem F69_p:Pl prog f69 [lS 0,lS 1] F69_5:=λR=>
 pc 4 (rest [lS 0,lS 1,iS 5] (F69_3 R) (bk 0 (rest [] (F69_1 R) lf) (lp [iS 5] [lS 0,lS 1,iS 5] (F69_2 R) zXI λJ1=>lf)))
theorem xQm (l0 l1:SV) (w:World) (R:Rt) (h:F69_5 R l0 l1 [] w):Calls prog 69 #[l0.v,l1.v] w R:=
 plC F69_p func69 h
end Go.Proofs.YtaeecpjhfmcliaaGreatDoor
/- Shallow texts of functions, printed by program, each checked by the kernel against the loaded code. No condition. -/
namespace Go.Proofs.YtaeecpjhfmcliaaGreatDoor
open Go.Sh Tryz
def xJU(R:Rt)(n0:Int)(ds:Ds)(w:World):Prop:=
 IntKind.i64=IntKind.i64/\(4:Int) ≠ 0/\
 Br ((n0.tmod 4) == 0) (
 IntKind.i64=IntKind.i64/\(100:Int) ≠ 0/\
 Br ((n0.tmod 100) != 0) (
 zQb prog ds w λw1=>
 R (.returned (.bool true)) w1) (
 IntKind.i64=IntKind.i64/\(400:Int) ≠ 0/\
 zQb prog ds w λw2=>
 R (.returned (.bool ((n0.tmod 400) == 0))) w2)) (
 zQb prog ds w λw3=>
 R (.returned (.bool false)) w3)
theorem F239_p:Pl prog f239 [iS 0] xJU:=λR=>
 lf
theorem yKV (n0:Int) (w:World) (R:Rt) (h:xJU R n0 [] w):Calls prog 239 #[.int .i64 n0] w R:=
 plC F239_p func239 h
def xW7(R:Rt)(n0 n1:Int)(ds:Ds)(w:World):Prop:=
 alE (.cells #[.int .i64 0,.int .i64 0,.int .i64 0,.int .i64 0,.int .i64 0,.int .i64 0,.int .i64 0,.int .i64 0,.int .i64 0,.int .i64 0,.int .i64 0,.int .i64 0] 258) w λr5 w1=>
 stA prog 258 (⟨r5,0,none⟩:Addr) #[.int .i64 31,.int .i64 28,.int .i64 31,.int .i64 30,.int .i64 31,.int .i64 30,.int .i64 31,.int .i64 31,.int .i64 30,.int .i64 31,.int .i64 30,.int .i64 31] w1 λw2=>
 Br (n1 == 2) (
 Calls prog 239 #[.int .i64 n0] w2 λe w3=>
 ∃pJ:Bool,e=.returned (.bool pJ)/\
 Br pJ (
 zQb prog ds w3 λw4=>
 R (.returned (.int .i64 29)) w4) (
 0<=(IntKind.i64.wrap (n1 - 1))/\(IntKind.i64.wrap (n1 - 1))<(12:Int)/\
 ∃n16,w3.cell? ((⟨r5,0,none⟩:Addr).add ((IntKind.i64.wrap (n1 - 1)).toNat * 1))=some (.int .i64 n16)/\
 zQb prog ds w3 λw5=>
 R (.returned (.int .i64 n16)) w5)) (
 0<=(IntKind.i64.wrap (n1 - 1))/\(IntKind.i64.wrap (n1 - 1))<(12:Int)/\
 ∃n16,w2.cell? ((⟨r5,0,none⟩:Addr).add ((IntKind.i64.wrap (n1 - 1)).toNat * 1))=some (.int .i64 n16)/\
 zQb prog ds w2 λw6=>
 R (.returned (.int .i64 n16)) w6)
theorem F236_p:Pl prog f236 [iS 0,iS 1] xW7:=λR=>
 lf
theorem yVC (n0 n1:Int) (w:World) (R:Rt) (h:xW7 R n0 n1 [] w):Calls prog 236 #[.int .i64 n0,.int .i64 n1] w R:=
 plC F236_p func236 h
def xKt(R:Rt)(n0:Int)(ds:Ds)(w:World):Prop:=
 IntKind.i64=IntKind.i64/\(4:Int) ≠ 0/\
 IntKind.i64=IntKind.i64/\(100:Int) ≠ 0/\
 IntKind.i64=IntKind.i64/\(400:Int) ≠ 0/\
 zQb prog ds w λw1=>
 R (.returned (.int .i64 (IntKind.i64.wrap ((IntKind.i64.wrap ((IntKind.i64.wrap ((IntKind.i64.wrap ((365:Int) * (IntKind.i64.wrap (n0 - 1))))+(IntKind.i64.wrap ((IntKind.i64.wrap (n0 - 1)).tdiv 4)))) - (IntKind.i64.wrap ((IntKind.i64.wrap (n0 - 1)).tdiv 100))))+(IntKind.i64.wrap ((IntKind.i64.wrap (n0 - 1)).tdiv 400)))))) w1
theorem F237_p:Pl prog f237 [iS 0] xKt:=λR=>
 lf
theorem yWX (n0:Int) (w:World) (R:Rt) (h:xKt R n0 [] w):Calls prog 237 #[.int .i64 n0] w R:=
 plC F237_p func237 h
def xJ7(R:Rt)(n8:Int)(ds:Ds)(w:World):Prop:=
 zQb prog ds w λw1=>
 R (.returned (.tuple #[.int .i64 n8,.int .i64 0])) w1
def xKF (R:Rt) (J1:(Int × Int)->World->Prop) (n0 n8 gG m4:Int) (ds:Ds) (w:World):Prop:=
 Br (decide (m4<gG)) (
 Calls prog 236 #[.int .i64 n0,.int .i64 (IntKind.i64.wrap (m4+1))] w λe w2=>
 ∃dm:Int,e=.returned (.int .i64 dm)/\
 J1 ((IntKind.i64.wrap (n8+dm)),(IntKind.i64.wrap (m4+1))) w2) (
 xJ7 R n8 ds w)
def xW5(R:Rt)(n0 n8 gG m4:Int)(ds:Ds)(w:World):Prop:=
 zQA (λ(J1:(Int × Int)->World->Prop) (s:Int × Int) (w:World)=>xKF R J1 n0 s.1 gG s.2 ds w) (n8,m4) w
def zVH(R:Rt)(n0 n1 n2:Int)(b34:Bool)(ds:Ds)(w:World):Prop:=
 Br b34 (
 zQb prog ds w λw3=>
 R (.returned (.tuple #[.int .i64 0,.int .i64 1])) w3) (
 Calls prog 237 #[.int .i64 n0] w λe w4=>
 ∃jP:Int,e=.returned (.int .i64 jP)/\
 xW5 R n0 (IntKind.i64.wrap (jP+n2)) (IntKind.i64.wrap (n1 - 1)) 0 ds w4)
def xWz(R:Rt)(n0 n1 n2:Int)(ds:Ds)(w:World):Prop:=
 Br (decide (n0<1)) (
 zVH R n0 n1 n2 true ds w) (
 Br (decide (n0 > 9999)) (
 zVH R n0 n1 n2 true ds w) (
 Br (decide (n1<1)) (
 zVH R n0 n1 n2 true ds w) (
 Br (decide (n1 > 12)) (
 zVH R n0 n1 n2 true ds w) (
 Br (decide (n2<1)) (
 zVH R n0 n1 n2 true ds w) (
 Calls prog 236 #[.int .i64 n0,.int .i64 n1] w λe w5=>
 ∃o1:Int,e=.returned (.int .i64 o1)/\
 zVH R n0 n1 n2 (decide (n2 > o1)) ds w5)))))
def xV4(R:Rt)(n0 n1 n2:Int)(ds:Ds)(w:World):Prop:=
 xWz R n0 n1 n2 ds w
theorem F226_p:Pl prog f226 [iS 0,iS 1,iS 2] xV4:=λR=>
 pc 1 (rest [iS 0,iS 1,iS 2] (xWz R) (pc 1 (rest [iS 0,iS 1,iS 2,bS 34] (zVH R) (pc 3 (rest [iS 0,iS 8,iS 40,iS 41] (xW5 R) (bk 0 (rest [iS 8] (xJ7 R) lf) (lp [iS 8,iS 41] [iS 0,iS 8,iS 40,iS 41] (xKF R) zXI λJ1=>lf)))))))
theorem yVB (n0 n1 n2:Int) (w:World) (R:Rt) (h:xV4 R n0 n1 n2 [] w):Calls prog 226 #[.int .i64 n0,.int .i64 n1,.int .i64 n2] w R:=
 plC F226_p func226 h
def xWW(R:Rt)(n6 n7 n8:Int)(ds:Ds)(w:World):Prop:=
 zQb prog ds w λw1=>
 R (.returned (.tuple #[.int .i64 n6,.int .i64 n8,.int .i64 n7,.int .i64 0])) w1
def xJ5 (R:Rt) (J1:(Int × Int)->World->Prop) (n6 n7 n8:Int) (ds:Ds) (w:World):Prop:=
 Calls prog 236 #[.int .i64 n6,.int .i64 n8] w λe w2=>
 ∃sP:Int,e=.returned (.int .i64 sP)/\
 Br (decide (n7 > sP)) (
 Calls prog 236 #[.int .i64 n6,.int .i64 n8] w2 λe w3=>
 ∃jP:Int,e=.returned (.int .i64 jP)/\
 J1 ((IntKind.i64.wrap (n7 - jP)),(IntKind.i64.wrap (n8+1))) w3) (
 xWW R n6 n7 n8 ds w2)
def xVd(R:Rt)(n6 n7 n8:Int)(ds:Ds)(w:World):Prop:=
 zQA (λ(J1:(Int × Int)->World->Prop) (s:Int × Int) (w:World)=>xJ5 R J1 n6 s.1 s.2 ds w) (n7,n8) w
def xWt(R:Rt)(n0 n6:Int)(ds:Ds)(w:World):Prop:=
 Calls prog 237 #[.int .i64 n6] w λe w4=>
 ∃cv:Int,e=.returned (.int .i64 cv)/\
 xVd R n6 (IntKind.i64.wrap (n0 - cv)) 1 ds w4
def yVX (R:Rt) (J1:(Int)->World->Prop) (n0 n6:Int) (ds:Ds) (w:World):Prop:=
 Calls prog 237 #[.int .i64 (IntKind.i64.wrap (n6+1))] w λe w5=>
 ∃iR:Int,e=.returned (.int .i64 iR)/\
 Br (decide (iR<n0)) (
 J1 (IntKind.i64.wrap (n6+1)) w5) (
 xWt R n0 n6 ds w5)
def xK7(R:Rt)(n0 n6:Int)(ds:Ds)(w:World):Prop:=
 zQA (λ(J1:(Int)->World->Prop) (s:Int) (w:World)=>yVX R J1 n0 s ds w) n6 w
def xK0(R:Rt)(n0:Int)(ds:Ds)(w:World):Prop:=
 Calls prog 191 #[.int .i64 n0] w λe w6=>
 ∃dR:Bool,e=.returned (.bool dR)/\
 Br (!dR) (
 zQb prog ds w6 λw7=>
 R (.returned (.tuple #[.int .i64 0,.int .i64 0,.int .i64 0,.int .i64 1])) w7) (
 Br (n0 == 0) (
 zQb prog ds w6 λw8=>
 R (.returned (.tuple #[.int .i64 0,.int .i64 0,.int .i64 0,.int .i64 0])) w8) (
 IntKind.i64=IntKind.i64/\(366:Int) ≠ 0/\
 xK7 R n0 (IntKind.i64.wrap ((IntKind.i64.wrap (n0.tdiv 366))+1)) ds w6))
theorem F234_p:Pl prog f234 [iS 0] xK0:=λR=>
 pc 6 (rest [iS 0,iS 6] (xK7 R) (bk 0 (rest [iS 0,iS 6] (xWt R) (pc 1 (rest [iS 6,iS 7,iS 8] (xVd R) (bk 2 (rest [iS 6,iS 7,iS 8] (xWW R) lf) (lp [iS 7,iS 8] [iS 6,iS 7,iS 8] (xJ5 R) zXI λJ1=>lf))))) (lp [iS 6] [iS 0,iS 6] (yVX R) zXI λJ1=>lf)))
theorem yVE (n0:Int) (w:World) (R:Rt) (h:xK0 R n0 [] w):Calls prog 234 #[.int .i64 n0] w R:=
 plC F234_p func234 h
def xKn(R:Rt)(n0 n1:Int)(ds:Ds)(w:World):Prop:=
 Calls prog 154 #[.int .i64 n0] w λe w1=>
 ∃s7:ByteArray,e=.returned (.string s7)/\
 Calls prog 155 #[.string (⟨#[48]⟩:ByteArray),.int .i64 (IntKind.i64.wrap (n1 - (s7.size:Int)))] w1 λe w2=>
 ∃rV:ByteArray,e=.returned (.string rV)/\
 ((rV.size+s7.size:Nat):Int)<=9223372036854775807/\
 zQb prog ds w2 λw3=>
 R (.returned (.string (rV ++ s7))) w3
theorem F235_p:Pl prog f235 [iS 0,iS 1] xKn:=λR=>
 lf
theorem yWm (n0 n1:Int) (w:World) (R:Rt) (h:xKn R n0 n1 [] w):Calls prog 235 #[.int .i64 n0,.int .i64 n1] w R:=
 plC F235_p func235 h
def xWh(R:Rt)(n0:Int)(ds:Ds)(w:World):Prop:=
 Calls prog 234 #[.int .i64 n0] w λe w1=>
 ∃ij:Int,∃dA:Int,∃qC:Int,∃n9_3:Int,e=.returned (.tuple #[.int .i64 ij,.int .i64 dA,.int .i64 qC,.int .i64 n9_3])/\
 Calls prog 235 #[.int .i64 ij,.int .i64 4] w1 λe w2=>
 ∃vY:ByteArray,e=.returned (.string vY)/\
 Calls prog 235 #[.int .i64 dA,.int .i64 2] w2 λe w3=>
 ∃wm:ByteArray,e=.returned (.string wm)/\
 ((vY.size+wm.size:Nat):Int)<=9223372036854775807/\
 Calls prog 235 #[.int .i64 qC,.int .i64 2] w3 λe w4=>
 ∃s20:ByteArray,e=.returned (.string s20)/\
 (((vY ++ wm).size+s20.size:Nat):Int)<=9223372036854775807/\
 zQb prog ds w4 λw5=>
 R (.returned (.string ((vY ++ wm) ++ s20))) w5
theorem F225_p:Pl prog f225 [iS 0] xWh:=λR=>
 lf
theorem yWA (n0:Int) (w:World) (R:Rt) (h:xWh R n0 [] w):Calls prog 225 #[.int .i64 n0] w R:=
 plC F225_p func225 h
def xWQ(R:Rt)(n0:Int)(ds:Ds)(w:World):Prop:=
 Calls prog 191 #[.int .i64 n0] w λe w1=>
 ∃b5:Bool,e=.returned (.bool b5)/\
 Br (!b5) (
 zQb prog ds w1 λw2=>
 R (.returned (.tuple #[.string (⟨#[]⟩:ByteArray),.int .i64 1])) w2) (
 Br (n0 == 0) (
 zQb prog ds w1 λw3=>
 R (.returned (.tuple #[.string (⟨#[32,32,32,32,32,32,32,32]⟩:ByteArray),.int .i64 0])) w3) (
 Calls prog 225 #[.int .i64 n0] w1 λe w4=>
 ∃tX:ByteArray,e=.returned (.string tX)/\
 zQb prog ds w4 λw5=>
 R (.returned (.tuple #[.string tX,.int .i64 0])) w5))
theorem F212_p:Pl prog f212 [iS 0] xWQ:=λR=>
 lf
theorem yKH (n0:Int) (w:World) (R:Rt) (h:xWQ R n0 [] w):Calls prog 212 #[.int .i64 n0] w R:=
 plC F212_p func212 h
end Go.Proofs.YtaeecpjhfmcliaaGreatDoor
/- Shallow texts of functions, printed by program, each checked by the kernel against the loaded code. No condition. -/
namespace Go.Proofs.YtaeecpjhfmcliaaGreatDoor
open Go.Sh Tryz
def xJ4(R:Rt)(aW:ByteArray)(aI aX:Int)(aY:Bool)(bp cr:Int)(dp:ByteArray)(ds:Ds)(w:World):Prop:=
 alE (.cells #[.string aW,.int .i64 aI,.int .i64 aX,.bool aY] 129) w λr2 w1=>
 alE (.cells #[.int .i64 bp,.int .i64 cr,.string dp] 73) w1 λr3 w2=>
 ∃n6,w2.cell? ((⟨r3,0,none⟩:Addr).add 1)=some (.int .i64 n6)/\
 ∃n8,w2.cell? ((⟨r3,0,none⟩:Addr).add 1)=some (.int .i64 n8)/\
 0<=(IntKind.i64.wrap (n8+1))/\(IntKind.i64.wrap (n8+1)).toNat<=(⟨#[70,84]⟩:ByteArray).size/\0<=n6/\n6.toNat<=(IntKind.i64.wrap (n8+1)).toNat/\
 zQb prog ds w2 λw3=>
 R (.returned (.string ((⟨#[70,84]⟩:ByteArray).extract n6.toNat ((IntKind.i64.wrap (n8+1)).toNat)))) w3
theorem F180_p:Pl prog f180 [aS 0 [.str,.int .i64,.int .i64,.bool],aS 1 [.int .i64,.int .i64,.str]] xJ4:=λR=>
 lf
theorem yVA (aW:ByteArray) (aI aX:Int) (aY:Bool) (bp cr:Int) (dp:ByteArray) (w:World) (R:Rt) (h:xJ4 R aW aI aX aY bp cr dp [] w):Calls prog 180 #[.agg #[.string aW,.int .i64 aI,.int .i64 aX,.bool aY],.agg #[.int .i64 bp,.int .i64 cr,.string dp]] w R:=
 plC F180_p func180 h
def xKT(R:Rt)(aW:ByteArray)(aI aX:Int)(aY:Bool)(bp cr:Int)(dp:ByteArray)(ds:Ds)(w:World):Prop:=
 alE (.cells #[.string aW,.int .i64 aI,.int .i64 aX,.bool aY] 129) w λr2 w1=>
 alE (.cells #[.int .i64 bp,.int .i64 cr,.string dp] 73) w1 λr3 w2=>
 ∃n9,w2.cell? ((⟨r3,0,none⟩:Addr).add 1)=some (.int .i64 n9)/\
 ∃dx,w2.cell? ((⟨r2,0,none⟩:Addr).add 2)=some (.int .i64 dx)/\
 Calls prog 121 #[.int .i64 n9,.int .i64 dx] w2 λe w3=>
 ∃ue:ByteArray,∃ed:Int,e=.returned (.tuple #[.string ue,.int .i64 ed])/\
 zQb prog ds w3 λw4=>
 R (.returned (.string ue)) w4
theorem F182_p:Pl prog f182 [aS 0 [.str,.int .i64,.int .i64,.bool],aS 1 [.int .i64,.int .i64,.str]] xKT:=λR=>
 lf
theorem yVy (aW:ByteArray) (aI aX:Int) (aY:Bool) (bp cr:Int) (dp:ByteArray) (w:World) (R:Rt) (h:xKT R aW aI aX aY bp cr dp [] w):Calls prog 182 #[.agg #[.string aW,.int .i64 aI,.int .i64 aX,.bool aY],.agg #[.int .i64 bp,.int .i64 cr,.string dp]] w R:=
 plC F182_p func182 h
def xWM(R:Rt)(aW:ByteArray)(aI aX:Int)(aY:Bool)(bp cr:Int)(dp:ByteArray)(ds:Ds)(w:World):Prop:=
 alE (.cells #[.string aW,.int .i64 aI,.int .i64 aX,.bool aY] 129) w λr2 w1=>
 alE (.cells #[.int .i64 bp,.int .i64 cr,.string dp] 73) w1 λr3 w2=>
 ∃n9,w2.cell? ((⟨r3,0,none⟩:Addr).add 1)=some (.int .i64 n9)/\
 Calls prog 212 #[.int .i64 n9] w2 λe w3=>
 ∃uf:ByteArray,∃ji:Int,e=.returned (.tuple #[.string uf,.int .i64 ji])/\
 zQb prog ds w3 λw4=>
 R (.returned (.string uf)) w4
theorem F184_p:Pl prog f184 [aS 0 [.str,.int .i64,.int .i64,.bool],aS 1 [.int .i64,.int .i64,.str]] xWM:=λR=>
 lf
theorem yWP (aW:ByteArray) (aI aX:Int) (aY:Bool) (bp cr:Int) (dp:ByteArray) (w:World) (R:Rt) (h:xWM R aW aI aX aY bp cr dp [] w):Calls prog 184 #[.agg #[.string aW,.int .i64 aI,.int .i64 aX,.bool aY],.agg #[.int .i64 bp,.int .i64 cr,.string dp]] w R:=
 plC F184_p func184 h
def xWd(R:Rt)(aW:ByteArray)(aI aX:Int)(aY:Bool)(bp cr:Int)(dp:ByteArray)(ds:Ds)(w:World):Prop:=
 alE (.cells #[.string aW,.int .i64 aI,.int .i64 aX,.bool aY] 129) w λr2 w1=>
 alE (.cells #[.int .i64 bp,.int .i64 cr,.string dp] 73) w1 λr3 w2=>
 ∃n6,w2.cell? ((⟨r3,0,none⟩:Addr).add 1)=some (.int .i64 n6)/\
 Br (n6 == 0) (
 ∃n9,w2.cell? ((⟨r2,0,none⟩:Addr).add 2)=some (.int .i64 n9)/\
 Calls prog 155 #[.string (⟨#[32]⟩:ByteArray),.int .i64 n9] w2 λe w3=>
 ∃tX:ByteArray,e=.returned (.string tX)/\
 zQb prog ds w3 λw4=>
 R (.returned (.string tX)) w4) (
 ∃jl,w2.cell? ((⟨r2,0,none⟩:Addr).add 0)=some (.string jl)/\
 ∃d7,w2.cell? ((⟨r2,0,none⟩:Addr).add 1)=some (.int .i64 d7)/\
 ∃jm,w2.cell? ((⟨r2,0,none⟩:Addr).add 2)=some (.int .i64 jm)/\
 ∃jn,w2.cell? ((⟨r2,0,none⟩:Addr).add 3)=some (.bool jn)/\
 ∃jD,w2.cell? ((⟨r3,0,none⟩:Addr).add 0)=some (.int .i64 jD)/\
 ∃ed,w2.cell? ((⟨r3,0,none⟩:Addr).add 1)=some (.int .i64 ed)/\
 ∃ug,w2.cell? ((⟨r3,0,none⟩:Addr).add 2)=some (.string ug)/\
 Calls prog 182 #[.agg #[.string jl,.int .i64 d7,.int .i64 jm,.bool jn],.agg #[.int .i64 jD,.int .i64 ed,.string ug]] w2 λe w5=>
 ∃qe:ByteArray,e=.returned (.string qe)/\
 zQb prog ds w5 λw6=>
 R (.returned (.string qe)) w6)
theorem F188_p:Pl prog f188 [aS 0 [.str,.int .i64,.int .i64,.bool],aS 1 [.int .i64,.int .i64,.str]] xWd:=λR=>
 lf
theorem yWN (aW:ByteArray) (aI aX:Int) (aY:Bool) (bp cr:Int) (dp:ByteArray) (w:World) (R:Rt) (h:xWd R aW aI aX aY bp cr dp [] w):Calls prog 188 #[.agg #[.string aW,.int .i64 aI,.int .i64 aX,.bool aY],.agg #[.int .i64 bp,.int .i64 cr,.string dp]] w R:=
 plC F188_p func188 h
end Go.Proofs.YtaeecpjhfmcliaaGreatDoor
/- Shallow texts of functions, printed by program, each checked by the kernel against the loaded code. No condition. -/
namespace Go.Proofs.YtaeecpjhfmcliaaGreatDoor
open Go.Sh Tryz
def xWS(R:Rt)(l3:SV)(ds:Ds)(w:World):Prop:=
 alE (.cells #[.int .u8 26] 5) w λr23 w1=>
 ∃bZ:SV,∃w2,(Builtin.append_ #[22,22] 22 #[l3.v,.slice (some ⟨r23,0,none⟩) 1 1]).run prog w1=.ok (bZ.v) w2/\
 zQb prog ds w2 λw3=>
 R (.returned (bZ.v)) w3
def xWf (R:Rt) (J1:(SV × Int)->World->Prop) (p1:Option Addr) (l3 l9:SV) (iU dx:Int) (ds:Ds) (w:World):Prop:=
 Br (decide (dx<iU)) (
 ∃a4,l9.a=some a4/\0<=dx/\dx<(l9.len:Int)/\
 ∃uh,w.cell? ((a4.add (dx.toNat * 2)).add 0)=some (.bool uh)/\
 ∃cb:SV,w.cell? ((a4.add (dx.toNat * 2)).add 1)=some (cb.v)/\
 alE (.cells #[.bool false,.slice none 0 0] 67) w λr5 w5=>
 stA prog 67 (⟨r5,0,none⟩:Addr) #[.bool uh,cb.v] w5 λw6=>
 zQf p1 λa7=>
 ∃cN:SV,w6.cell? (a7.add 1)=some (cN.v)/\
 ∃ui,w6.cell? ((⟨r5,0,none⟩:Addr).add 0)=some (.bool ui)/\
 ∃br:SV,w6.cell? ((⟨r5,0,none⟩:Addr).add 1)=some (br.v)/\
 Calls prog 158 #[cN.v,.agg #[.bool ui,br.v]] w6 λe w8=>
 ∃cH:SV,e=.returned (cH.v)/\
 ∃dX:SV,∃w9,(Builtin.append_ #[22,22] 22 #[l3.v,cH.v]).run prog w8=.ok (dX.v) w9/\
 J1 (dX,(IntKind.i64.wrap (dx+1))) w9) (
 xWS R l3 ds w)
def xVs(R:Rt)(p1:Option Addr)(l3 l9:SV)(iU dx:Int)(ds:Ds)(w:World):Prop:=
 zQA (λ(J1:(SV × Int)->World->Prop) (s:SV × Int) (w:World)=>xWf R J1 p1 s.1 l9 iU s.2 ds w) (l3,dx) w
def xVC(R:Rt)(aw:Int)(ah ai:SV)(ds:Ds)(w:World):Prop:=
 alE (.cells #[.int .i64 aw,ah.v,ai.v] 35) w λr1 aP=>
 ∃kf,aP.cell? ((⟨r1,0,none⟩:Addr).add 0)=some (.int .i64 kf)/\
 ∃dC:SV,aP.cell? ((⟨r1,0,none⟩:Addr).add 1)=some (dC.v)/\
 ∃dD:SV,aP.cell? ((⟨r1,0,none⟩:Addr).add 2)=some (dD.v)/\
 Calls prog 157 #[.agg #[.int .i64 kf,dC.v,dD.v]] aP λe aU=>
 ∃l7:SV,e=.returned (l7.v)/\
 ∃l9:SV,aU.cell? ((⟨r1,0,none⟩:Addr).add 2)=some (l9.v)/\
 xVs R (some (⟨r1,0,none⟩:Addr)) l7 l9 (l9.len:Int) 0 ds aU
theorem F123_p:Pl prog f123 [aS 0 [.int .i64,.slice,.slice]] xVC:=λR=>
 pc 3 (rest [pS 1,lS 3,lS 9,iS 10,iS 11] (xVs R) (bk 0 (rest [lS 3] (xWS R) lf) (lp [lS 3,iS 11] [pS 1,lS 3,lS 9,iS 10,iS 11] (xWf R) zXI λJ1=>lf)))
theorem yWS (aw:Int) (ah ai:SV) (w:World) (R:Rt) (h:xVC R aw ah ai [] w):Calls prog 123 #[.agg #[.int .i64 aw,ah.v,ai.v]] w R:=
 plC F123_p func123 h
def F86_1(R:Rt)(aw:Int)(ah ai:SV)(ds:Ds)(w:World):Prop:=
 alE (.cells #[.int .i64 aw,ah.v,ai.v] 35) w λr1 w1=>
 ∃iF,w1.cell? ((⟨r1,0,none⟩:Addr).add 0)=some (.int .i64 iF)/\
 ∃dB:SV,w1.cell? ((⟨r1,0,none⟩:Addr).add 1)=some (dB.v)/\
 ∃cF:SV,w1.cell? ((⟨r1,0,none⟩:Addr).add 2)=some (cF.v)/\
 Calls prog 106 #[.agg #[.int .i64 iF,dB.v,cF.v]] w1 λe w2=>
 ∃n6:Int,e=.returned (.int .i64 n6)/\
 Br (n6 != 0) (
 zQb prog ds w2 λw3=>
 R (.returned (.tuple #[.slice none 0 0,.int .i64 n6])) w3) (
 ∃dL,w2.cell? ((⟨r1,0,none⟩:Addr).add 0)=some (.int .i64 dL)/\
 ∃bh:SV,w2.cell? ((⟨r1,0,none⟩:Addr).add 1)=some (bh.v)/\
 ∃bi:SV,w2.cell? ((⟨r1,0,none⟩:Addr).add 2)=some (bi.v)/\
 Calls prog 123 #[.agg #[.int .i64 dL,bh.v,bi.v]] w2 λe w4=>
 ∃dV:SV,e=.returned (dV.v)/\
 zQb prog ds w4 λw5=>
 R (.returned (.tuple #[dV.v,.int .i64 0])) w5)
theorem F86_p:Pl prog f86 [aS 0 [.int .i64,.slice,.slice]] F86_1:=λR=>
 lf
theorem xX0 (aw:Int) (ah ai:SV) (w:World) (R:Rt) (h:F86_1 R aw ah ai [] w):Calls prog 86 #[.agg #[.int .i64 aw,ah.v,ai.v]] w R:=
 plC F86_p func86 h
end Go.Proofs.YtaeecpjhfmcliaaGreatDoor
/- Shallow texts of functions, printed by program, each checked by the kernel against the loaded code. No condition. -/
namespace Go.Proofs.YtaeecpjhfmcliaaGreatDoor
open Go.Sh Tryz
def xKP(R:Rt)(s0:ByteArray)(ds:Ds)(w:World):Prop:=
 alE (.cells #[.int .i64 0,.int .i64 0,.string (⟨#[]⟩:ByteArray)] 73) w λr2 w1=>
 alE (.cells #[.int .i64 0,.int .i64 0,.string (⟨#[]⟩:ByteArray)] 73) w1 λr4 w2=>
 stA prog 73 (⟨r4,0,none⟩:Addr) #[.int .i64 1,.int .i64 0,.string (⟨#[]⟩:ByteArray)] w2 λw3=>
 Br (s0.toList == (⟨#[84]⟩:ByteArray).toList) (
 st1 ((⟨r4,0,none⟩:Addr).add 1) (.int .i64 1) w3 λw4=>
 ∃ij,w4.cell? ((⟨r4,0,none⟩:Addr).add 0)=some (.int .i64 ij)/\
 ∃dA,w4.cell? ((⟨r4,0,none⟩:Addr).add 1)=some (.int .i64 dA)/\
 ∃oE,w4.cell? ((⟨r4,0,none⟩:Addr).add 2)=some (.string oE)/\
 Br (s0.toList == (⟨#[84]⟩:ByteArray).toList) (
 stA prog 73 (⟨r2,0,none⟩:Addr) #[.int .i64 ij,.int .i64 dA,.string oE] w4 λw5=>
 zQb prog ds w5 λw6=>
 ∃ag,w6.cell? ((⟨r2,0,none⟩:Addr).add 0)=some (.int .i64 ag)/\
 ∃aj,w6.cell? ((⟨r2,0,none⟩:Addr).add 1)=some (.int .i64 aj)/\
 ∃ak,w6.cell? ((⟨r2,0,none⟩:Addr).add 2)=some (.string ak)/\
 R (.returned (.tuple #[.agg #[.int .i64 ag,.int .i64 aj,.string ak],.bool true])) w6) (
 stA prog 73 (⟨r2,0,none⟩:Addr) #[.int .i64 ij,.int .i64 dA,.string oE] w4 λw7=>
 zQb prog ds w7 λw8=>
 ∃ag,w8.cell? ((⟨r2,0,none⟩:Addr).add 0)=some (.int .i64 ag)/\
 ∃aj,w8.cell? ((⟨r2,0,none⟩:Addr).add 1)=some (.int .i64 aj)/\
 ∃ak,w8.cell? ((⟨r2,0,none⟩:Addr).add 2)=some (.string ak)/\
 R (.returned (.tuple #[.agg #[.int .i64 ag,.int .i64 aj,.string ak],.bool (s0.toList == (⟨#[70]⟩:ByteArray).toList)])) w8)) (
 ∃ij,w3.cell? ((⟨r4,0,none⟩:Addr).add 0)=some (.int .i64 ij)/\
 ∃dA,w3.cell? ((⟨r4,0,none⟩:Addr).add 1)=some (.int .i64 dA)/\
 ∃oE,w3.cell? ((⟨r4,0,none⟩:Addr).add 2)=some (.string oE)/\
 Br (s0.toList == (⟨#[84]⟩:ByteArray).toList) (
 stA prog 73 (⟨r2,0,none⟩:Addr) #[.int .i64 ij,.int .i64 dA,.string oE] w3 λw9=>
 zQb prog ds w9 λaP=>
 ∃ag,aP.cell? ((⟨r2,0,none⟩:Addr).add 0)=some (.int .i64 ag)/\
 ∃aj,aP.cell? ((⟨r2,0,none⟩:Addr).add 1)=some (.int .i64 aj)/\
 ∃ak,aP.cell? ((⟨r2,0,none⟩:Addr).add 2)=some (.string ak)/\
 R (.returned (.tuple #[.agg #[.int .i64 ag,.int .i64 aj,.string ak],.bool true])) aP) (
 stA prog 73 (⟨r2,0,none⟩:Addr) #[.int .i64 ij,.int .i64 dA,.string oE] w3 λaU=>
 zQb prog ds aU λaQ=>
 ∃ag,aQ.cell? ((⟨r2,0,none⟩:Addr).add 0)=some (.int .i64 ag)/\
 ∃aj,aQ.cell? ((⟨r2,0,none⟩:Addr).add 1)=some (.int .i64 aj)/\
 ∃ak,aQ.cell? ((⟨r2,0,none⟩:Addr).add 2)=some (.string ak)/\
 R (.returned (.tuple #[.agg #[.int .i64 ag,.int .i64 aj,.string ak],.bool (s0.toList == (⟨#[70]⟩:ByteArray).toList)])) aQ))
theorem F181_p:Pl prog f181 [sS 0] xKP:=λR=>
 lf
theorem yWh (s0:ByteArray) (w:World) (R:Rt) (h:xKP R s0 [] w):Calls prog 181 #[.string s0] w R:=
 plC F181_p func181 h
def xV8(R:Rt)(s0:ByteArray)(ds:Ds)(w:World):Prop:=
 alE (.cells #[.int .i64 0,.int .i64 0,.string (⟨#[]⟩:ByteArray)] 73) w λr2 w1=>
 Calls prog 211 #[.string s0] w1 λe w2=>
 ∃n5:Int,e=.returned (.int .i64 n5)/\
 Calls prog 190 #[.string s0,.string (⟨#[32]⟩:ByteArray)] w2 λe w3=>
 ∃s8:ByteArray,e=.returned (.string s8)/\
 stA prog 73 (⟨r2,0,none⟩:Addr) #[.int .i64 2,.int .i64 n5,.string (⟨#[]⟩:ByteArray)] w3 λw4=>
 zQb prog ds w4 λw5=>
 ∃ag,w5.cell? ((⟨r2,0,none⟩:Addr).add 0)=some (.int .i64 ag)/\
 ∃aj,w5.cell? ((⟨r2,0,none⟩:Addr).add 1)=some (.int .i64 aj)/\
 ∃ak,w5.cell? ((⟨r2,0,none⟩:Addr).add 2)=some (.string ak)/\
 R (.returned (.tuple #[.agg #[.int .i64 ag,.int .i64 aj,.string ak],.bool (!(s8.toList == (⟨#[]⟩:ByteArray).toList))])) w5
theorem F183_p:Pl prog f183 [sS 0] xV8:=λR=>
 lf
theorem yVz (s0:ByteArray) (w:World) (R:Rt) (h:xV8 R s0 [] w):Calls prog 183 #[.string s0] w R:=
 plC F183_p func183 h
def xVa(R:Rt)(s0:ByteArray)(ds:Ds)(w:World):Prop:=
 alE (.cells #[.int .i64 0,.int .i64 0,.string (⟨#[]⟩:ByteArray)] 73) w λr2 w1=>
 Calls prog 213 #[.string s0] w1 λe w2=>
 ∃qL:Int,∃qM:Bool,e=.returned (.tuple #[.int .i64 qL,.bool qM])/\
 stA prog 73 (⟨r2,0,none⟩:Addr) #[.int .i64 3,.int .i64 qL,.string (⟨#[]⟩:ByteArray)] w2 λw3=>
 zQb prog ds w3 λw4=>
 ∃ag,w4.cell? ((⟨r2,0,none⟩:Addr).add 0)=some (.int .i64 ag)/\
 ∃aj,w4.cell? ((⟨r2,0,none⟩:Addr).add 1)=some (.int .i64 aj)/\
 ∃ak,w4.cell? ((⟨r2,0,none⟩:Addr).add 2)=some (.string ak)/\
 R (.returned (.tuple #[.agg #[.int .i64 ag,.int .i64 aj,.string ak],.bool qM])) w4
theorem F185_p:Pl prog f185 [sS 0] xVa:=λR=>
 lf
theorem yW3 (s0:ByteArray) (w:World) (R:Rt) (h:xVa R s0 [] w):Calls prog 185 #[.string s0] w R:=
 plC F185_p func185 h
def xKh(R:Rt)(s0:ByteArray)(ds:Ds)(w:World):Prop:=
 alE (.cells #[.int .i64 0,.int .i64 0,.string (⟨#[]⟩:ByteArray)] 73) w λr2 w1=>
 Calls prog 119 #[.string s0,.string (⟨#[32]⟩:ByteArray)] w1 λe w2=>
 ∃s5:ByteArray,e=.returned (.string s5)/\
 stA prog 73 (⟨r2,0,none⟩:Addr) #[.int .i64 4,.int .i64 0,.string s5] w2 λw3=>
 zQb prog ds w3 λw4=>
 ∃ag,w4.cell? ((⟨r2,0,none⟩:Addr).add 0)=some (.int .i64 ag)/\
 ∃aj,w4.cell? ((⟨r2,0,none⟩:Addr).add 1)=some (.int .i64 aj)/\
 ∃ak,w4.cell? ((⟨r2,0,none⟩:Addr).add 2)=some (.string ak)/\
 R (.returned (.tuple #[.agg #[.int .i64 ag,.int .i64 aj,.string ak],.bool true])) w4
theorem F187_p:Pl prog f187 [sS 0] xKh:=λR=>
 lf
theorem yW5 (s0:ByteArray) (w:World) (R:Rt) (h:xKh R s0 [] w):Calls prog 187 #[.string s0] w R:=
 plC F187_p func187 h
def xKv(R:Rt)(s0:ByteArray)(ds:Ds)(w:World):Prop:=
 alE (.cells #[.int .i64 0,.int .i64 0,.string (⟨#[]⟩:ByteArray)] 73) w λr2 w1=>
 Calls prog 211 #[.string s0] w1 λe w2=>
 ∃n5:Int,e=.returned (.int .i64 n5)/\
 stA prog 73 (⟨r2,0,none⟩:Addr) #[.int .i64 2,.int .i64 n5,.string (⟨#[]⟩:ByteArray)] w2 λw3=>
 zQb prog ds w3 λw4=>
 ∃ag,w4.cell? ((⟨r2,0,none⟩:Addr).add 0)=some (.int .i64 ag)/\
 ∃aj,w4.cell? ((⟨r2,0,none⟩:Addr).add 1)=some (.int .i64 aj)/\
 ∃ak,w4.cell? ((⟨r2,0,none⟩:Addr).add 2)=some (.string ak)/\
 R (.returned (.tuple #[.agg #[.int .i64 ag,.int .i64 aj,.string ak],.bool true])) w4
theorem F189_p:Pl prog f189 [sS 0] xKv:=λR=>
 lf
theorem yWZ (s0:ByteArray) (w:World) (R:Rt) (h:xKv R s0 [] w):Calls prog 189 #[.string s0] w R:=
 plC F189_p func189 h
def xQF(R:Rt)(s0:ByteArray)(ds:Ds)(w:World):Prop:=
 Br (s0.toList == (⟨#[32,32,32,32,32,32,32,32]⟩:ByteArray).toList) (
 zQb prog ds w λw1=>
 R (.returned (.tuple #[.int .i64 0,.bool true])) w1) (
 Br ((s0.size:Int) != 8) (
 zQb prog ds w λw2=>
 R (.returned (.tuple #[.int .i64 0,.bool false])) w2) (
 Calls prog 190 #[.string s0,.string (⟨#[48,49,50,51,52,53,54,55,56,57]⟩:ByteArray)] w λe w3=>
 ∃qe:ByteArray,e=.returned (.string qe)/\
 Br (!(qe.toList == (⟨#[]⟩:ByteArray).toList)) (
 zQb prog ds w3 λw4=>
 R (.returned (.tuple #[.int .i64 0,.bool false])) w4) (
 dwE w3 λw5=>
 0<=(4:Int)/\(4:Int).toNat<=s0.size/\0<=(4:Int).toNat/\
 0<=(6:Int)/\(6:Int).toNat<=s0.size/\0<=(4:Int)/\(4:Int).toNat<=(6:Int).toNat/\
 s0.size<=s0.size/\0<=(6:Int)/\(6:Int).toNat<=s0.size/\
 Calls prog 211 #[.string (s0.extract 0 ((4:Int).toNat))] w5 λe w6=>
 ∃iR:Int,e=.returned (.int .i64 iR)/\
 Calls prog 211 #[.string (s0.extract ((4:Int).toNat) ((6:Int).toNat))] w6 λe w7=>
 ∃de:Int,e=.returned (.int .i64 de)/\
 Calls prog 211 #[.string (s0.extract ((6:Int).toNat) s0.size)] w7 λe w8=>
 ∃cw:Int,e=.returned (.int .i64 cw)/\
 Calls prog 226 #[.int .i64 iR,.int .i64 de,.int .i64 cw] w8 λe w9=>
 ∃eQ:Int,∃fp:Int,e=.returned (.tuple #[.int .i64 eQ,.int .i64 fp])/\
 zQb prog ds w9 λaP=>
 R (.returned (.tuple #[.int .i64 eQ,.bool (fp == 0)])) aP)))
theorem F213_p:Pl prog f213 [sS 0] xQF:=λR=>
 lf
theorem yWb (s0:ByteArray) (w:World) (R:Rt) (h:xQF R s0 [] w):Calls prog 213 #[.string s0] w R:=
 plC F213_p func213 h
def yZz(R:Rt)(n3 n4:Int)(ds:Ds)(w:World):Prop:=
 zQb prog ds w λw1=>
 R (.returned (.int .i64 (IntKind.i64.wrap (n3 * n4)))) w1
def xVz (R:Rt) (J1:(Int × Int)->World->Prop) (s0:ByteArray) (n3 n4 cv gi:Int) (ds:Ds) (w:World):Prop:=
 Br (decide (gi<cv)) (
 ∃b32:UInt8,0<=gi/\s0[gi.toNat]?=some b32/\
 Br (decide ((b32.toNat:Int)<48)) (
 yZz R n3 n4 ds w) (
 ∃uj:UInt8,0<=gi/\s0[gi.toNat]?=some uj/\
 Br (decide ((uj.toNat:Int) > 57)) (
 yZz R n3 n4 ds w) (
 ∃b44:UInt8,0<=gi/\s0[gi.toNat]?=some b44/\
 ∃dm:Int,∃w2,(Builtin.min_ #[3,3] 3 #[.int .i64 (IntKind.i64.wrap ((IntKind.i64.wrap (n4 * 10))+(IntKind.i64.wrap (IntKind.u8.wrap ((b44.toNat:Int) - 48))))),.int .i64 1000000000000000]).run prog w=.ok (.int .i64 dm) w2/\
 J1 (dm,(IntKind.i64.wrap (gi+1))) w2))) (
 yZz R n3 n4 ds w)
def xJL(R:Rt)(s0:ByteArray)(n3 n4 cv gi:Int)(ds:Ds)(w:World):Prop:=
 zQA (λ(J1:(Int × Int)->World->Prop) (s:Int × Int) (w:World)=>xVz R J1 s0 n3 s.1 cv s.2 ds w) (n4,gi) w
def zV3(R:Rt)(s0:ByteArray)(n3:Int)(ds:Ds)(w:World):Prop:=
 xJL R s0 n3 0 (s0.size:Int) 0 ds w
def xVF(R:Rt)(s0:ByteArray)(ds:Ds)(w:World):Prop:=
 Calls prog 224 #[.string s0,.string (⟨#[32]⟩:ByteArray)] w λe w3=>
 ∃s7:ByteArray,e=.returned (.string s7)/\
 Br (!(s7.toList == (⟨#[]⟩:ByteArray).toList)) (
 ∃cL:UInt8,0<=(0:Int)/\s7[(0:Int).toNat]?=some cL/\
 Br ((cL.toNat:Int) == 45) (
 ∃uk:UInt8,0<=(0:Int)/\s7[(0:Int).toNat]?=some uk/\
 Br ((uk.toNat:Int) == 45) (
 s7.size<=s7.size/\0<=(1:Int)/\(1:Int).toNat<=s7.size/\
 zV3 R (s7.extract ((1:Int).toNat) s7.size) (-1) ds w3) (
 s7.size<=s7.size/\0<=(1:Int)/\(1:Int).toNat<=s7.size/\
 zV3 R (s7.extract ((1:Int).toNat) s7.size) 1 ds w3)) (
 ∃iQ:UInt8,0<=(0:Int)/\s7[(0:Int).toNat]?=some iQ/\
 Br ((iQ.toNat:Int) == 43) (
 ∃uk:UInt8,0<=(0:Int)/\s7[(0:Int).toNat]?=some uk/\
 Br ((uk.toNat:Int) == 45) (
 s7.size<=s7.size/\0<=(1:Int)/\(1:Int).toNat<=s7.size/\
 zV3 R (s7.extract ((1:Int).toNat) s7.size) (-1) ds w3) (
 s7.size<=s7.size/\0<=(1:Int)/\(1:Int).toNat<=s7.size/\
 zV3 R (s7.extract ((1:Int).toNat) s7.size) 1 ds w3)) (
 zV3 R s7 1 ds w3))) (
 zV3 R s7 1 ds w3)
theorem F211_p:Pl prog f211 [sS 0] xVF:=λR=>
 pc 5 (rest [sS 0,iS 3] (zV3 R) (pc 2 (rest [sS 0,iS 3,iS 4,iS 26,iS 27] (xJL R) (bk 0 (rest [iS 3,iS 4] (yZz R) lf) (lp [iS 4,iS 27] [sS 0,iS 3,iS 4,iS 26,iS 27] (xVz R) zXI λJ1=>lf)))))
theorem yWQ (s0:ByteArray) (w:World) (R:Rt) (h:xVF R s0 [] w):Calls prog 211 #[.string s0] w R:=
 plC F211_p func211 h
end Go.Proofs.YtaeecpjhfmcliaaGreatDoor
/- Shallow texts of functions, printed by program, each checked by the kernel against the loaded code. No condition. -/
namespace Go.Proofs.YtaeecpjhfmcliaaGreatDoor
open Go.Sh Tryz
def F18_1(R:Rt)(ds:Ds)(w:World):Prop:=
 zQb prog ds w λw1=>
 R (.returned (.bool true)) w1
def F18_2 (R:Rt) (J1:(Int)->World->Prop) (p2 p3:Option Addr) (n5:Int) (ds:Ds) (w:World):Prop:=
 zQf p2 λa2=>
 ∃oo:SV,w.cell? (a2.add 2)=some (oo.v)/\
 Br (decide (n5<(oo.len:Int))) (
 dwE w λw3=>
 zQf p2 λa4=>
 ∃iz:SV,w3.cell? (a4.add 2)=some (iz.v)/\
 ∃a5,iz.a=some a5/\0<=n5/\n5<(iz.len:Int)/\
 ∃ul,w3.cell? ((a5.add (n5.toNat * 2)).add 0)=some (.bool ul)/\
 ∃kT:SV,w3.cell? ((a5.add (n5.toNat * 2)).add 1)=some (kT.v)/\
 zQf p3 λa6=>
 ∃ke:SV,w3.cell? (a6.add 2)=some (ke.v)/\
 ∃a7,ke.a=some a7/\0<=n5/\n5<(ke.len:Int)/\
 ∃ny,w3.cell? ((a7.add (n5.toNat * 2)).add 0)=some (.bool ny)/\
 ∃fy:SV,w3.cell? ((a7.add (n5.toNat * 2)).add 1)=some (fy.v)/\
 Calls prog 70 #[.agg #[.bool ul,kT.v],.agg #[.bool ny,fy.v]] w3 λe w8=>
 ∃b45:Bool,e=.returned (.bool b45)/\
 Br (!b45) (
 zQb prog ds w8 λw9=>
 R (.returned (.bool false)) w9) (
 J1 (IntKind.i64.wrap (n5+1)) w8)) (
 F18_1 R ds w)
def F18_3(R:Rt)(p2 p3:Option Addr)(n5:Int)(ds:Ds)(w:World):Prop:=
 zQA (λ(J1:(Int)->World->Prop) (s:Int) (w:World)=>F18_2 R J1 p2 p3 s ds w) n5 w
def F18_5(R:Rt)(aw:Int)(ah ai:SV)(bp:Int)(aZ bK:SV)(ds:Ds)(w:World):Prop:=
 alE (.cells #[.int .i64 aw,ah.v,ai.v] 35) w λr2 aP=>
 alE (.cells #[.int .i64 bp,aZ.v,bK.v] 35) aP λr3 aU=>
 ∃n7,aU.cell? (⟨r2,0,none⟩:Addr)=some (.int .i64 n7)/\
 ∃n9,aU.cell? (⟨r3,0,none⟩:Addr)=some (.int .i64 n9)/\
 Br (n7 != n9) (
 zQb prog ds aU λaQ=>
 R (.returned (.bool false)) aQ) (
 ∃cA:SV,aU.cell? ((⟨r2,0,none⟩:Addr).add 1)=some (cA.v)/\
 ∃e7:SV,aU.cell? ((⟨r3,0,none⟩:Addr).add 1)=some (e7.v)/\
 Calls prog 69 #[cA.v,e7.v] aU λe aJ=>
 ∃iQ:Bool,e=.returned (.bool iQ)/\
 Br (!iQ) (
 zQb prog ds aJ λbB=>
 R (.returned (.bool false)) bB) (
 ∃cz:SV,aJ.cell? ((⟨r2,0,none⟩:Addr).add 2)=some (cz.v)/\
 ∃bZ:SV,aJ.cell? ((⟨r3,0,none⟩:Addr).add 2)=some (bZ.v)/\
 Br ((cz.len:Int) != (bZ.len:Int)) (
 zQb prog ds aJ λbm=>
 R (.returned (.bool false)) bm) (
 F18_3 R (some (⟨r2,0,none⟩:Addr)) (some (⟨r3,0,none⟩:Addr)) 0 ds aJ)))
theorem F18_p:Pl prog f18 [aS 0 [.int .i64,.slice,.slice],aS 1 [.int .i64,.slice,.slice]] F18_5:=λR=>
 pc 4 (rest [pS 2,pS 3,iS 5] (F18_3 R) (bk 0 (rest [] (F18_1 R) lf) (lp [iS 5] [pS 2,pS 3,iS 5] (F18_2 R) zXI λJ1=>lf)))
theorem xXa (aw:Int) (ah ai:SV) (bp:Int) (aZ bK:SV) (w:World) (R:Rt) (h:F18_5 R aw ah ai bp aZ bK [] w):Calls prog 18 #[.agg #[.int .i64 aw,ah.v,ai.v],.agg #[.int .i64 bp,aZ.v,bK.v]] w R:=
 plC F18_p func18 h
end Go.Proofs.YtaeecpjhfmcliaaGreatDoor
