import Derived.Test.YtaeecpjhfmcliaaGreatDoorProg
import Derived.Test.YtaeecpjhfmcliaaGreatDoorShTwentyEight
/- Shallow texts of functions, printed by program, each checked by the kernel against the loaded code. No condition. -/
set_option maxRecDepth 100000
set_option linter.unusedVariables false
namespace Go.Proofs.YtaeecpjhfmcliaaGreatDoor
open Go.Sh Tryz
def xV6(R:Rt)(ax aI:Int)(fZ:ByteArray)(ds:Ds)(w:World):Prop:=
 alE (.cells #[.int .i64 ax,.int .i64 aI,.string fZ] 73) w λr1 w1=>
 ∃s4,w1.cell? ((⟨r1,0,none⟩:Addr).add 2)=some (.string s4)/\
 Br (decide ((s4.size:Int) > 2048)) (
 zQb prog ds w1 λw2=>
 R (.returned (.int .i64 3)) w2) (
 ∃dF,w1.cell? ((⟨r1,0,none⟩:Addr).add 0)=some (.int .i64 dF)/\
 ∃dp,w1.cell? ((⟨r1,0,none⟩:Addr).add 1)=some (.int .i64 dp)/\
 ∃qZ,w1.cell? ((⟨r1,0,none⟩:Addr).add 2)=some (.string qZ)/\
 Calls prog 147 #[.agg #[.int .i64 dF,.int .i64 dp,.string qZ]] w1 λe w3=>
 ∃b8:Bool,e=.returned (.bool b8)/\
 Br (!b8) (
 zQb prog ds w3 λw4=>
 R (.returned (.int .i64 1)) w4) (
 zQb prog ds w3 λw5=>
 R (.returned (.int .i64 0)) w5))
theorem F117_p:Pl prog f117 [aS 0 [.int .i64,.int .i64,.str]] xV6:=λR=>
 lf
theorem yV9 (ax aI:Int) (fZ:ByteArray) (w:World) (R:Rt) (h:xV6 R ax aI fZ [] w):Calls prog 117 #[.agg #[.int .i64 ax,.int .i64 aI,.string fZ]] w R:=
 plC F117_p func117 h
def yQz(R:Rt)(p1:Option Addr)(df:Int)(ds:Ds)(w:World):Prop:=
 Br (df == 0) (
 zQg p1 λa1=>
 ∃cu,w.cell? (a1.add 1)=some (.int .i64 cu)/\
 zQb prog ds w λw2=>
 R (.returned (.bool (cu == 0))) w2) (
 Br (df == 1) (
 zQg p1 λa3=>
 ∃tR,w.cell? (a3.add 1)=some (.int .i64 tR)/\
 Br (tR == 0) (
 zQb prog ds w λw4=>
 R (.returned (.bool true)) w4) (
 zQg p1 λa5=>
 ∃tS,w.cell? (a5.add 1)=some (.int .i64 tS)/\
 zQb prog ds w λw6=>
 R (.returned (.bool (tS == 1))) w6)) (
 Br (df == 2) (
 zQg p1 λa7=>
 ∃nK,w.cell? (a7.add 1)=some (.int .i64 nK)/\
 Calls prog 153 #[.int .i64 nK] w λe w8=>
 ∃pC:Bool,e=.returned (.bool pC)/\
 zQb prog ds w8 λw9=>
 R (.returned (.bool pC)) w9) (
 Br (df == 3) (
 zQg p1 λdx=>
 ∃kO,w.cell? (dx.add 1)=some (.int .i64 kO)/\
 Calls prog 191 #[.int .i64 kO] w λe aV=>
 ∃b47:Bool,e=.returned (.bool b47)/\
 zQb prog ds aV λaO=>
 R (.returned (.bool b47)) aO) (
 zQg p1 λlq=>
 ∃qK,w.cell? lq=some (.int .i64 qK)/\
 zQb prog ds w λbq=>
 R (.returned (.bool (qK == 4))) bq))))
def xWV(R:Rt)(ax aI:Int)(fZ:ByteArray)(ds:Ds)(w:World):Prop:=
 alE (.cells #[.int .i64 ax,.int .i64 aI,.string fZ] 73) w λr1 bp=>
 ∃n4,bp.cell? (⟨r1,0,none⟩:Addr)=some (.int .i64 n4)/\
 Br (n4 != 4) (
 ∃s8,bp.cell? ((⟨r1,0,none⟩:Addr).add 2)=some (.string s8)/\
 Br (!(s8.toList == (⟨#[]⟩:ByteArray).toList)) (
 zQb prog ds bp λbG=>
 R (.returned (.bool false)) bG) (
 ∃dR,bp.cell? (⟨r1,0,none⟩:Addr)=some (.int .i64 dR)/\
 Br (dR == 4) (
 ∃lr,bp.cell? ((⟨r1,0,none⟩:Addr).add 1)=some (.int .i64 lr)/\
 Br (lr != 0) (
 zQb prog ds bp λbH=>
 R (.returned (.bool false)) bH) (
 ∃df,bp.cell? (⟨r1,0,none⟩:Addr)=some (.int .i64 df)/\
 yQz R (some (⟨r1,0,none⟩:Addr)) df ds bp)) (
 ∃df,bp.cell? (⟨r1,0,none⟩:Addr)=some (.int .i64 df)/\
 yQz R (some (⟨r1,0,none⟩:Addr)) df ds bp))) (
 ∃dR,bp.cell? (⟨r1,0,none⟩:Addr)=some (.int .i64 dR)/\
 Br (dR == 4) (
 ∃lr,bp.cell? ((⟨r1,0,none⟩:Addr).add 1)=some (.int .i64 lr)/\
 Br (lr != 0) (
 zQb prog ds bp λbO=>
 R (.returned (.bool false)) bO) (
 ∃df,bp.cell? (⟨r1,0,none⟩:Addr)=some (.int .i64 df)/\
 yQz R (some (⟨r1,0,none⟩:Addr)) df ds bp)) (
 ∃df,bp.cell? (⟨r1,0,none⟩:Addr)=some (.int .i64 df)/\
 yQz R (some (⟨r1,0,none⟩:Addr)) df ds bp))
theorem F147_p:Pl prog f147 [aS 0 [.int .i64,.int .i64,.str]] xWV:=λR=>
 pc 4 (rest [pS 1,iS 22] (yQz R) lf)
theorem yW9 (ax aI:Int) (fZ:ByteArray) (w:World) (R:Rt) (h:xWV R ax aI fZ [] w):Calls prog 147 #[.agg #[.int .i64 ax,.int .i64 aI,.string fZ]] w R:=
 plC F147_p func147 h
def xVo(R:Rt)(n0:Int)(ds:Ds)(w:World):Prop:=
 Br (decide (n0 >= (-1000000000000000))) (
 zQb prog ds w λw1=>
 R (.returned (.bool (decide (n0<=1000000000000000)))) w1) (
 zQb prog ds w λw2=>
 R (.returned (.bool false)) w2)
theorem F153_p:Pl prog f153 [iS 0] xVo:=λR=>
 lf
theorem yKZ (n0:Int) (w:World) (R:Rt) (h:xVo R n0 [] w):Calls prog 153 #[.int .i64 n0] w R:=
 plC F153_p func153 h
def xYm(R:Rt)(n0:Int)(ds:Ds)(w:World):Prop:=
 Br (decide (n0 >= 0)) (
 zQb prog ds w λw1=>
 R (.returned (.bool (decide (n0<=3652059)))) w1) (
 zQb prog ds w λw2=>
 R (.returned (.bool false)) w2)
theorem F191_p:Pl prog f191 [iS 0] xYm:=λR=>
 lf
theorem yVj (n0:Int) (w:World) (R:Rt) (h:xYm R n0 [] w):Calls prog 191 #[.int .i64 n0] w R:=
 plC F191_p func191 h
def zWc(R:Rt)(p1:Option Addr)(b3:Bool)(ds:Ds)(w:World):Prop:=
 Br (!b3) (
 zQb prog ds w λw1=>
 R (.returned (.int .i64 1)) w1) (
 zQg p1 λa2=>
 ∃qK,w.cell? a2=some (.int .i64 qK)/\
 Br (qK != 4) (
 zQg p1 λa3=>
 ∃s53,w.cell? (a3.add 2)=some (.string s53)/\
 Br (!(s53.toList == (⟨#[]⟩:ByteArray).toList)) (
 zQb prog ds w λw4=>
 R (.returned (.int .i64 1)) w4) (
 zQb prog ds w λw5=>
 R (.returned (.int .i64 0)) w5)) (
 zQb prog ds w λw6=>
 R (.returned (.int .i64 0)) w6))
def xK9(R:Rt)(ax aI:Int)(fZ:ByteArray)(ds:Ds)(w:World):Prop:=
 alE (.cells #[.int .i64 ax,.int .i64 aI,.string fZ] 73) w λr1 w7=>
 ∃s5,w7.cell? ((⟨r1,0,none⟩:Addr).add 2)=some (.string s5)/\
 Br (decide ((s5.size:Int) > 2048)) (
 zQb prog ds w7 λw8=>
 R (.returned (.int .i64 3)) w8) (
 ∃n9,w7.cell? (⟨r1,0,none⟩:Addr)=some (.int .i64 n9)/\
 Br (n9 == 0) (
 ∃dR,w7.cell? ((⟨r1,0,none⟩:Addr).add 1)=some (.int .i64 dR)/\
 zWc R (some (⟨r1,0,none⟩:Addr)) (dR == 0) ds w7) (
 Br (n9 == 1) (
 ∃iF,w7.cell? ((⟨r1,0,none⟩:Addr).add 1)=some (.int .i64 iF)/\
 Br (iF == 0) (
 zWc R (some (⟨r1,0,none⟩:Addr)) true ds w7) (
 ∃df,w7.cell? ((⟨r1,0,none⟩:Addr).add 1)=some (.int .i64 df)/\
 zWc R (some (⟨r1,0,none⟩:Addr)) (df == 1) ds w7)) (
 Br (n9 == 2) (
 ∃kP,w7.cell? ((⟨r1,0,none⟩:Addr).add 1)=some (.int .i64 kP)/\
 Calls prog 167 #[.int .i64 kP] w7 λe w9=>
 ∃yP:Bool,e=.returned (.bool yP)/\
 zWc R (some (⟨r1,0,none⟩:Addr)) yP ds w9) (
 Br (n9 == 3) (
 ∃re,w7.cell? ((⟨r1,0,none⟩:Addr).add 1)=some (.int .i64 re)/\
 Br (decide (re >= 0)) (
 ∃iq,w7.cell? ((⟨r1,0,none⟩:Addr).add 1)=some (.int .i64 iq)/\
 zWc R (some (⟨r1,0,none⟩:Addr)) (decide (iq<=3652059)) ds w7) (
 zWc R (some (⟨r1,0,none⟩:Addr)) false ds w7)) (
 Br (n9 == 4) (
 ∃eH,w7.cell? ((⟨r1,0,none⟩:Addr).add 1)=some (.int .i64 eH)/\
 zWc R (some (⟨r1,0,none⟩:Addr)) (eH == 0) ds w7) (
 zWc R (some (⟨r1,0,none⟩:Addr)) false ds w7))))))
theorem F132_p:Pl prog f132 [aS 0 [.int .i64,.int .i64,.str]] xK9:=λR=>
 pc 6 (rest [pS 1,bS 3] (zWc R) lf)
theorem yVz (ax aI:Int) (fZ:ByteArray) (w:World) (R:Rt) (h:xK9 R ax aI fZ [] w):Calls prog 132 #[.agg #[.int .i64 ax,.int .i64 aI,.string fZ]] w R:=
 plC F132_p func132 h
def xVA(R:Rt)(n0:Int)(ds:Ds)(w:World):Prop:=
 Br (decide (n0 >= (-1000000000000000))) (
 zQb prog ds w λw1=>
 R (.returned (.bool (decide (n0<=1000000000000000)))) w1) (
 zQb prog ds w λw2=>
 R (.returned (.bool false)) w2)
theorem F167_p:Pl prog f167 [iS 0] xVA:=λR=>
 lf
theorem yVU (n0:Int) (w:World) (R:Rt) (h:xVA R n0 [] w):Calls prog 167 #[.int .i64 n0] w R:=
 plC F167_p func167 h
end Go.Proofs.YtaeecpjhfmcliaaGreatDoor
/- Shallow texts of functions, printed by program, each checked by the kernel against the loaded code. No condition. -/
namespace Go.Proofs.YtaeecpjhfmcliaaGreatDoor
open Go.Sh Tryz
def yK9(R:Rt)(p1 p3:Option Addr)(b4:Bool)(ds:Ds)(w:World):Prop:=
 Br b4 (
 zQg p1 λa1=>
 ∃xh,w.cell? a1=some (.string xh)/\
 Calls prog 146 #[.string xh] w λe w2=>
 ∃ke:Bool,e=.returned (.bool ke)/\
 Br ke (
 zQg p1 λa3=>
 ∃km,w2.cell? (a3.add 2)=some (.int .i64 km)/\
 zQg p3 λa4=>
 ∃df,w2.cell? (a4.add 1)=some (.int .i64 df)/\
 Br (decide (km >= df)) (
 zQg p1 λa5=>
 ∃gb,w2.cell? (a5.add 2)=some (.int .i64 gb)/\
 zQg p3 λa6=>
 ∃o2,w2.cell? (a6.add 2)=some (.int .i64 o2)/\
 zQb prog ds w2 λw7=>
 R (.returned (.bool (decide (gb<=o2)))) w7) (
 zQb prog ds w2 λw8=>
 R (.returned (.bool false)) w8)) (
 zQb prog ds w2 λw9=>
 R (.returned (.bool false)) w9)) (
 zQb prog ds w λaN=>
 R (.returned (.bool false)) aN)
def xVO(R:Rt)(aW:ByteArray)(aI aX:Int)(aY:Bool)(ds:Ds)(w:World):Prop:=
 alE (.cells #[.string aW,.int .i64 aI,.int .i64 aX,.bool aY] 129) w λr1 aV=>
 dwE aV λaO=>
 ∃S1:World->Prop,S1 aO/\
 ∃n8,(∀w',S1 w'->w'.cell? ((⟨r1,0,none⟩:Addr).add 1)=some (.int .i64 n8))/\
 (
 Calls prog 145 #[] aO λe aH=>
 ∃m6:Option Nat,e=.returned (.map m6)/\
 ∃S2:World->Prop,S2 aH/\(∀u,S2 u->S1 u)/\
 ∃ko:Int,∃kq:Int,∃kr:Int,∃ku:Value,∃kv:Value,∃rg:Bool,(∀w',S2 w'->(Instr.lookup 176 (.map m6) (.int .i64 n8) true).run prog w'=.ok (.tuple #[.agg #[.int .u8 ko,.int .i64 kq,.int .i64 kr,ku,kv],.bool rg]) w')/\
 alE (.cells #[.int .u8 0,.int .i64 0,.int .i64 0,.nilFunc,.nilFunc] 174) aH λr3 bq=>
 ∃S3:World->Prop,S3 bq/\(∀u,S3 u->S2 u)/\
 stA prog 174 (⟨r3,0,none⟩:Addr) #[.int .u8 ko,.int .i64 kq,.int .i64 kr,ku,kv] bq λbp=>
 yK9 R (some (⟨r1,0,none⟩:Addr)) (some (⟨r3,0,none⟩:Addr)) rg ds bp)/\(
 alE (.cells #[.int .u8 0,.int .i64 0,.int .i64 0,.nilFunc,.nilFunc] 174) aO λr3 bG=>
 ∃S4:World->Prop,S4 bG/\(∀u,S4 u->S1 u)/\
 Calls prog 145 #[] bG λe bH=>
 ∃m6:Option Nat,e=.returned (.map m6)/\
 ∃S5:World->Prop,S5 bH/\(∀u,S5 u->S4 u)/\
 ∃ko:Int,∃kq:Int,∃kr:Int,∃ku:Value,∃kv:Value,∃rg:Bool,(∀w',S5 w'->(Instr.lookup 176 (.map m6) (.int .i64 n8) true).run prog w'=.ok (.tuple #[.agg #[.int .u8 ko,.int .i64 kq,.int .i64 kr,ku,kv],.bool rg]) w')/\
 stA prog 174 (⟨r3,0,none⟩:Addr) #[.int .u8 ko,.int .i64 kq,.int .i64 kr,ku,kv] bH λbO=>
 yK9 R (some (⟨r1,0,none⟩:Addr)) (some (⟨r3,0,none⟩:Addr)) rg ds bO)
theorem F115_p:Pl prog f115 [aS 0 [.str,.int .i64,.int .i64,.bool]] xVO:=λR=>
 pc 2 (rest [pS 1,pS 3,bS 4] (yK9 R) lf)
theorem yVE (aW:ByteArray) (aI aX:Int) (aY:Bool) (w:World) (R:Rt) (h:xVO R aW aI aX aY [] w):Calls prog 115 #[.agg #[.string aW,.int .i64 aI,.int .i64 aX,.bool aY]] w R:=
 plC F115_p func115 h
def xXe(R:Rt)(s0:ByteArray)(ds:Ds)(w:World):Prop:=
 Br (!(s0.toList == (⟨#[]⟩:ByteArray).toList)) (
 Br (decide ((s0.size:Int)<=10)) (
 Calls prog 190 #[.string s0,.string (⟨#[65,66,67,68,69,70,71,72,73,74,75,76,77,78,79,80,81,82,83,84,85,86,87,88,89,90,48,49,50,51,52,53,54,55,56,57,95]⟩:ByteArray)] w λe w1=>
 ∃sW:ByteArray,e=.returned (.string sW)/\
 Br (sW.toList == (⟨#[]⟩:ByteArray).toList) (
 ∃sX:UInt8,0<=(0:Int)/\s0[(0:Int).toNat]?=some sX/\
 Br (decide ((sX.toNat:Int) >= 65)) (
 ∃qn:UInt8,0<=(0:Int)/\s0[(0:Int).toNat]?=some qn/\
 zQb prog ds w1 λw2=>
 R (.returned (.bool (decide ((qn.toNat:Int)<=90)))) w2) (
 zQb prog ds w1 λw3=>
 R (.returned (.bool false)) w3)) (
 zQb prog ds w1 λw4=>
 R (.returned (.bool false)) w4)) (
 zQb prog ds w λw5=>
 R (.returned (.bool false)) w5)) (
 zQb prog ds w λw6=>
 R (.returned (.bool false)) w6)
theorem F146_p:Pl prog f146 [sS 0] xXe:=λR=>
 lf
theorem yWM (s0:ByteArray) (w:World) (R:Rt) (h:xXe R s0 [] w):Calls prog 146 #[.string s0] w R:=
 plC F146_p func146 h
def xVK(R:Rt)(ds:Ds)(w:World):Prop:=
 alE (.map #[] 0) w λr1 w1=>
 doE prog (Instr.mapUpdate 176 (.map (some r1)) (.int .i64 1) (.agg #[.int .u8 76,.int .i64 1,.int .i64 1,.func (.func 180) #[] #[],.func (.func 181) #[] #[]])) w1 λw2=>
 doE prog (Instr.mapUpdate 176 (.map (some r1)) (.int .i64 2) (.agg #[.int .u8 78,.int .i64 1,.int .i64 15,.func (.func 182) #[] #[],.func (.func 183) #[] #[]])) w2 λw3=>
 doE prog (Instr.mapUpdate 176 (.map (some r1)) (.int .i64 3) (.agg #[.int .u8 68,.int .i64 8,.int .i64 8,.func (.func 184) #[] #[],.func (.func 185) #[] #[]])) w3 λw4=>
 doE prog (Instr.mapUpdate 176 (.map (some r1)) (.int .i64 4) (.agg #[.int .u8 67,.int .i64 1,.int .i64 254,.func (.func 186) #[] #[],.func (.func 187) #[] #[]])) w4 λw5=>
 doE prog (Instr.mapUpdate 176 (.map (some r1)) (.int .i64 5) (.agg #[.int .u8 77,.int .i64 8,.int .i64 8,.func (.func 188) #[] #[],.func (.func 189) #[] #[]])) w5 λw6=>
 zQb prog ds w6 λw7=>
 R (.returned (.map (some r1))) w7
theorem F145_p:Pl prog f145 [] xVK:=λR=>
 lf
theorem yVc  (w:World) (R:Rt) (h:xVK R [] w):Calls prog 145 #[] w R:=
 plC F145_p func145 h
def xJU(R:Rt)(n0:Int)(ds:Ds)(w:World):Prop:=
 Br (decide (n0 >= 0)) (
 zQb prog ds w λw1=>
 R (.returned (.bool (decide (n0<=2)))) w1) (
 zQb prog ds w λw2=>
 R (.returned (.bool false)) w2)
theorem F116_p:Pl prog f116 [iS 0] xJU:=λR=>
 lf
theorem yWt (n0:Int) (w:World) (R:Rt) (h:xJU R n0 [] w):Calls prog 116 #[.int .i64 n0] w R:=
 plC F116_p func116 h
def F91_1(R:Rt)(aW:ByteArray)(aI aX:Int)(aY:Bool)(ds:Ds)(w:World):Prop:=
 alE (.cells #[.string aW,.int .i64 aI,.int .i64 aX,.bool aY] 129) w λr1 w1=>
 ∃s4,w1.cell? (⟨r1,0,none⟩:Addr)=some (.string s4)/\
 Calls prog 130 #[.string s4] w1 λe w2=>
 ∃b5:Bool,e=.returned (.bool b5)/\
 Br (!b5) (
 zQb prog ds w2 λw3=>
 R (.returned (.bool false)) w3) (
 ∃n8,w2.cell? ((⟨r1,0,none⟩:Addr).add 1)=some (.int .i64 n8)/\
 Br (n8 == 1) (
 ∃dz,w2.cell? ((⟨r1,0,none⟩:Addr).add 2)=some (.int .i64 dz)/\
 zQb prog ds w2 λw4=>
 R (.returned (.bool (dz == 1))) w4) (
 Br (n8 == 2) (
 ∃lr,w2.cell? ((⟨r1,0,none⟩:Addr).add 2)=some (.int .i64 lr)/\
 Br (decide (lr >= 1)) (
 ∃kQ,w2.cell? ((⟨r1,0,none⟩:Addr).add 2)=some (.int .i64 kQ)/\
 zQb prog ds w2 λw5=>
 R (.returned (.bool (decide (kQ<=15)))) w5) (
 zQb prog ds w2 λw6=>
 R (.returned (.bool false)) w6)) (
 Br (n8 == 3) (
 Br (n8 == 3) (
 ∃kP,w2.cell? ((⟨r1,0,none⟩:Addr).add 2)=some (.int .i64 kP)/\
 zQb prog ds w2 λw7=>
 R (.returned (.bool (kP == 8))) w7) (
 Br (n8 == 4) (
 ∃re,w2.cell? ((⟨r1,0,none⟩:Addr).add 2)=some (.int .i64 re)/\
 Br (decide (re >= 1)) (
 ∃iq,w2.cell? ((⟨r1,0,none⟩:Addr).add 2)=some (.int .i64 iq)/\
 zQb prog ds w2 λw8=>
 R (.returned (.bool (decide (iq<=254)))) w8) (
 zQb prog ds w2 λw9=>
 R (.returned (.bool false)) w9)) (
 zQb prog ds w2 λaN=>
 R (.returned (.bool false)) aN))) (
 Br (n8 == 5) (
 ∃kP,w2.cell? ((⟨r1,0,none⟩:Addr).add 2)=some (.int .i64 kP)/\
 zQb prog ds w2 λaV=>
 R (.returned (.bool (kP == 8))) aV) (
 Br (n8 == 4) (
 ∃re,w2.cell? ((⟨r1,0,none⟩:Addr).add 2)=some (.int .i64 re)/\
 Br (decide (re >= 1)) (
 ∃iq,w2.cell? ((⟨r1,0,none⟩:Addr).add 2)=some (.int .i64 iq)/\
 zQb prog ds w2 λaO=>
 R (.returned (.bool (decide (iq<=254)))) aO) (
 zQb prog ds w2 λaH=>
 R (.returned (.bool false)) aH)) (
 zQb prog ds w2 λbq=>
 R (.returned (.bool false)) bq))))))
theorem F91_p:Pl prog f91 [aS 0 [.str,.int .i64,.int .i64,.bool]] F91_1:=λR=>
 lf
theorem yY2 (aW:ByteArray) (aI aX:Int) (aY:Bool) (w:World) (R:Rt) (h:F91_1 R aW aI aX aY [] w):Calls prog 91 #[.agg #[.string aW,.int .i64 aI,.int .i64 aX,.bool aY]] w R:=
 plC F91_p func91 h
def F52_1(R:Rt)(n0:Int)(ds:Ds)(w:World):Prop:=
 Br (decide (n0 >= 0)) (
 zQb prog ds w λw1=>
 R (.returned (.bool (decide (n0<=2)))) w1) (
 zQb prog ds w λw2=>
 R (.returned (.bool false)) w2)
theorem F52_p:Pl prog f52 [iS 0] F52_1:=λR=>
 lf
theorem xXj (n0:Int) (w:World) (R:Rt) (h:F52_1 R n0 [] w):Calls prog 52 #[.int .i64 n0] w R:=
 plC F52_p func52 h
def xK6(R:Rt)(ds:Ds)(w:World):Prop:=
 zQb prog ds w λw1=>
 R (.returned (.bool true)) w1
def zVc (R:Rt) (J1:(Int)->World->Prop) (s0:ByteArray) (n3:Int) (ds:Ds) (w:World):Prop:=
 J1 (IntKind.i64.wrap (n3+1)) w
def xWJ (R:Rt) (J1:(Int)->World->Prop) (s0:ByteArray) (n3:Int) (ds:Ds) (w:World):Prop:=
 ∃qn:UInt8,0<=n3/\s0[n3.toNat]?=some qn/\
 Br (decide ((qn.toNat:Int) >= 65)) (
 Br (!(decide ((qn.toNat:Int)<=90))) (
 Br (n3 == 0) (
 zQb prog ds w λw2=>
 R (.returned (.bool false)) w2) (
 Br ((qn.toNat:Int) != 95) (
 Calls prog 166 #[.int .u8 (qn.toNat:Int)] w λe w3=>
 ∃tT:Bool,e=.returned (.bool tT)/\
 Br (!tT) (
 zQb prog ds w3 λw4=>
 R (.returned (.bool false)) w4) (
 zVc R J1 s0 n3 ds w3)) (
 zVc R J1 s0 n3 ds w))) (
 zVc R J1 s0 n3 ds w)) (
 Br (n3 == 0) (
 zQb prog ds w λw5=>
 R (.returned (.bool false)) w5) (
 Br ((qn.toNat:Int) != 95) (
 Calls prog 166 #[.int .u8 (qn.toNat:Int)] w λe w6=>
 ∃tT:Bool,e=.returned (.bool tT)/\
 Br (!tT) (
 zQb prog ds w6 λw7=>
 R (.returned (.bool false)) w7) (
 zVc R J1 s0 n3 ds w6)) (
 zVc R J1 s0 n3 ds w)))
def xWT (R:Rt) (J1:(Int)->World->Prop) (s0:ByteArray) (n3:Int) (ds:Ds) (w:World):Prop:=
 Br (decide (n3<(s0.size:Int))) (
 xWJ R J1 s0 n3 ds w) (
 xK6 R ds w)
def xKO(R:Rt)(s0:ByteArray)(n3:Int)(ds:Ds)(w:World):Prop:=
 zQE (λ(J1:(Int)->World->Prop) (s:Int) (w:World)=>xWT R J1 s0 s ds w) n3 w
def xYh(R:Rt)(s0:ByteArray)(ds:Ds)(w:World):Prop:=
 Br (decide ((s0.size:Int)<1)) (
 zQb prog ds w λw8=>
 R (.returned (.bool false)) w8) (
 Br (decide ((s0.size:Int) > 10)) (
 zQb prog ds w λw9=>
 R (.returned (.bool false)) w9) (
 xKO R s0 0 ds w))
theorem F130_p:Pl prog f130 [sS 0] xYh:=λR=>
 pc 4 (rest [sS 0,iS 3] (xKO R) (bk 0 (rest [] (xK6 R) lf) (lp [iS 3] [sS 0,iS 3] (xWT R) zXL λJ1=>pc 2 (rest [sS 0,iS 3] (xWJ R J1) (pc 1 (rest [sS 0,iS 3] (zVc R J1) lf))))))
theorem yWP (s0:ByteArray) (w:World) (R:Rt) (h:xYh R s0 [] w):Calls prog 130 #[.string s0] w R:=
 plC F130_p func130 h
def xVk(R:Rt)(n0:Int)(ds:Ds)(w:World):Prop:=
 Br (decide (n0 >= 48)) (
 zQb prog ds w λw1=>
 R (.returned (.bool (decide (n0<=57)))) w1) (
 zQb prog ds w λw2=>
 R (.returned (.bool false)) w2)
theorem F166_p:Pl prog f166 [kS .u8 0] xVk:=λR=>
 lf
theorem yVC (n0:Int) (w:World) (R:Rt) (h:xVk R n0 [] w):Calls prog 166 #[.int .u8 n0] w R:=
 plC F166_p func166 h
def xWq(R:Rt)(aW:ByteArray)(aI aX:Int)(aY:Bool)(ds:Ds)(w:World):Prop:=
 alE (.cells #[.string aW,.int .i64 aI,.int .i64 aX,.bool aY] 129) w λr1 w1=>
 alE (.cells #[.int .i64 0,.int .i64 0,.string (⟨#[]⟩:ByteArray)] 73) w1 λr2 w2=>
 ∃n4,w2.cell? ((⟨r1,0,none⟩:Addr).add 1)=some (.int .i64 n4)/\
 Br (n4 == 5) (
 stA prog 73 (⟨r2,0,none⟩:Addr) #[.int .i64 2,.int .i64 0,.string (⟨#[]⟩:ByteArray)] w2 λw3=>
 zQb prog ds w3 λw4=>
 ∃ag,w4.cell? ((⟨r2,0,none⟩:Addr).add 0)=some (.int .i64 ag)/\
 ∃aj,w4.cell? ((⟨r2,0,none⟩:Addr).add 1)=some (.int .i64 aj)/\
 ∃ak,w4.cell? ((⟨r2,0,none⟩:Addr).add 2)=some (.string ak)/\
 R (.returned (.agg #[.int .i64 ag,.int .i64 aj,.string ak])) w4) (
 ∃n8,w2.cell? ((⟨r1,0,none⟩:Addr).add 1)=some (.int .i64 n8)/\
 stA prog 73 (⟨r2,0,none⟩:Addr) #[.int .i64 n8,.int .i64 0,.string (⟨#[]⟩:ByteArray)] w2 λw5=>
 zQb prog ds w5 λw6=>
 ∃ag,w6.cell? ((⟨r2,0,none⟩:Addr).add 0)=some (.int .i64 ag)/\
 ∃aj,w6.cell? ((⟨r2,0,none⟩:Addr).add 1)=some (.int .i64 aj)/\
 ∃ak,w6.cell? ((⟨r2,0,none⟩:Addr).add 2)=some (.string ak)/\
 R (.returned (.agg #[.int .i64 ag,.int .i64 aj,.string ak])) w6)
theorem F118_p:Pl prog f118 [aS 0 [.str,.int .i64,.int .i64,.bool]] xWq:=λR=>
 lf
theorem yVa (aW:ByteArray) (aI aX:Int) (aY:Bool) (w:World) (R:Rt) (h:xWq R aW aI aX aY [] w):Calls prog 118 #[.agg #[.string aW,.int .i64 aI,.int .i64 aX,.bool aY]] w R:=
 plC F118_p func118 h
end Go.Proofs.YtaeecpjhfmcliaaGreatDoor
/- Shallow texts of functions, printed by program, each checked by the kernel against the loaded code. No condition. -/
namespace Go.Proofs.YtaeecpjhfmcliaaGreatDoor
open Go.Sh Tryz
def xXl(R:Rt)(n1:Int)(s6:ByteArray)(ds:Ds)(w:World):Prop:=
 Calls prog 155 #[.string (⟨#[32]⟩:ByteArray),.int .i64 (IntKind.i64.wrap (n1 - (s6.size:Int)))] w λe w1=>
 ∃s30:ByteArray,e=.returned (.string s30)/\
 ((s30.size+s6.size:Nat):Int)<=9223372036854775807/\
 zQb prog ds w1 λw2=>
 R (.returned (.tuple #[.string (s30 ++ s6),.int .i64 0])) w2
def xKB(R:Rt)(n0 n1:Int)(ds:Ds)(w:World):Prop:=
 Calls prog 153 #[.int .i64 n0] w λe w3=>
 ∃b8:Bool,e=.returned (.bool b8)/\
 Br (!b8) (
 zQb prog ds w3 λw4=>
 R (.returned (.tuple #[.string (⟨#[]⟩:ByteArray),.int .i64 1])) w4) (
 Br (decide (n1<1)) (
 zQb prog ds w3 λw5=>
 R (.returned (.tuple #[.string (⟨#[]⟩:ByteArray),.int .i64 1])) w5) (
 Br (decide (n1 > 254)) (
 zQb prog ds w3 λw6=>
 R (.returned (.tuple #[.string (⟨#[]⟩:ByteArray),.int .i64 1])) w6) (
 Calls prog 154 #[.int .i64 n0] w3 λe w7=>
 ∃nL:ByteArray,e=.returned (.string nL)/\
 Br (decide ((nL.size:Int) > n1)) (
 Calls prog 155 #[.string (⟨#[42]⟩:ByteArray),.int .i64 n1] w7 λe w8=>
 ∃s25:ByteArray,e=.returned (.string s25)/\
 zQb prog ds w8 λw9=>
 R (.returned (.tuple #[.string s25,.int .i64 0])) w9) (
 xXl R n1 nL ds w7))))
theorem F121_p:Pl prog f121 [iS 0,iS 1] xKB:=λR=>
 pc 6 (rest [iS 1,sS 6] (xXl R) lf)
theorem yWH (n0 n1:Int) (w:World) (R:Rt) (h:xKB R n0 n1 [] w):Calls prog 121 #[.int .i64 n0,.int .i64 n1] w R:=
 plC F121_p func121 h
def xWB(R:Rt)(n0:Int)(ds:Ds)(w:World):Prop:=
 Br (decide (n0<0)) (
 Calls prog 154 #[.int .i64 (IntKind.i64.wrap (0 - n0))] w λe w1=>
 ∃s8:ByteArray,e=.returned (.string s8)/\
 (((⟨#[45]⟩:ByteArray).size+s8.size:Nat):Int)<=9223372036854775807/\
 zQb prog ds w1 λw2=>
 R (.returned (.string ((⟨#[45]⟩:ByteArray) ++ s8))) w2) (
 Br (decide (n0<10)) (
 0<=(IntKind.i64.wrap (n0+1))/\(IntKind.i64.wrap (n0+1)).toNat<=(⟨#[48,49,50,51,52,53,54,55,56,57]⟩:ByteArray).size/\0<=n0/\n0.toNat<=(IntKind.i64.wrap (n0+1)).toNat/\
 zQb prog ds w λw3=>
 R (.returned (.string ((⟨#[48,49,50,51,52,53,54,55,56,57]⟩:ByteArray).extract n0.toNat ((IntKind.i64.wrap (n0+1)).toNat)))) w3) (
 dwE w λw4=>
 IntKind.i64=IntKind.i64/\(10:Int) ≠ 0/\
 IntKind.i64=IntKind.i64/\(10:Int) ≠ 0/\
 IntKind.i64=IntKind.i64/\(10:Int) ≠ 0/\
 0<=(IntKind.i64.wrap ((n0.tmod 10)+1))/\(IntKind.i64.wrap ((n0.tmod 10)+1)).toNat<=(⟨#[48,49,50,51,52,53,54,55,56,57]⟩:ByteArray).size/\0<=(n0.tmod 10)/\(n0.tmod 10).toNat<=(IntKind.i64.wrap ((n0.tmod 10)+1)).toNat/\
 Calls prog 154 #[.int .i64 (IntKind.i64.wrap (n0.tdiv 10))] w4 λe w5=>
 ∃nL:ByteArray,e=.returned (.string nL)/\
 ((nL.size+((⟨#[48,49,50,51,52,53,54,55,56,57]⟩:ByteArray).extract ((n0.tmod 10).toNat) ((IntKind.i64.wrap ((n0.tmod 10)+1)).toNat)).size:Nat):Int)<=9223372036854775807/\
 zQb prog ds w5 λw6=>
 R (.returned (.string (nL ++ ((⟨#[48,49,50,51,52,53,54,55,56,57]⟩:ByteArray).extract ((n0.tmod 10).toNat) ((IntKind.i64.wrap ((n0.tmod 10)+1)).toNat))))) w6))
theorem F154_p:Pl prog f154 [iS 0] xWB:=λR=>
 lf
theorem yQ4 (n0:Int) (w:World) (R:Rt) (h:xWB R n0 [] w):Calls prog 154 #[.int .i64 n0] w R:=
 plC F154_p func154 h
def xWb(R:Rt)(n0:Int)(ds:Ds)(w:World):Prop:=
 Br (decide (n0<0)) (
 Br (n0 == (-9223372036854775808)) (
 zQb prog ds w λw1=>
 R (.returned (.string (⟨#[45,57,50,50,51,51,55,50,48,51,54,56,53,52,55,55,53,56,48,56]⟩:ByteArray))) w1) (
 Calls prog 134 #[.int .i64 (IntKind.i64.wrap (0 - n0))] w λe w2=>
 ∃s9:ByteArray,e=.returned (.string s9)/\
 (((⟨#[45]⟩:ByteArray).size+s9.size:Nat):Int)<=9223372036854775807/\
 zQb prog ds w2 λw3=>
 R (.returned (.string ((⟨#[45]⟩:ByteArray) ++ s9))) w3)) (
 Br (decide (n0<10)) (
 0<=(IntKind.i64.wrap (n0+1))/\(IntKind.i64.wrap (n0+1)).toNat<=(⟨#[48,49,50,51,52,53,54,55,56,57]⟩:ByteArray).size/\0<=n0/\n0.toNat<=(IntKind.i64.wrap (n0+1)).toNat/\
 zQb prog ds w λw4=>
 R (.returned (.string ((⟨#[48,49,50,51,52,53,54,55,56,57]⟩:ByteArray).extract n0.toNat ((IntKind.i64.wrap (n0+1)).toNat)))) w4) (
 IntKind.i64=IntKind.i64/\(10:Int) ≠ 0/\
 Calls prog 134 #[.int .i64 (IntKind.i64.wrap (n0.tdiv 10))] w λe w5=>
 ∃nL:ByteArray,e=.returned (.string nL)/\
 IntKind.i64=IntKind.i64/\(10:Int) ≠ 0/\
 Calls prog 134 #[.int .i64 (n0.tmod 10)] w5 λe w6=>
 ∃yd:ByteArray,e=.returned (.string yd)/\
 ((nL.size+yd.size:Nat):Int)<=9223372036854775807/\
 zQb prog ds w6 λw7=>
 R (.returned (.string (nL ++ yd))) w7))
theorem F134_p:Pl prog f134 [iS 0] xWb:=λR=>
 lf
theorem yQw (n0:Int) (w:World) (R:Rt) (h:xWb R n0 [] w):Calls prog 134 #[.int .i64 n0] w R:=
 plC F134_p func134 h
def yXS(R:Rt)(s0:ByteArray)(n3:Int)(ds:Ds)(w:World):Prop:=
 0<=n3/\n3.toNat<=s0.size/\0<=n3.toNat/\
 zQb prog ds w λw1=>
 R (.returned (.string (s0.extract 0 n3.toNat))) w1
def xKE (R:Rt) (J1:(Int)->World->Prop) (s0:ByteArray) (n3:Int) (ds:Ds) (w:World):Prop:=
 Br (decide (n3 > 0)) (
 ∃cP:UInt8,0<=(IntKind.i64.wrap (n3 - 1))/\s0[(IntKind.i64.wrap (n3 - 1)).toNat]?=some cP/\
 Br ((cP.toNat:Int) == 32) (
 J1 (IntKind.i64.wrap (n3 - 1)) w) (
 yXS R s0 n3 ds w)) (
 yXS R s0 n3 ds w)
def xWf(R:Rt)(s0:ByteArray)(n3:Int)(ds:Ds)(w:World):Prop:=
 zQE (λ(J1:(Int)->World->Prop) (s:Int) (w:World)=>xKE R J1 s0 s ds w) n3 w
def xKU(R:Rt)(s0:ByteArray)(ds:Ds)(w:World):Prop:=
 xWf R s0 (s0.size:Int) ds w
theorem F135_p:Pl prog f135 [sS 0] xKU:=λR=>
 pc 2 (rest [sS 0,iS 3] (xWf R) (bk 0 (rest [sS 0,iS 3] (yXS R) lf) (lp [iS 3] [sS 0,iS 3] (xKE R) zXL λJ1=>lf)))
theorem yVL (s0:ByteArray) (w:World) (R:Rt) (h:xKU R s0 [] w):Calls prog 135 #[.string s0] w R:=
 plC F135_p func135 h
def xV7(R:Rt)(s0:ByteArray)(ds:Ds)(w:World):Prop:=
 alE (.cells #[.int .i64 0,.int .i64 0,.string (⟨#[]⟩:ByteArray)] 73) w λr2 w1=>
 stA prog 73 (⟨r2,0,none⟩:Addr) #[.int .i64 4,.int .i64 0,.string s0] w1 λw2=>
 zQb prog ds w2 λw3=>
 ∃ag,w3.cell? ((⟨r2,0,none⟩:Addr).add 0)=some (.int .i64 ag)/\
 ∃aj,w3.cell? ((⟨r2,0,none⟩:Addr).add 1)=some (.int .i64 aj)/\
 ∃ak,w3.cell? ((⟨r2,0,none⟩:Addr).add 2)=some (.string ak)/\
 R (.returned (.agg #[.int .i64 ag,.int .i64 aj,.string ak])) w3
theorem F177_p:Pl prog f177 [sS 0] xV7:=λR=>
 lf
theorem yV5 (s0:ByteArray) (w:World) (R:Rt) (h:xV7 R s0 [] w):Calls prog 177 #[.string s0] w R:=
 plC F177_p func177 h
end Go.Proofs.YtaeecpjhfmcliaaGreatDoor
/- Shallow texts of functions, printed by program, each checked by the kernel against the loaded code. No condition. -/
namespace Go.Proofs.YtaeecpjhfmcliaaGreatDoor
open Go.Sh Tryz
def xKP(R:Rt)(s0:ByteArray)(n1:Int)(ds:Ds)(w:World):Prop:=
 Calls prog 152 #[.string s0,.int .i64 n1] w λe w1=>
 ∃tU:Bool,∃jx:Int,e=.returned (.tuple #[.bool tU,.int .i64 jx])/\
 Br tU (
 zQb prog ds w1 λw2=>
 R (.returned (.bool (jx == 0))) w2) (
 zQb prog ds w1 λw3=>
 R (.returned (.bool false)) w3)
theorem F120_p:Pl prog f120 [sS 0,iS 1] xKP:=λR=>
 lf
theorem yW1 (s0:ByteArray) (n1:Int) (w:World) (R:Rt) (h:xKP R s0 n1 [] w):Calls prog 120 #[.string s0,.int .i64 n1] w R:=
 plC F120_p func120 h
def xKm(R:Rt)(ds:Ds)(w:World):Prop:=
 zQb prog ds w λw1=>
 R (.returned (.tuple #[.bool true,.int .i64 0])) w1
def xVI (R:Rt) (J1:(Int)->World->Prop) (p7:Option Addr) (cK:SV) (df fp:Int) (ds:Ds) (w:World):Prop:=
 Br (decide (fp<df)) (
 ∃a2,cK.a=some a2/\0<=fp/\fp<(cK.len:Int)/\
 ∃cu,w.cell? (a2.add (fp.toNat * 1))=some (.int .u8 cu)/\
 zQg p7 λa3=>
 0<=cu/\cu<(256:Int)/\
 ∃o2,w.cell? (a3.add (cu.toNat * 1))=some (.int .i32 o2)/\
 Br (decide (o2<0)) (
 zQb prog ds w λw4=>
 R (.returned (.tuple #[.bool false,.int .i64 0])) w4) (
 J1 (IntKind.i64.wrap (fp+1)) w)) (
 xKm R ds w)
def xYp(R:Rt)(p7:Option Addr)(cK:SV)(df fp:Int)(ds:Ds)(w:World):Prop:=
 zQE (λ(J1:(Int)->World->Prop) (s:Int) (w:World)=>xVI R J1 p7 cK df s ds w) fp w
def xVf(R:Rt)(s0:ByteArray)(n1:Int)(ds:Ds)(w:World):Prop:=
 alE (.cells #[.string s0] 9) w λnF w5=>
 Calls prog 195 #[.int .i64 n1,.slice (some ⟨nF,0,none⟩) 1 1] w5 λe w6=>
 ∃dR:Int,e=.returned (.int .i64 dR)/\
 Br (dR != 0) (
 zQb prog ds w6 λw7=>
 R (.returned (.tuple #[.bool false,.int .i64 dR])) w7) (
 Calls prog 196 #[] w6 λe w8=>
 ∃c17:Array Value,c17.size=768/\e=.returned (.agg c17)/\
 ∃c19:Array Value,c19.size=256/\∃w9,(Instr.index 213 (.agg c17) (.int .i64 n1)).run prog w8=.ok (.agg c19) w9/\
 alE (.cells (zc prog 212) 212) w9 λr7 aN=>
 stA prog 212 (⟨r7,0,none⟩:Addr) c19 aN λaV=>
 ∃cK:SV,∃aO,(convert 9 22 (.string s0)).run prog aV=.ok (cK.v) aO/\
 xYp R (some (⟨r7,0,none⟩:Addr)) cK (cK.len:Int) 0 ds aO)
theorem F152_p:Pl prog f152 [sS 0,iS 1] xVf:=λR=>
 pc 6 (rest [pS 7,lS 21,iS 22,iS 23] (xYp R) (bk 0 (rest [] (xKm R) lf) (lp [iS 23] [pS 7,lS 21,iS 22,iS 23] (xVI R) zXL λJ1=>lf)))
theorem yWx (s0:ByteArray) (n1:Int) (w:World) (R:Rt) (h:xVf R s0 n1 [] w):Calls prog 152 #[.string s0,.int .i64 n1] w R:=
 plC F152_p func152 h
def xJO(R:Rt)(n0:Int)(ds:Ds)(w:World):Prop:=
 Br (decide (n0<0)) (
 zQb prog ds w λw1=>
 R (.returned (.int .i64 1)) w1) (
 Br (decide (n0 > 2)) (
 zQb prog ds w λw2=>
 R (.returned (.int .i64 1)) w2) (
 zQb prog ds w λw3=>
 R (.returned (.int .i64 0)) w3))
def xVC (R:Rt) (J1:(Int)->World->Prop) (n0:Int) (l7:SV) (n8 n9:Int) (ds:Ds) (w:World):Prop:=
 Br (decide (n9<n8)) (
 ∃a4,l7.a=some a4/\0<=n9/\n9<(l7.len:Int)/\
 ∃sW,w.cell? (a4.add (n9.toNat * 1))=some (.string sW)/\
 Br (decide ((sW.size:Int) > 2048)) (
 zQb prog ds w λw5=>
 R (.returned (.int .i64 3)) w5) (
 J1 (IntKind.i64.wrap (n9+1)) w)) (
 xJO R n0 ds w)
def xVi(R:Rt)(n0:Int)(l7:SV)(n8 n9:Int)(ds:Ds)(w:World):Prop:=
 zQE (λ(J1:(Int)->World->Prop) (s:Int) (w:World)=>xVC R J1 n0 l7 n8 s ds w) n9 w
def xVw(R:Rt)(n0:Int)(l1:SV)(ds:Ds)(w:World):Prop:=
 xVi R n0 l1 (l1.len:Int) 0 ds w
theorem F195_p:Pl prog f195 [iS 0,lS 1] xVw:=λR=>
 pc 2 (rest [iS 0,lS 7,iS 8,iS 9] (xVi R) (bk 0 (rest [iS 0] (xJO R) lf) (lp [iS 9] [iS 0,lS 7,iS 8,iS 9] (xVC R) zXL λJ1=>lf)))
theorem yVY (n0:Int) (l1:SV) (w:World) (R:Rt) (h:xVw R n0 l1 [] w):Calls prog 195 #[.int .i64 n0,l1.v] w R:=
 plC F195_p func195 h
def xXc(R:Rt)(p0 p1:Option Addr)(ds:Ds)(w:World):Prop:=
 zQg p1 λa1=>
 ∃c48:Array Value,c48.size=768/\(∀i,i<768->w.cell? (a1.add i)=c48[i]?)/\
 zQg p0 λa2=>
 stA prog 213 a2 c48 w λw3=>
 zQb prog ds w3 λw4=>
 zQg p0 λa5=>
 ∃cR0:Array Value,cR0.size=768/\(∀i,i<768->w4.cell? (a5.add i)=cR0[i]?)/\
 R (.returned (.agg cR0)) w4
def xKd (R:Rt) (J1:(Int)->World->Prop) (p0 p1:Option Addr) (n5:Int) (ds:Ds) (w:World):Prop:=
 Br (decide (n5<=239)) (
 zQg p1 λa6=>
 0<=(2:Int)/\(2:Int)<(3:Int)/\
 0<=n5/\n5<(256:Int)/\
 st1 ((a6.add ((2:Int).toNat * 256)).add (n5.toNat * 1)) (.int .i32 (IntKind.i32.wrap ((1088:Int)+(IntKind.i32.wrap (IntKind.i64.wrap (n5 - 224)))))) w λw7=>
 J1 (IntKind.i64.wrap (n5+1)) w7) (
 xXc R p0 p1 ds w)
def xWM(R:Rt)(p0 p1:Option Addr)(n5:Int)(ds:Ds)(w:World):Prop:=
 zQE (λ(J1:(Int)->World->Prop) (s:Int) (w:World)=>xKd R J1 p0 p1 s ds w) n5 w
def xKJ(R:Rt)(p0 p1:Option Addr)(ds:Ds)(w:World):Prop:=
 xWM R p0 p1 224 ds w
def xWz (R:Rt) (J1:(Int)->World->Prop) (p0 p1:Option Addr) (n4:Int) (ds:Ds) (w:World):Prop:=
 Br (decide (n4<=175)) (
 zQg p1 λa8=>
 0<=(2:Int)/\(2:Int)<(3:Int)/\
 0<=n4/\n4<(256:Int)/\
 st1 ((a8.add ((2:Int).toNat * 256)).add (n4.toNat * 1)) (.int .i32 (IntKind.i32.wrap ((1040:Int)+(IntKind.i32.wrap (IntKind.i64.wrap (n4 - 128)))))) w λw9=>
 J1 (IntKind.i64.wrap (n4+1)) w9) (
 xKJ R p0 p1 ds w)
def xKA(R:Rt)(p0 p1:Option Addr)(n4:Int)(ds:Ds)(w:World):Prop:=
 zQE (λ(J1:(Int)->World->Prop) (s:Int) (w:World)=>xWz R J1 p0 p1 s ds w) n4 w
def xWy(R:Rt)(p0 p1:Option Addr)(ds:Ds)(w:World):Prop:=
 xKA R p0 p1 128 ds w
def yYC (R:Rt) (J1:(Int)->World->Prop) (p0 p1:Option Addr) (n6:Int) (ds:Ds) (w:World):Prop:=
 Br (decide (n6<256)) (
 zQg p1 λdx=>
 0<=(1:Int)/\(1:Int)<(3:Int)/\
 0<=n6/\n6<(256:Int)/\
 st1 ((dx.add ((1:Int).toNat * 256)).add (n6.toNat * 1)) (.int .i32 (IntKind.i32.wrap n6)) w λaV=>
 Br (decide (n6 >= 128)) (
 zQg p1 λkR=>
 0<=(0:Int)/\(0:Int)<(3:Int)/\
 0<=n6/\n6<(256:Int)/\
 st1 ((kR.add ((0:Int).toNat * 256)).add (n6.toNat * 1)) (.int .i32 (-1)) aV λaH=>
 zQg p1 λf7=>
 0<=(2:Int)/\(2:Int)<(3:Int)/\
 0<=n6/\n6<(256:Int)/\
 st1 ((f7.add ((2:Int).toNat * 256)).add (n6.toNat * 1)) (.int .i32 (-1)) aH λbp=>
 J1 (IntKind.i64.wrap (n6+1)) bp) (
 zQg p1 λiG=>
 0<=(0:Int)/\(0:Int)<(3:Int)/\
 0<=n6/\n6<(256:Int)/\
 st1 ((iG.add ((0:Int).toNat * 256)).add (n6.toNat * 1)) (.int .i32 (IntKind.i32.wrap n6)) aV λbH=>
 zQg p1 λjy=>
 0<=(2:Int)/\(2:Int)<(3:Int)/\
 0<=n6/\n6<(256:Int)/\
 st1 ((jy.add ((2:Int).toNat * 256)).add (n6.toNat * 1)) (.int .i32 (IntKind.i32.wrap n6)) bH λcL=>
 J1 (IntKind.i64.wrap (n6+1)) cL)) (
 xWy R p0 p1 ds w)
def yY1(R:Rt)(p0 p1:Option Addr)(n6:Int)(ds:Ds)(w:World):Prop:=
 zQE (λ(J1:(Int)->World->Prop) (s:Int) (w:World)=>yYC R J1 p0 p1 s ds w) n6 w
def xQF(R:Rt)(ds:Ds)(w:World):Prop:=
 alE (.cells (zc prog 213) 213) w λr0 bU=>
 alE (.cells (zc prog 213) 213) bU λr1 ct=>
 yY1 R (some (⟨r0,0,none⟩:Addr)) (some (⟨r1,0,none⟩:Addr)) 0 ds ct
theorem F196_p:Pl prog f196 [] xQF:=λR=>
 pc 3 (rest [pS 0,pS 1,iS 6] (yY1 R) (bk 0 (rest [pS 0,pS 1] (xWy R) (pc 1 (rest [pS 0,pS 1,iS 4] (xKA R) (bk 2 (rest [pS 0,pS 1] (xKJ R) (pc 1 (rest [pS 0,pS 1,iS 5] (xWM R) (bk 4 (rest [pS 0,pS 1] (xXc R) lf) (lp [iS 5] [pS 0,pS 1,iS 5] (xKd R) zXL λJ1=>lf))))) (lp [iS 4] [pS 0,pS 1,iS 4] (xWz R) zXL λJ1=>lf))))) (lp [iS 6] [pS 0,pS 1,iS 6] (yYC R) zXL λJ1=>lf)))
theorem yWk  (w:World) (R:Rt) (h:xQF R [] w):Calls prog 196 #[] w R:=
 plC F196_p func196 h
def xKq(R:Rt)(ds:Ds)(w:World):Prop:=
 zQb prog ds w λw1=>
 R (.returned (.bool true)) w1
def xYe (R:Rt) (J1:(Int)->World->Prop) (s0:ByteArray) (n1 n5:Int) (ds:Ds) (w:World):Prop:=
 Br (decide (n5<(s0.size:Int))) (
 ∃iB:UInt8,0<=n5/\s0[n5.toNat]?=some iB/\
 Calls prog 168 #[.int .u8 (iB.toNat:Int),.int .i64 n1] w λe w2=>
 ∃ke:Bool,e=.returned (.bool ke)/\
 Br (!ke) (
 zQb prog ds w2 λw3=>
 R (.returned (.bool false)) w3) (
 J1 (IntKind.i64.wrap (n5+1)) w2)) (
 xKq R ds w)
def xKT(R:Rt)(s0:ByteArray)(n1 n5:Int)(ds:Ds)(w:World):Prop:=
 zQE (λ(J1:(Int)->World->Prop) (s:Int) (w:World)=>xYe R J1 s0 n1 s ds w) n5 w
def xKR(R:Rt)(s0:ByteArray)(n1:Int)(ds:Ds)(w:World):Prop:=
 xKT R s0 n1 0 ds w
theorem F136_p:Pl prog f136 [sS 0,iS 1] xKR:=λR=>
 pc 2 (rest [sS 0,iS 1,iS 5] (xKT R) (bk 0 (rest [] (xKq R) lf) (lp [iS 5] [sS 0,iS 1,iS 5] (xYe R) zXL λJ1=>lf)))
theorem yVg (s0:ByteArray) (n1:Int) (w:World) (R:Rt) (h:xKR R s0 n1 [] w):Calls prog 136 #[.string s0,.int .i64 n1] w R:=
 plC F136_p func136 h
def xYj(R:Rt)(n0 n1:Int)(ds:Ds)(w:World):Prop:=
 Br (n1 == 0) (
 zQb prog ds w λw1=>
 R (.returned (.bool (decide (n0<128)))) w1) (
 Br (n1 == 1) (
 zQb prog ds w λw2=>
 R (.returned (.bool true)) w2) (
 Br (decide (n0<176)) (
 zQb prog ds w λw3=>
 R (.returned (.bool true)) w3) (
 Br (decide (n0 >= 224)) (
 zQb prog ds w λw4=>
 R (.returned (.bool (decide (n0<240)))) w4) (
 zQb prog ds w λw5=>
 R (.returned (.bool false)) w5))))
theorem F168_p:Pl prog f168 [kS .u8 0,iS 1] xYj:=λR=>
 lf
theorem yVX (n0 n1:Int) (w:World) (R:Rt) (h:xYj R n0 n1 [] w):Calls prog 168 #[.int .u8 n0,.int .i64 n1] w R:=
 plC F168_p func168 h
end Go.Proofs.YtaeecpjhfmcliaaGreatDoor
/- Shallow texts of functions, printed by program, each checked by the kernel against the loaded code. No condition. -/
namespace Go.Proofs.YtaeecpjhfmcliaaGreatDoor
open Go.Sh Tryz
def F83_1(R:Rt)(n1:Int)(p3 p5 p6:Option Addr)(oW:Int)(ds:Ds)(w:World):Prop:=
 Br (oW == 4) (
 zQg p5 λa1=>
 ∃s46,w.cell? (a1.add 2)=some (.string s46)/\
 zQg p5 λa2=>
 ∃s48,w.cell? (a2.add 2)=some (.string s48)/\
 zQg p3 λa3=>
 ∃o3,w.cell? (a3.add 2)=some (.int .i64 o3)/\
 ∃rh:Int,∃w4,(Builtin.min_ #[3,3] 3 #[.int .i64 (s48.size:Int),.int .i64 o3]).run prog w=.ok (.int .i64 rh) w4/\
 0<=rh/\rh.toNat<=s46.size/\0<=rh.toNat/\
 Calls prog 119 #[.string (s46.extract 0 rh.toNat),.string (⟨#[32]⟩:ByteArray)] w4 λe w5=>
 ∃pD:ByteArray,e=.returned (.string pD)/\
 zQg p5 λa6=>
 st1 (a6.add 2) (.string pD) w5 λw7=>
 zQg p5 λa8=>
 ∃yQ,w7.cell? (a8.add 2)=some (.string yQ)/\
 Calls prog 120 #[.string yQ,.int .i64 n1] w7 λe w9=>
 ∃b59:Bool,e=.returned (.bool b59)/\
 Br (!b59) (
 zQg p6 λdx=>
 stA prog 73 dx #[.int .i64 0,.int .i64 0,.string (⟨#[]⟩:ByteArray)] w9 λaV=>
 zQb prog ds aV λaO=>
 zQg p6 λlq=>
 ∃ag,aO.cell? (lq.add 0)=some (.int .i64 ag)/\
 ∃aj,aO.cell? (lq.add 1)=some (.int .i64 aj)/\
 ∃ak,aO.cell? (lq.add 2)=some (.string ak)/\
 R (.returned (.tuple #[.agg #[.int .i64 ag,.int .i64 aj,.string ak],.int .i64 10])) aO) (
 zQg p5 λf7=>
 ∃gq,w9.cell? (f7.add 0)=some (.int .i64 gq)/\
 ∃gr,w9.cell? (f7.add 1)=some (.int .i64 gr)/\
 ∃gt,w9.cell? (f7.add 2)=some (.string gt)/\
 zQg p6 λjz=>
 stA prog 73 jz #[.int .i64 gq,.int .i64 gr,.string gt] w9 λbG=>
 zQb prog ds bG λbH=>
 zQg p6 λjy=>
 ∃ag,bH.cell? (jy.add 0)=some (.int .i64 ag)/\
 ∃aj,bH.cell? (jy.add 1)=some (.int .i64 aj)/\
 ∃ak,bH.cell? (jy.add 2)=some (.string ak)/\
 R (.returned (.tuple #[.agg #[.int .i64 ag,.int .i64 aj,.string ak],.int .i64 0])) bH)) (
 Br (oW == 2) (
 zQg p5 λkW=>
 ∃yR,w.cell? (kW.add 1)=some (.int .i64 yR)/\
 zQg p3 λa20=>
 ∃yS,w.cell? (a20.add 2)=some (.int .i64 yS)/\
 Calls prog 121 #[.int .i64 yR,.int .i64 yS] w λe ct=>
 ∃tV:ByteArray,∃tW:Int,e=.returned (.tuple #[.string tV,.int .i64 tW])/\
 Br (tW != 0) (
 zQg p6 λo4=>
 stA prog 73 o4 #[.int .i64 0,.int .i64 0,.string (⟨#[]⟩:ByteArray)] ct λdV=>
 zQb prog ds dV λdy=>
 zQg p6 λnl=>
 ∃ag,dy.cell? (nl.add 0)=some (.int .i64 ag)/\
 ∃aj,dy.cell? (nl.add 1)=some (.int .i64 aj)/\
 ∃ak,dy.cell? (nl.add 2)=some (.string ak)/\
 R (.returned (.tuple #[.agg #[.int .i64 ag,.int .i64 aj,.string ak],.int .i64 10])) dy) (
 Calls prog 122 #[.string tV,.string (⟨#[42]⟩:ByteArray)] ct λe fe=>
 ∃b76:Bool,e=.returned (.bool b76)/\
 Br b76 (
 zQg p6 λa27=>
 stA prog 73 a27 #[.int .i64 0,.int .i64 0,.string (⟨#[]⟩:ByteArray)] fe λdW=>
 zQb prog ds dW λfo=>
 zQg p6 λo5=>
 ∃ag,fo.cell? (o5.add 0)=some (.int .i64 ag)/\
 ∃aj,fo.cell? (o5.add 1)=some (.int .i64 aj)/\
 ∃ak,fo.cell? (o5.add 2)=some (.string ak)/\
 R (.returned (.tuple #[.agg #[.int .i64 ag,.int .i64 aj,.string ak],.int .i64 10])) fo) (
 zQg p5 λsY=>
 ∃gq,fe.cell? (sY.add 0)=some (.int .i64 gq)/\
 ∃gr,fe.cell? (sY.add 1)=some (.int .i64 gr)/\
 ∃gt,fe.cell? (sY.add 2)=some (.string gt)/\
 zQg p6 λxi=>
 stA prog 73 xi #[.int .i64 gq,.int .i64 gr,.string gt] fe λfW=>
 zQb prog ds fW λfX=>
 zQg p6 λsZ=>
 ∃ag,fX.cell? (sZ.add 0)=some (.int .i64 ag)/\
 ∃aj,fX.cell? (sZ.add 1)=some (.int .i64 aj)/\
 ∃ak,fX.cell? (sZ.add 2)=some (.string ak)/\
 R (.returned (.tuple #[.agg #[.int .i64 ag,.int .i64 aj,.string ak],.int .i64 0])) fX))) (
 Br (oW == 5) (
 zQg p5 λqL=>
 ∃yT,w.cell? (qL.add 1)=some (.int .i64 yT)/\
 Br (decide (yT<0)) (
 zQg p6 λa37=>
 stA prog 73 a37 #[.int .i64 0,.int .i64 0,.string (⟨#[]⟩:ByteArray)] w λnG=>
 zQb prog ds nG λkw=>
 zQg p6 λta=>
 ∃ag,kw.cell? (ta.add 0)=some (.int .i64 ag)/\
 ∃aj,kw.cell? (ta.add 1)=some (.int .i64 aj)/\
 ∃ak,kw.cell? (ta.add 2)=some (.string ak)/\
 R (.returned (.tuple #[.agg #[.int .i64 ag,.int .i64 aj,.string ak],.int .i64 10])) kw) (
 zQg p5 λyU=>
 ∃n86,w.cell? (yU.add 1)=some (.int .i64 n86)/\
 Br (decide (n86 > 99999999)) (
 zQg p6 λtd=>
 stA prog 73 td #[.int .i64 0,.int .i64 0,.string (⟨#[]⟩:ByteArray)] w λqo=>
 zQb prog ds qo λkX=>
 zQg p6 λxj=>
 ∃ag,kX.cell? (xj.add 0)=some (.int .i64 ag)/\
 ∃aj,kX.cell? (xj.add 1)=some (.int .i64 aj)/\
 ∃ak,kX.cell? (xj.add 2)=some (.string ak)/\
 R (.returned (.tuple #[.agg #[.int .i64 ag,.int .i64 aj,.string ak],.int .i64 10])) kX) (
 zQg p5 λa46=>
 ∃gq,w.cell? (a46.add 0)=some (.int .i64 gq)/\
 ∃gr,w.cell? (a46.add 1)=some (.int .i64 gr)/\
 ∃gt,w.cell? (a46.add 2)=some (.string gt)/\
 zQg p6 λyV=>
 stA prog 73 yV #[.int .i64 gq,.int .i64 gr,.string gt] w λkY=>
 zQb prog ds kY λte=>
 zQg p6 λxk=>
 ∃ag,te.cell? (xk.add 0)=some (.int .i64 ag)/\
 ∃aj,te.cell? (xk.add 1)=some (.int .i64 aj)/\
 ∃ak,te.cell? (xk.add 2)=some (.string ak)/\
 R (.returned (.tuple #[.agg #[.int .i64 ag,.int .i64 aj,.string ak],.int .i64 0])) te))) (
 zQg p5 λa51=>
 ∃gq,w.cell? (a51.add 0)=some (.int .i64 gq)/\
 ∃gr,w.cell? (a51.add 1)=some (.int .i64 gr)/\
 ∃gt,w.cell? (a51.add 2)=some (.string gt)/\
 zQg p6 λxm=>
 stA prog 73 xm #[.int .i64 gq,.int .i64 gr,.string gt] w λsM=>
 zQb prog ds sM λsN=>
 zQg p6 λa55=>
 ∃ag,sN.cell? (a55.add 0)=some (.int .i64 ag)/\
 ∃aj,sN.cell? (a55.add 1)=some (.int .i64 aj)/\
 ∃ak,sN.cell? (a55.add 2)=some (.string ak)/\
 R (.returned (.tuple #[.agg #[.int .i64 ag,.int .i64 aj,.string ak],.int .i64 0])) sN)))
def F83_2(R:Rt)(aW:ByteArray)(aI aX:Int)(aY:Bool)(n1 cC dq:Int)(eu:ByteArray)(ds:Ds)(w:World):Prop:=
 alE (.cells #[.string aW,.int .i64 aI,.int .i64 aX,.bool aY] 129) w λr3 ye=>
 alE (.cells #[.int .i64 cC,.int .i64 dq,.string eu] 73) ye λr5 xn=>
 alE (.cells #[.int .i64 0,.int .i64 0,.string (⟨#[]⟩:ByteArray)] 73) xn λr6 qM=>
 ∃jA,qM.cell? ((⟨r3,0,none⟩:Addr).add 0)=some (.string jA)/\
 ∃eb,qM.cell? ((⟨r3,0,none⟩:Addr).add 1)=some (.int .i64 eb)/\
 ∃jB,qM.cell? ((⟨r3,0,none⟩:Addr).add 2)=some (.int .i64 jB)/\
 ∃jC,qM.cell? ((⟨r3,0,none⟩:Addr).add 3)=some (.bool jC)/\
 Calls prog 115 #[.agg #[.string jA,.int .i64 eb,.int .i64 jB,.bool jC]] qM λe o6=>
 ∃cP:Bool,e=.returned (.bool cP)/\
 Br (!cP) (
 stA prog 73 (⟨r6,0,none⟩:Addr) #[.int .i64 0,.int .i64 0,.string (⟨#[]⟩:ByteArray)] o6 λpE=>
 zQb prog ds pE λqp=>
 ∃ag,qp.cell? ((⟨r6,0,none⟩:Addr).add 0)=some (.int .i64 ag)/\
 ∃aj,qp.cell? ((⟨r6,0,none⟩:Addr).add 1)=some (.int .i64 aj)/\
 ∃ak,qp.cell? ((⟨r6,0,none⟩:Addr).add 2)=some (.string ak)/\
 R (.returned (.tuple #[.agg #[.int .i64 ag,.int .i64 aj,.string ak],.int .i64 1])) qp) (
 Calls prog 116 #[.int .i64 n1] o6 λe ri=>
 ∃ke:Bool,e=.returned (.bool ke)/\
 Br (!ke) (
 stA prog 73 (⟨r6,0,none⟩:Addr) #[.int .i64 0,.int .i64 0,.string (⟨#[]⟩:ByteArray)] ri λoX=>
 zQb prog ds oX λoY=>
 ∃ag,oY.cell? ((⟨r6,0,none⟩:Addr).add 0)=some (.int .i64 ag)/\
 ∃aj,oY.cell? ((⟨r6,0,none⟩:Addr).add 1)=some (.int .i64 aj)/\
 ∃ak,oY.cell? ((⟨r6,0,none⟩:Addr).add 2)=some (.string ak)/\
 R (.returned (.tuple #[.agg #[.int .i64 ag,.int .i64 aj,.string ak],.int .i64 1])) oY) (
 ∃gu,ri.cell? ((⟨r5,0,none⟩:Addr).add 0)=some (.int .i64 gu)/\
 ∃eM,ri.cell? ((⟨r5,0,none⟩:Addr).add 1)=some (.int .i64 eM)/\
 ∃gv,ri.cell? ((⟨r5,0,none⟩:Addr).add 2)=some (.string gv)/\
 Calls prog 117 #[.agg #[.int .i64 gu,.int .i64 eM,.string gv]] ri λe o7=>
 ∃kQ:Int,e=.returned (.int .i64 kQ)/\
 Br (kQ != 0) (
 stA prog 73 (⟨r6,0,none⟩:Addr) #[.int .i64 0,.int .i64 0,.string (⟨#[]⟩:ByteArray)] o7 λpF=>
 zQb prog ds pF λw67=>
 ∃ag,w67.cell? ((⟨r6,0,none⟩:Addr).add 0)=some (.int .i64 ag)/\
 ∃aj,w67.cell? ((⟨r6,0,none⟩:Addr).add 1)=some (.int .i64 aj)/\
 ∃ak,w67.cell? ((⟨r6,0,none⟩:Addr).add 2)=some (.string ak)/\
 R (.returned (.tuple #[.agg #[.int .i64 ag,.int .i64 aj,.string ak],.int .i64 kQ])) w67) (
 ∃gb,o7.cell? (⟨r5,0,none⟩:Addr)=some (.int .i64 gb)/\
 Br (gb == 0) (
 ∃tX,o7.cell? ((⟨r3,0,none⟩:Addr).add 3)=some (.bool tX)/\
 Br (!tX) (
 stA prog 73 (⟨r6,0,none⟩:Addr) #[.int .i64 0,.int .i64 0,.string (⟨#[]⟩:ByteArray)] o7 λyW=>
 zQb prog ds yW λtf=>
 ∃ag,tf.cell? ((⟨r6,0,none⟩:Addr).add 0)=some (.int .i64 ag)/\
 ∃aj,tf.cell? ((⟨r6,0,none⟩:Addr).add 1)=some (.int .i64 aj)/\
 ∃ak,tf.cell? ((⟨r6,0,none⟩:Addr).add 2)=some (.string ak)/\
 R (.returned (.tuple #[.agg #[.int .i64 ag,.int .i64 aj,.string ak],.int .i64 7])) tf) (
 ∃nM,o7.cell? ((⟨r5,0,none⟩:Addr).add 0)=some (.int .i64 nM)/\
 ∃nN,o7.cell? ((⟨r5,0,none⟩:Addr).add 1)=some (.int .i64 nN)/\
 ∃nO,o7.cell? ((⟨r5,0,none⟩:Addr).add 2)=some (.string nO)/\
 stA prog 73 (⟨r6,0,none⟩:Addr) #[.int .i64 nM,.int .i64 nN,.string nO] o7 λyX=>
 zQb prog ds yX λqN=>
 ∃ag,qN.cell? ((⟨r6,0,none⟩:Addr).add 0)=some (.int .i64 ag)/\
 ∃aj,qN.cell? ((⟨r6,0,none⟩:Addr).add 1)=some (.int .i64 aj)/\
 ∃ak,qN.cell? ((⟨r6,0,none⟩:Addr).add 2)=some (.string ak)/\
 R (.returned (.tuple #[.agg #[.int .i64 ag,.int .i64 aj,.string ak],.int .i64 0])) qN)) (
 dwE o7 λyY=>
 ∃S1:World->Prop,S1 yY/\
 ∃tS,(∀w',S1 w'->w'.cell? (⟨r5,0,none⟩:Addr)=some (.int .i64 tS))/\
 ∃tY,(∀w',S1 w'->w'.cell? ((⟨r3,0,none⟩:Addr).add 0)=some (.string tY))/\
 ∃tZ,(∀w',S1 w'->w'.cell? ((⟨r3,0,none⟩:Addr).add 1)=some (.int .i64 tZ))/\
 ∃t6,(∀w',S1 w'->w'.cell? ((⟨r3,0,none⟩:Addr).add 2)=some (.int .i64 t6))/\
 ∃t7,(∀w',S1 w'->w'.cell? ((⟨r3,0,none⟩:Addr).add 3)=some (.bool t7))/\
 Calls prog 118 #[.agg #[.string tY,.int .i64 tZ,.int .i64 t6,.bool t7]] yY λe t8=>
 ∃eO:Int,∃yZ:Int,∃y2:ByteArray,e=.returned (.agg #[.int .i64 eO,.int .i64 yZ,.string y2])/\
 S1 t8/\
 Br (tS != eO) (
 stA prog 73 (⟨r6,0,none⟩:Addr) #[.int .i64 0,.int .i64 0,.string (⟨#[]⟩:ByteArray)] t8 λxo=>
 zQb prog ds xo λo8=>
 ∃ag,o8.cell? ((⟨r6,0,none⟩:Addr).add 0)=some (.int .i64 ag)/\
 ∃aj,o8.cell? ((⟨r6,0,none⟩:Addr).add 1)=some (.int .i64 aj)/\
 ∃ak,o8.cell? ((⟨r6,0,none⟩:Addr).add 2)=some (.string ak)/\
 R (.returned (.tuple #[.agg #[.int .i64 ag,.int .i64 aj,.string ak],.int .i64 6])) o8) (
 ∃oW,t8.cell? ((⟨r3,0,none⟩:Addr).add 1)=some (.int .i64 oW)/\
 F83_1 R n1 (some (⟨r3,0,none⟩:Addr)) (some (⟨r5,0,none⟩:Addr)) (some (⟨r6,0,none⟩:Addr)) oW ds t8)))))
theorem F83_p:Pl prog f83 [aS 0 [.str,.int .i64,.int .i64,.bool],iS 1,aS 2 [.int .i64,.int .i64,.str]] F83_2:=λR=>
 pc 11 (rest [iS 1,pS 3,pS 5,pS 6,iS 42] (F83_1 R) lf)
theorem xQg (aW:ByteArray) (aI aX:Int) (aY:Bool) (n1 cC dq:Int) (eu:ByteArray) (w:World) (R:Rt) (h:F83_2 R aW aI aX aY n1 cC dq eu [] w):Calls prog 83 #[.agg #[.string aW,.int .i64 aI,.int .i64 aX,.bool aY],.int .i64 n1,.agg #[.int .i64 cC,.int .i64 dq,.string eu]] w R:=
 plC F83_p func83 h
def xW0(R:Rt)(aW:ByteArray)(aI aX:Int)(aY:Bool)(n1 cC dq:Int)(eu:ByteArray)(ds:Ds)(w:World):Prop:=
 alE (.cells #[.string aW,.int .i64 aI,.int .i64 aX,.bool aY] 129) w λr3 w1=>
 alE (.cells #[.int .i64 cC,.int .i64 dq,.string eu] 73) w1 λr5 w2=>
 alE (.cells #[.int .i64 0,.int .i64 0,.string (⟨#[]⟩:ByteArray)] 73) w2 λr6 w3=>
 ∃y3,w3.cell? ((⟨r3,0,none⟩:Addr).add 0)=some (.string y3)/\
 ∃ez,w3.cell? ((⟨r3,0,none⟩:Addr).add 1)=some (.int .i64 ez)/\
 ∃rj,w3.cell? ((⟨r3,0,none⟩:Addr).add 2)=some (.int .i64 rj)/\
 ∃y4,w3.cell? ((⟨r3,0,none⟩:Addr).add 3)=some (.bool y4)/\
 Calls prog 91 #[.agg #[.string y3,.int .i64 ez,.int .i64 rj,.bool y4]] w3 λe w4=>
 ∃dS:Bool,e=.returned (.bool dS)/\
 Br (!dS) (
 stA prog 73 (⟨r6,0,none⟩:Addr) #[.int .i64 0,.int .i64 0,.string (⟨#[]⟩:ByteArray)] w4 λw5=>
 zQb prog ds w5 λw6=>
 ∃ag,w6.cell? ((⟨r6,0,none⟩:Addr).add 0)=some (.int .i64 ag)/\
 ∃aj,w6.cell? ((⟨r6,0,none⟩:Addr).add 1)=some (.int .i64 aj)/\
 ∃ak,w6.cell? ((⟨r6,0,none⟩:Addr).add 2)=some (.string ak)/\
 R (.returned (.tuple #[.agg #[.int .i64 ag,.int .i64 aj,.string ak],.int .i64 1])) w6) (
 Calls prog 52 #[.int .i64 n1] w4 λe w7=>
 ∃iB:Bool,e=.returned (.bool iB)/\
 Br (!iB) (
 stA prog 73 (⟨r6,0,none⟩:Addr) #[.int .i64 0,.int .i64 0,.string (⟨#[]⟩:ByteArray)] w7 λw8=>
 zQb prog ds w8 λw9=>
 ∃ag,w9.cell? ((⟨r6,0,none⟩:Addr).add 0)=some (.int .i64 ag)/\
 ∃aj,w9.cell? ((⟨r6,0,none⟩:Addr).add 1)=some (.int .i64 aj)/\
 ∃ak,w9.cell? ((⟨r6,0,none⟩:Addr).add 2)=some (.string ak)/\
 R (.returned (.tuple #[.agg #[.int .i64 ag,.int .i64 aj,.string ak],.int .i64 1])) w9) (
 ∃gw,w7.cell? ((⟨r5,0,none⟩:Addr).add 0)=some (.int .i64 gw)/\
 ∃gc,w7.cell? ((⟨r5,0,none⟩:Addr).add 1)=some (.int .i64 gc)/\
 ∃ua,w7.cell? ((⟨r5,0,none⟩:Addr).add 2)=some (.string ua)/\
 Calls prog 132 #[.agg #[.int .i64 gw,.int .i64 gc,.string ua]] w7 λe aN=>
 ∃iZ:Int,e=.returned (.int .i64 iZ)/\
 Br (iZ != 0) (
 stA prog 73 (⟨r6,0,none⟩:Addr) #[.int .i64 0,.int .i64 0,.string (⟨#[]⟩:ByteArray)] aN λaV=>
 zQb prog ds aV λaO=>
 ∃ag,aO.cell? ((⟨r6,0,none⟩:Addr).add 0)=some (.int .i64 ag)/\
 ∃aj,aO.cell? ((⟨r6,0,none⟩:Addr).add 1)=some (.int .i64 aj)/\
 ∃ak,aO.cell? ((⟨r6,0,none⟩:Addr).add 2)=some (.string ak)/\
 R (.returned (.tuple #[.agg #[.int .i64 ag,.int .i64 aj,.string ak],.int .i64 iZ])) aO) (
 ∃nP,aN.cell? ((⟨r3,0,none⟩:Addr).add 0)=some (.string nP)/\
 ∃jD,aN.cell? ((⟨r3,0,none⟩:Addr).add 1)=some (.int .i64 jD)/\
 ∃nQ,aN.cell? ((⟨r3,0,none⟩:Addr).add 2)=some (.int .i64 nQ)/\
 ∃nR,aN.cell? ((⟨r3,0,none⟩:Addr).add 3)=some (.bool nR)/\
 ∃eQ,aN.cell? ((⟨r5,0,none⟩:Addr).add 0)=some (.int .i64 eQ)/\
 ∃fq,aN.cell? ((⟨r5,0,none⟩:Addr).add 1)=some (.int .i64 fq)/\
 ∃ub,aN.cell? ((⟨r5,0,none⟩:Addr).add 2)=some (.string ub)/\
 Calls prog 139 #[.agg #[.string nP,.int .i64 jD,.int .i64 nQ,.bool nR],.int .i64 n1,.agg #[.int .i64 eQ,.int .i64 fq,.string ub]] aN λe aH=>
 ∃pG:Int,∃pH:Int,∃pI:ByteArray,∃uc:Int,e=.returned (.tuple #[.agg #[.int .i64 pG,.int .i64 pH,.string pI],.int .i64 uc])/\
 stA prog 73 (⟨r6,0,none⟩:Addr) #[.int .i64 pG,.int .i64 pH,.string pI] aH λbq=>
 zQb prog ds bq λbp=>
 ∃ag,bp.cell? ((⟨r6,0,none⟩:Addr).add 0)=some (.int .i64 ag)/\
 ∃aj,bp.cell? ((⟨r6,0,none⟩:Addr).add 1)=some (.int .i64 aj)/\
 ∃ak,bp.cell? ((⟨r6,0,none⟩:Addr).add 2)=some (.string ak)/\
 R (.returned (.tuple #[.agg #[.int .i64 ag,.int .i64 aj,.string ak],.int .i64 uc])) bp)))
theorem F104_p:Pl prog f104 [aS 0 [.str,.int .i64,.int .i64,.bool],iS 1,aS 2 [.int .i64,.int .i64,.str]] xW0:=λR=>
 lf
theorem yV4 (aW:ByteArray) (aI aX:Int) (aY:Bool) (n1 cC dq:Int) (eu:ByteArray) (w:World) (R:Rt) (h:xW0 R aW aI aX aY n1 cC dq eu [] w):Calls prog 104 #[.agg #[.string aW,.int .i64 aI,.int .i64 aX,.bool aY],.int .i64 n1,.agg #[.int .i64 cC,.int .i64 dq,.string eu]] w R:=
 plC F104_p func104 h
def xKW(R:Rt)(aW:ByteArray)(aI aX:Int)(aY:Bool)(n1 cC dq:Int)(eu:ByteArray)(ds:Ds)(w:World):Prop:=
 alE (.cells #[.string aW,.int .i64 aI,.int .i64 aX,.bool aY] 129) w λr3 w1=>
 alE (.cells #[.int .i64 cC,.int .i64 dq,.string eu] 73) w1 λr5 w2=>
 alE (.cells #[.int .i64 0,.int .i64 0,.string (⟨#[]⟩:ByteArray)] 73) w2 λr6 w3=>
 ∃dT,w3.cell? (⟨r5,0,none⟩:Addr)=some (.int .i64 dT)/\
 Br (dT == 0) (
 ∃iB,w3.cell? ((⟨r3,0,none⟩:Addr).add 3)=some (.bool iB)/\
 Br (!iB) (
 stA prog 73 (⟨r6,0,none⟩:Addr) #[.int .i64 0,.int .i64 0,.string (⟨#[]⟩:ByteArray)] w3 λw4=>
 zQb prog ds w4 λw5=>
 ∃ag,w5.cell? ((⟨r6,0,none⟩:Addr).add 0)=some (.int .i64 ag)/\
 ∃aj,w5.cell? ((⟨r6,0,none⟩:Addr).add 1)=some (.int .i64 aj)/\
 ∃ak,w5.cell? ((⟨r6,0,none⟩:Addr).add 2)=some (.string ak)/\
 R (.returned (.tuple #[.agg #[.int .i64 ag,.int .i64 aj,.string ak],.int .i64 7])) w5) (
 ∃gx,w3.cell? ((⟨r5,0,none⟩:Addr).add 0)=some (.int .i64 gx)/\
 ∃ir,w3.cell? ((⟨r5,0,none⟩:Addr).add 1)=some (.int .i64 ir)/\
 ∃ud,w3.cell? ((⟨r5,0,none⟩:Addr).add 2)=some (.string ud)/\
 stA prog 73 (⟨r6,0,none⟩:Addr) #[.int .i64 gx,.int .i64 ir,.string ud] w3 λw6=>
 zQb prog ds w6 λw7=>
 ∃ag,w7.cell? ((⟨r6,0,none⟩:Addr).add 0)=some (.int .i64 ag)/\
 ∃aj,w7.cell? ((⟨r6,0,none⟩:Addr).add 1)=some (.int .i64 aj)/\
 ∃ak,w7.cell? ((⟨r6,0,none⟩:Addr).add 2)=some (.string ak)/\
 R (.returned (.tuple #[.agg #[.int .i64 ag,.int .i64 aj,.string ak],.int .i64 0])) w7)) (
 ∃iZ,w3.cell? ((⟨r3,0,none⟩:Addr).add 1)=some (.int .i64 iZ)/\
 Br (iZ == 5) (
 ∃fp,w3.cell? (⟨r5,0,none⟩:Addr)=some (.int .i64 fp)/\
 Br (fp != 2) (
 stA prog 73 (⟨r6,0,none⟩:Addr) #[.int .i64 0,.int .i64 0,.string (⟨#[]⟩:ByteArray)] w3 λw8=>
 zQb prog ds w8 λw9=>
 ∃ag,w9.cell? ((⟨r6,0,none⟩:Addr).add 0)=some (.int .i64 ag)/\
 ∃aj,w9.cell? ((⟨r6,0,none⟩:Addr).add 1)=some (.int .i64 aj)/\
 ∃ak,w9.cell? ((⟨r6,0,none⟩:Addr).add 2)=some (.string ak)/\
 R (.returned (.tuple #[.agg #[.int .i64 ag,.int .i64 aj,.string ak],.int .i64 6])) w9) (
 ∃kP,w3.cell? ((⟨r3,0,none⟩:Addr).add 1)=some (.int .i64 kP)/\
 Br (kP == 4) (
 ∃rk,w3.cell? ((⟨r5,0,none⟩:Addr).add 2)=some (.string rk)/\
 ∃ue,w3.cell? ((⟨r5,0,none⟩:Addr).add 2)=some (.string ue)/\
 ∃iU,w3.cell? ((⟨r3,0,none⟩:Addr).add 2)=some (.int .i64 iU)/\
 ∃iq:Int,∃aN,(Builtin.min_ #[3,3] 3 #[.int .i64 (ue.size:Int),.int .i64 iU]).run prog w3=.ok (.int .i64 iq) aN/\
 0<=iq/\iq.toNat<=rk.size/\0<=iq.toNat/\
 Calls prog 135 #[.string (rk.extract 0 iq.toNat)] aN λe aV=>
 ∃rm:ByteArray,e=.returned (.string rm)/\
 Calls prog 136 #[.string rm,.int .i64 n1] aV λe aO=>
 ∃pC:Bool,e=.returned (.bool pC)/\
 Br (!pC) (
 stA prog 73 (⟨r6,0,none⟩:Addr) #[.int .i64 0,.int .i64 0,.string (⟨#[]⟩:ByteArray)] aO λaH=>
 zQb prog ds aH λbq=>
 ∃ag,bq.cell? ((⟨r6,0,none⟩:Addr).add 0)=some (.int .i64 ag)/\
 ∃aj,bq.cell? ((⟨r6,0,none⟩:Addr).add 1)=some (.int .i64 aj)/\
 ∃ak,bq.cell? ((⟨r6,0,none⟩:Addr).add 2)=some (.string ak)/\
 R (.returned (.tuple #[.agg #[.int .i64 ag,.int .i64 aj,.string ak],.int .i64 10])) bq) (
 Calls prog 177 #[.string rm] aO λe bp=>
 ∃gd:Int,∃gf:Int,∃gg:ByteArray,e=.returned (.agg #[.int .i64 gd,.int .i64 gf,.string gg])/\
 stA prog 73 (⟨r6,0,none⟩:Addr) #[.int .i64 gd,.int .i64 gf,.string gg] bp λbG=>
 zQb prog ds bG λbH=>
 ∃ag,bH.cell? ((⟨r6,0,none⟩:Addr).add 0)=some (.int .i64 ag)/\
 ∃aj,bH.cell? ((⟨r6,0,none⟩:Addr).add 1)=some (.int .i64 aj)/\
 ∃ak,bH.cell? ((⟨r6,0,none⟩:Addr).add 2)=some (.string ak)/\
 R (.returned (.tuple #[.agg #[.int .i64 ag,.int .i64 aj,.string ak],.int .i64 0])) bH)) (
 ∃jE,w3.cell? ((⟨r3,0,none⟩:Addr).add 0)=some (.string jE)/\
 ∃cJ,w3.cell? ((⟨r3,0,none⟩:Addr).add 1)=some (.int .i64 cJ)/\
 ∃jF,w3.cell? ((⟨r3,0,none⟩:Addr).add 2)=some (.int .i64 jF)/\
 ∃jG,w3.cell? ((⟨r3,0,none⟩:Addr).add 3)=some (.bool jG)/\
 ∃gy,w3.cell? ((⟨r5,0,none⟩:Addr).add 0)=some (.int .i64 gy)/\
 ∃jH,w3.cell? ((⟨r5,0,none⟩:Addr).add 1)=some (.int .i64 jH)/\
 ∃jI,w3.cell? ((⟨r5,0,none⟩:Addr).add 2)=some (.string jI)/\
 Calls prog 93 #[.agg #[.string jE,.int .i64 cJ,.int .i64 jF,.bool jG],.int .i64 n1,.agg #[.int .i64 gy,.int .i64 jH,.string jI]] w3 λe bO=>
 ∃uf:Bool,e=.returned (.bool uf)/\
 Br (!uf) (
 stA prog 73 (⟨r6,0,none⟩:Addr) #[.int .i64 0,.int .i64 0,.string (⟨#[]⟩:ByteArray)] bO λcL=>
 zQb prog ds cL λbU=>
 ∃ag,bU.cell? ((⟨r6,0,none⟩:Addr).add 0)=some (.int .i64 ag)/\
 ∃aj,bU.cell? ((⟨r6,0,none⟩:Addr).add 1)=some (.int .i64 aj)/\
 ∃ak,bU.cell? ((⟨r6,0,none⟩:Addr).add 2)=some (.string ak)/\
 R (.returned (.tuple #[.agg #[.int .i64 ag,.int .i64 aj,.string ak],.int .i64 10])) bU) (
 ∃eR,bO.cell? ((⟨r5,0,none⟩:Addr).add 0)=some (.int .i64 eR)/\
 ∃eV,bO.cell? ((⟨r5,0,none⟩:Addr).add 1)=some (.int .i64 eV)/\
 ∃jJ,bO.cell? ((⟨r5,0,none⟩:Addr).add 2)=some (.string jJ)/\
 stA prog 73 (⟨r6,0,none⟩:Addr) #[.int .i64 eR,.int .i64 eV,.string jJ] bO λct=>
 zQb prog ds ct λdX=>
 ∃ag,dX.cell? ((⟨r6,0,none⟩:Addr).add 0)=some (.int .i64 ag)/\
 ∃aj,dX.cell? ((⟨r6,0,none⟩:Addr).add 1)=some (.int .i64 aj)/\
 ∃ak,dX.cell? ((⟨r6,0,none⟩:Addr).add 2)=some (.string ak)/\
 R (.returned (.tuple #[.agg #[.int .i64 ag,.int .i64 aj,.string ak],.int .i64 0])) dX)))) (
 ∃fp,w3.cell? (⟨r5,0,none⟩:Addr)=some (.int .i64 fp)/\
 Br (fp != iZ) (
 stA prog 73 (⟨r6,0,none⟩:Addr) #[.int .i64 0,.int .i64 0,.string (⟨#[]⟩:ByteArray)] w3 λdV=>
 zQb prog ds dV λdy=>
 ∃ag,dy.cell? ((⟨r6,0,none⟩:Addr).add 0)=some (.int .i64 ag)/\
 ∃aj,dy.cell? ((⟨r6,0,none⟩:Addr).add 1)=some (.int .i64 aj)/\
 ∃ak,dy.cell? ((⟨r6,0,none⟩:Addr).add 2)=some (.string ak)/\
 R (.returned (.tuple #[.agg #[.int .i64 ag,.int .i64 aj,.string ak],.int .i64 6])) dy) (
 ∃kP,w3.cell? ((⟨r3,0,none⟩:Addr).add 1)=some (.int .i64 kP)/\
 Br (kP == 4) (
 ∃rk,w3.cell? ((⟨r5,0,none⟩:Addr).add 2)=some (.string rk)/\
 ∃ue,w3.cell? ((⟨r5,0,none⟩:Addr).add 2)=some (.string ue)/\
 ∃iU,w3.cell? ((⟨r3,0,none⟩:Addr).add 2)=some (.int .i64 iU)/\
 ∃iq:Int,∃gj,(Builtin.min_ #[3,3] 3 #[.int .i64 (ue.size:Int),.int .i64 iU]).run prog w3=.ok (.int .i64 iq) gj/\
 0<=iq/\iq.toNat<=rk.size/\0<=iq.toNat/\
 Calls prog 135 #[.string (rk.extract 0 iq.toNat)] gj λe fe=>
 ∃rm:ByteArray,e=.returned (.string rm)/\
 Calls prog 136 #[.string rm,.int .i64 n1] fe λe gQ=>
 ∃pC:Bool,e=.returned (.bool pC)/\
 Br (!pC) (
 stA prog 73 (⟨r6,0,none⟩:Addr) #[.int .i64 0,.int .i64 0,.string (⟨#[]⟩:ByteArray)] gQ λdW=>
 zQb prog ds dW λfo=>
 ∃ag,fo.cell? ((⟨r6,0,none⟩:Addr).add 0)=some (.int .i64 ag)/\
 ∃aj,fo.cell? ((⟨r6,0,none⟩:Addr).add 1)=some (.int .i64 aj)/\
 ∃ak,fo.cell? ((⟨r6,0,none⟩:Addr).add 2)=some (.string ak)/\
 R (.returned (.tuple #[.agg #[.int .i64 ag,.int .i64 aj,.string ak],.int .i64 10])) fo) (
 Calls prog 177 #[.string rm] gQ λe iu=>
 ∃gd:Int,∃gf:Int,∃gg:ByteArray,e=.returned (.agg #[.int .i64 gd,.int .i64 gf,.string gg])/\
 stA prog 73 (⟨r6,0,none⟩:Addr) #[.int .i64 gd,.int .i64 gf,.string gg] iu λgn=>
 zQb prog ds gn λgk=>
 ∃ag,gk.cell? ((⟨r6,0,none⟩:Addr).add 0)=some (.int .i64 ag)/\
 ∃aj,gk.cell? ((⟨r6,0,none⟩:Addr).add 1)=some (.int .i64 aj)/\
 ∃ak,gk.cell? ((⟨r6,0,none⟩:Addr).add 2)=some (.string ak)/\
 R (.returned (.tuple #[.agg #[.int .i64 ag,.int .i64 aj,.string ak],.int .i64 0])) gk)) (
 ∃jE,w3.cell? ((⟨r3,0,none⟩:Addr).add 0)=some (.string jE)/\
 ∃cJ,w3.cell? ((⟨r3,0,none⟩:Addr).add 1)=some (.int .i64 cJ)/\
 ∃jF,w3.cell? ((⟨r3,0,none⟩:Addr).add 2)=some (.int .i64 jF)/\
 ∃jG,w3.cell? ((⟨r3,0,none⟩:Addr).add 3)=some (.bool jG)/\
 ∃gy,w3.cell? ((⟨r5,0,none⟩:Addr).add 0)=some (.int .i64 gy)/\
 ∃jH,w3.cell? ((⟨r5,0,none⟩:Addr).add 1)=some (.int .i64 jH)/\
 ∃jI,w3.cell? ((⟨r5,0,none⟩:Addr).add 2)=some (.string jI)/\
 Calls prog 93 #[.agg #[.string jE,.int .i64 cJ,.int .i64 jF,.bool jG],.int .i64 n1,.agg #[.int .i64 gy,.int .i64 jH,.string jI]] w3 λe fW=>
 ∃uf:Bool,e=.returned (.bool uf)/\
 Br (!uf) (
 stA prog 73 (⟨r6,0,none⟩:Addr) #[.int .i64 0,.int .i64 0,.string (⟨#[]⟩:ByteArray)] fW λfX=>
 zQb prog ds fX λi5=>
 ∃ag,i5.cell? ((⟨r6,0,none⟩:Addr).add 0)=some (.int .i64 ag)/\
 ∃aj,i5.cell? ((⟨r6,0,none⟩:Addr).add 1)=some (.int .i64 aj)/\
 ∃ak,i5.cell? ((⟨r6,0,none⟩:Addr).add 2)=some (.string ak)/\
 R (.returned (.tuple #[.agg #[.int .i64 ag,.int .i64 aj,.string ak],.int .i64 10])) i5) (
 ∃eR,fW.cell? ((⟨r5,0,none⟩:Addr).add 0)=some (.int .i64 eR)/\
 ∃eV,fW.cell? ((⟨r5,0,none⟩:Addr).add 1)=some (.int .i64 eV)/\
 ∃jJ,fW.cell? ((⟨r5,0,none⟩:Addr).add 2)=some (.string jJ)/\
 stA prog 73 (⟨r6,0,none⟩:Addr) #[.int .i64 eR,.int .i64 eV,.string jJ] fW λro=>
 zQb prog ds ro λj4=>
 ∃ag,j4.cell? ((⟨r6,0,none⟩:Addr).add 0)=some (.int .i64 ag)/\
 ∃aj,j4.cell? ((⟨r6,0,none⟩:Addr).add 1)=some (.int .i64 aj)/\
 ∃ak,j4.cell? ((⟨r6,0,none⟩:Addr).add 2)=some (.string ak)/\
 R (.returned (.tuple #[.agg #[.int .i64 ag,.int .i64 aj,.string ak],.int .i64 0])) j4)))))
theorem F139_p:Pl prog f139 [aS 0 [.str,.int .i64,.int .i64,.bool],iS 1,aS 2 [.int .i64,.int .i64,.str]] xKW:=λR=>
 lf
theorem yWj (aW:ByteArray) (aI aX:Int) (aY:Bool) (n1 cC dq:Int) (eu:ByteArray) (w:World) (R:Rt) (h:xKW R aW aI aX aY n1 cC dq eu [] w):Calls prog 139 #[.agg #[.string aW,.int .i64 aI,.int .i64 aX,.bool aY],.int .i64 n1,.agg #[.int .i64 cC,.int .i64 dq,.string eu]] w R:=
 plC F139_p func139 h
def F93_1(R:Rt)(aW:ByteArray)(aI aX:Int)(aY:Bool)(n1 cC dq:Int)(eu:ByteArray)(ds:Ds)(w:World):Prop:=
 alE (.cells #[.string aW,.int .i64 aI,.int .i64 aX,.bool aY] 129) w λr3 w1=>
 alE (.cells #[.int .i64 cC,.int .i64 dq,.string eu] 73) w1 λr5 w2=>
 ∃dF,w2.cell? ((⟨r5,0,none⟩:Addr).add 0)=some (.int .i64 dF)/\
 ∃dp,w2.cell? ((⟨r5,0,none⟩:Addr).add 1)=some (.int .i64 dp)/\
 ∃qZ,w2.cell? ((⟨r5,0,none⟩:Addr).add 2)=some (.string qZ)/\
 Calls prog 132 #[.agg #[.int .i64 dF,.int .i64 dp,.string qZ]] w2 λe w3=>
 ∃n8:Int,e=.returned (.int .i64 n8)/\
 Br (n8 != 0) (
 zQb prog ds w3 λw4=>
 R (.returned (.bool false)) w4) (
 ∃dz,w3.cell? (⟨r5,0,none⟩:Addr)=some (.int .i64 dz)/\
 Br (dz == 0) (
 ∃j5,w3.cell? ((⟨r3,0,none⟩:Addr).add 3)=some (.bool j5)/\
 zQb prog ds w3 λw5=>
 R (.returned (.bool j5)) w5) (
 ∃iF,w3.cell? ((⟨r3,0,none⟩:Addr).add 1)=some (.int .i64 iF)/\
 Br (iF == 5) (
 ∃kQ,w3.cell? (⟨r5,0,none⟩:Addr)=some (.int .i64 kQ)/\
 Br (kQ == 2) (
 ∃cp,w3.cell? ((⟨r5,0,none⟩:Addr).add 1)=some (.int .i64 cp)/\
 Calls prog 133 #[.int .i64 cp] w3 λe w6=>
 ∃qO:Bool,e=.returned (.bool qO)/\
 zQb prog ds w6 λw7=>
 R (.returned (.bool qO)) w7) (
 zQb prog ds w3 λw8=>
 R (.returned (.bool false)) w8)) (
 ∃rp,w3.cell? (⟨r5,0,none⟩:Addr)=some (.int .i64 rp)/\
 ∃pJ,w3.cell? ((⟨r3,0,none⟩:Addr).add 1)=some (.int .i64 pJ)/\
 Br (rp != pJ) (
 zQb prog ds w3 λw9=>
 R (.returned (.bool false)) w9) (
 ∃iU,w3.cell? ((⟨r3,0,none⟩:Addr).add 1)=some (.int .i64 iU)/\
 Br (iU == 2) (
 dwE w3 λaN=>
 ∃S1:World->Prop,S1 aN/\
 ∃fg,(∀w',S1 w'->w'.cell? ((⟨r5,0,none⟩:Addr).add 1)=some (.int .i64 fg))/\
 ∃eH,(∀w',S1 w'->w'.cell? ((⟨r3,0,none⟩:Addr).add 2)=some (.int .i64 eH))/\
 Calls prog 134 #[.int .i64 fg] aN λe aV=>
 ∃s40:ByteArray,e=.returned (.string s40)/\
 S1 aV/\
 zQb prog ds aV λaO=>
 R (.returned (.bool (decide ((s40.size:Int)<=eH)))) aO) (
 ∃n47,w3.cell? ((⟨r3,0,none⟩:Addr).add 1)=some (.int .i64 n47)/\
 Br (n47 == 4) (
 dwE w3 λaH=>
 ∃S2:World->Prop,S2 aH/\
 ∃s50,(∀w',S2 w'->w'.cell? ((⟨r5,0,none⟩:Addr).add 2)=some (.string s50))/\
 ∃kx,(∀w',S2 w'->w'.cell? ((⟨r3,0,none⟩:Addr).add 2)=some (.int .i64 kx))/\
 Br (decide ((s50.size:Int)<=kx)) (
 ∃yQ,(∀w',S2 w'->w'.cell? ((⟨r5,0,none⟩:Addr).add 2)=some (.string yQ))/\
 ∃s60,(∀w',S2 w'->w'.cell? ((⟨r5,0,none⟩:Addr).add 2)=some (.string s60))/\
 Calls prog 135 #[.string yQ] aH λe bq=>
 ∃s58:ByteArray,e=.returned (.string s58)/\
 S2 bq/\
 Br (s58.toList == s60.toList) (
 ∃s65,(∀w',S2 w'->w'.cell? ((⟨r5,0,none⟩:Addr).add 2)=some (.string s65))/\
 Calls prog 136 #[.string s65,.int .i64 n1] bq λe bp=>
 ∃ug:Bool,e=.returned (.bool ug)/\
 zQb prog ds bp λbG=>
 R (.returned (.bool ug)) bG) (
 zQb prog ds bq λbH=>
 R (.returned (.bool false)) bH)) (
 zQb prog ds aH λbO=>
 R (.returned (.bool false)) bO)) (
 zQb prog ds w3 λcL=>
 R (.returned (.bool true)) cL))))))
theorem F93_p:Pl prog f93 [aS 0 [.str,.int .i64,.int .i64,.bool],iS 1,aS 2 [.int .i64,.int .i64,.str]] F93_1:=λR=>
 lf
theorem yYx (aW:ByteArray) (aI aX:Int) (aY:Bool) (n1 cC dq:Int) (eu:ByteArray) (w:World) (R:Rt) (h:F93_1 R aW aI aX aY n1 cC dq eu [] w):Calls prog 93 #[.agg #[.string aW,.int .i64 aI,.int .i64 aX,.bool aY],.int .i64 n1,.agg #[.int .i64 cC,.int .i64 dq,.string eu]] w R:=
 plC F93_p func93 h
def xKQ(R:Rt)(n0:Int)(ds:Ds)(w:World):Prop:=
 Br (decide (n0 >= 0)) (
 zQb prog ds w λw1=>
 R (.returned (.bool (decide (n0<=99999999)))) w1) (
 zQb prog ds w λw2=>
 R (.returned (.bool false)) w2)
theorem F133_p:Pl prog f133 [iS 0] xKQ:=λR=>
 lf
theorem yVm (n0:Int) (w:World) (R:Rt) (h:xKQ R n0 [] w):Calls prog 133 #[.int .i64 n0] w R:=
 plC F133_p func133 h
end Go.Proofs.YtaeecpjhfmcliaaGreatDoor
/- Shallow texts of functions, printed by program, each checked by the kernel against the loaded code. No condition. -/
namespace Go.Proofs.YtaeecpjhfmcliaaGreatDoor
open Go.Sh Tryz
def xVa(R:Rt)(l0:SV)(ds:Ds)(w:World):Prop:=
 Br (decide ((l0.len:Int) > 16)) (
 zQb prog ds w λw1=>
 R (.returned (.int .i64 3)) w1) (
 Calls prog 161 #[l0.v] w λe w2=>
 ∃re:Int,e=.returned (.int .i64 re)/\
 Br (decide (re > 2000)) (
 zQb prog ds w2 λw3=>
 R (.returned (.int .i64 3)) w3) (
 zQb prog ds w2 λw4=>
 R (.returned (.int .i64 0)) w4))
def xKI (R:Rt) (J1:(Int)->World->Prop) (l0:SV) (m3:Option Nat) (bR:SV) (kZ n16:Int) (ds:Ds) (w:World):Prop:=
 Br (decide (n16<kZ)) (
 ∃a5,bR.a=some a5/\0<=n16/\n16<(bR.len:Int)/\
 ∃jK,w.cell? ((a5.add (n16.toNat * 4)).add 0)=some (.string jK)/\
 ∃bT,w.cell? ((a5.add (n16.toNat * 4)).add 1)=some (.int .i64 bT)/\
 ∃jL,w.cell? ((a5.add (n16.toNat * 4)).add 2)=some (.int .i64 jL)/\
 ∃gz,w.cell? ((a5.add (n16.toNat * 4)).add 3)=some (.bool gz)/\
 alE (.cells #[.string (⟨#[]⟩:ByteArray),.int .i64 0,.int .i64 0,.bool false] 129) w λr5 w6=>
 stA prog 129 (⟨r5,0,none⟩:Addr) #[.string jK,.int .i64 bT,.int .i64 jL,.bool gz] w6 λw7=>
 ∃yd,w7.cell? (⟨r5,0,none⟩:Addr)=some (.string yd)/\
 ∃qq:Bool,∃w8,(Instr.lookup 206 (.map m3) (.string yd) false).run prog w7=.ok (.bool qq) w8/\
 Br qq (
 zQb prog ds w8 λw9=>
 R (.returned (.int .i64 5)) w9) (
 ∃s26,w8.cell? (⟨r5,0,none⟩:Addr)=some (.string s26)/\
 doE prog (Instr.mapUpdate 206 (.map m3) (.string s26) (.bool true)) w8 λaN=>
 J1 (IntKind.i64.wrap (n16+1)) aN)) (
 xVa R l0 ds w)
def xWn(R:Rt)(l0:SV)(m3:Option Nat)(bR:SV)(kZ n16:Int)(ds:Ds)(w:World):Prop:=
 zQE (λ(J1:(Int)->World->Prop) (s:Int) (w:World)=>xKI R J1 l0 m3 bR kZ s ds w) n16 w
def xKL(R:Rt)(l0:SV)(ds:Ds)(w:World):Prop:=
 Br ((l0.len:Int) == 0) (
 zQb prog ds w λaV=>
 R (.returned (.int .i64 1)) aV) (
 Calls prog 178 #[l0.v,.func (.func 179) #[] #[]] w λe aO=>
 ∃qt:Bool,e=.returned (.bool qt)/\
 Br qt (
 zQb prog ds aO λaH=>
 R (.returned (.int .i64 1)) aH) (
 alE (.map #[] 0) aO λnS bq=>
 xWn R l0 (some nS) l0 (l0.len:Int) 0 ds bq))
theorem F141_p:Pl prog f141 [lS 0] xKL:=λR=>
 pc 5 (rest [lS 0,mS 3,lS 14,iS 15,iS 16] (xWn R) (bk 0 (rest [lS 0] (xVa R) lf) (lp [iS 16] [lS 0,mS 3,lS 14,iS 15,iS 16] (xKI R) zXL λJ1=>lf)))
theorem yKY (l0:SV) (w:World) (R:Rt) (h:xKL R l0 [] w):Calls prog 141 #[l0.v] w R:=
 plC F141_p func141 h
def xWk(R:Rt)(l0:SV)(v1:Value)(ds:Ds)(w:World):Prop:=
 Calls prog 113 #[l0.v,v1] w λe w1=>
 ∃n7:Int,e=.returned (.int .i64 n7)/\
 zQb prog ds w1 λw2=>
 R (.returned (.bool (decide (n7 >= 0)))) w2
theorem F178_p:Pl prog f178 [lS 0,vS 1] xWk:=λR=>
 lf
theorem yW2 (l0:SV) (v1:Value) (w:World) (R:Rt) (h:xWk R l0 v1 [] w):Calls prog 178 #[l0.v,v1] w R:=
 plC F178_p func178 h
def xYg(R:Rt)(aW:ByteArray)(aI aX:Int)(aY:Bool)(ds:Ds)(w:World):Prop:=
 alE (.cells #[.string aW,.int .i64 aI,.int .i64 aX,.bool aY] 129) w λr1 w1=>
 ∃y5,w1.cell? ((⟨r1,0,none⟩:Addr).add 0)=some (.string y5)/\
 ∃gA,w1.cell? ((⟨r1,0,none⟩:Addr).add 1)=some (.int .i64 gA)/\
 ∃o9,w1.cell? ((⟨r1,0,none⟩:Addr).add 2)=some (.int .i64 o9)/\
 ∃y6,w1.cell? ((⟨r1,0,none⟩:Addr).add 3)=some (.bool y6)/\
 Calls prog 115 #[.agg #[.string y5,.int .i64 gA,.int .i64 o9,.bool y6]] w1 λe w2=>
 ∃b4:Bool,e=.returned (.bool b4)/\
 zQb prog ds w2 λw3=>
 R (.returned (.bool (!b4))) w3
theorem F179_p:Pl prog f179 [aS 0 [.str,.int .i64,.int .i64,.bool]] xYg:=λR=>
 lf
theorem yWh (aW:ByteArray) (aI aX:Int) (aY:Bool) (w:World) (R:Rt) (h:xYg R aW aI aX aY [] w):Calls prog 179 #[.agg #[.string aW,.int .i64 aI,.int .i64 aX,.bool aY]] w R:=
 plC F179_p func179 h
def xV2(R:Rt)(n3:Int)(ds:Ds)(w:World):Prop:=
 zQb prog ds w λw1=>
 R (.returned (.int .i64 n3)) w1
def xJX (R:Rt) (J1:(Int × Int)->World->Prop) (n3:Int) (l9:SV) (i6 dT:Int) (ds:Ds) (w:World):Prop:=
 Br (decide (dT<i6)) (
 ∃a2,l9.a=some a2/\0<=dT/\dT<(l9.len:Int)/\
 ∃uh,w.cell? ((a2.add (dT.toNat * 4)).add 0)=some (.string uh)/\
 ∃ui,w.cell? ((a2.add (dT.toNat * 4)).add 1)=some (.int .i64 ui)/\
 ∃uj,w.cell? ((a2.add (dT.toNat * 4)).add 2)=some (.int .i64 uj)/\
 ∃uk,w.cell? ((a2.add (dT.toNat * 4)).add 3)=some (.bool uk)/\
 alE (.cells #[.string (⟨#[]⟩:ByteArray),.int .i64 0,.int .i64 0,.bool false] 129) w λr5 w3=>
 stA prog 129 (⟨r5,0,none⟩:Addr) #[.string uh,.int .i64 ui,.int .i64 uj,.bool uk] w3 λw4=>
 ∃lr,w4.cell? ((⟨r5,0,none⟩:Addr).add 2)=some (.int .i64 lr)/\
 J1 ((IntKind.i64.wrap (n3+lr)),(IntKind.i64.wrap (dT+1))) w4) (
 xV2 R n3 ds w)
def xVh(R:Rt)(n3:Int)(l9:SV)(i6 dT:Int)(ds:Ds)(w:World):Prop:=
 zQE (λ(J1:(Int × Int)->World->Prop) (s:Int × Int) (w:World)=>xJX R J1 s.1 l9 i6 s.2 ds w) (n3,dT) w
def xKs(R:Rt)(l0:SV)(ds:Ds)(w:World):Prop:=
 Calls prog 203 #[l0.v] w λe w5=>
 ∃n7:Int,e=.returned (.int .i64 n7)/\
 xVh R (IntKind.i64.wrap ((1:Int)+n7)) l0 (l0.len:Int) 0 ds w5
theorem F161_p:Pl prog f161 [lS 0] xKs:=λR=>
 pc 3 (rest [iS 3,lS 9,iS 10,iS 11] (xVh R) (bk 0 (rest [iS 3] (xV2 R) lf) (lp [iS 3,iS 11] [iS 3,lS 9,iS 10,iS 11] (xJX R) zXL λJ1=>lf)))
theorem yVO (l0:SV) (w:World) (R:Rt) (h:xKs R l0 [] w):Calls prog 161 #[l0.v] w R:=
 plC F161_p func161 h
def xVF(R:Rt)(n3:Int)(ds:Ds)(w:World):Prop:=
 IntKind.i64=IntKind.i64/\(8:Int) ≠ 0/\
 zQb prog ds w λw1=>
 R (.returned (.int .i64 (IntKind.i64.wrap ((IntKind.i64.wrap (n3+7)).tdiv 8)))) w1
def xJY (R:Rt) (J1:(Int × Int)->World->Prop) (n3:Int) (l6:SV) (n7 n8:Int) (ds:Ds) (w:World):Prop:=
 Br (decide (n8<n7)) (
 ∃a2,l6.a=some a2/\0<=n8/\n8<(l6.len:Int)/\
 ∃jA,w.cell? ((a2.add (n8.toNat * 4)).add 0)=some (.string jA)/\
 ∃eb,w.cell? ((a2.add (n8.toNat * 4)).add 1)=some (.int .i64 eb)/\
 ∃jB,w.cell? ((a2.add (n8.toNat * 4)).add 2)=some (.int .i64 jB)/\
 ∃jC,w.cell? ((a2.add (n8.toNat * 4)).add 3)=some (.bool jC)/\
 alE (.cells #[.string (⟨#[]⟩:ByteArray),.int .i64 0,.int .i64 0,.bool false] 129) w λr5 w3=>
 stA prog 129 (⟨r5,0,none⟩:Addr) #[.string jA,.int .i64 eb,.int .i64 jB,.bool jC] w3 λw4=>
 ∃kT,w4.cell? ((⟨r5,0,none⟩:Addr).add 3)=some (.bool kT)/\
 Br kT (
 J1 ((IntKind.i64.wrap (n3+1)),(IntKind.i64.wrap (n8+1))) w4) (
 J1 (n3,(IntKind.i64.wrap (n8+1))) w4)) (
 xVF R n3 ds w)
def xJP(R:Rt)(n3:Int)(l6:SV)(n7 n8:Int)(ds:Ds)(w:World):Prop:=
 zQE (λ(J1:(Int × Int)->World->Prop) (s:Int × Int) (w:World)=>xJY R J1 s.1 l6 n7 s.2 ds w) (n3,n8) w
def xVu(R:Rt)(l0:SV)(ds:Ds)(w:World):Prop:=
 xJP R 0 l0 (l0.len:Int) 0 ds w
theorem F203_p:Pl prog f203 [lS 0] xVu:=λR=>
 pc 3 (rest [iS 3,lS 6,iS 7,iS 8] (xJP R) (bk 0 (rest [iS 3] (xVF R) lf) (lp [iS 3,iS 8] [iS 3,lS 6,iS 7,iS 8] (xJY R) zXL λJ1=>lf)))
theorem yWb (l0:SV) (w:World) (R:Rt) (h:xVu R l0 [] w):Calls prog 203 #[l0.v] w R:=
 plC F203_p func203 h
def F53_1(R:Rt)(l0:SV)(ds:Ds)(w:World):Prop:=
 Br (decide ((l0.len:Int) > 16)) (
 zQb prog ds w λw1=>
 R (.returned (.int .i64 3)) w1) (
 Calls prog 92 #[l0.v] w λe w2=>
 ∃dr:Int,e=.returned (.int .i64 dr)/\
 Br (decide (dr > 2000)) (
 zQb prog ds w2 λw3=>
 R (.returned (.int .i64 3)) w3) (
 zQb prog ds w2 λw4=>
 R (.returned (.int .i64 0)) w4))
def F53_2 (R:Rt) (J1:(Int)->World->Prop) (l0:SV) (n4:Int) (ds:Ds) (w:World):Prop:=
 J1 (IntKind.i64.wrap (n4+1)) w
def F53_3 (R:Rt) (J1:(Int)->World->Prop) (J2:(Int)->World->Prop) (l0:SV) (n4 n5:Int) (ds:Ds) (w:World):Prop:=
 Br (decide (n5<n4)) (
 dwE w λw5=>
 ∃a6,l0.a=some a6/\0<=n4/\n4<(l0.len:Int)/\
 ∃s36,w5.cell? (a6.add (n4.toNat * 4))=some (.string s36)/\
 ∃a7,l0.a=some a7/\0<=n5/\n5<(l0.len:Int)/\
 ∃s41,w5.cell? (a7.add (n5.toNat * 4))=some (.string s41)/\
 Br (s36.toList == s41.toList) (
 zQb prog ds w5 λw8=>
 R (.returned (.int .i64 5)) w8) (
 J2 (IntKind.i64.wrap (n5+1)) w5)) (
 F53_2 R J1 l0 n4 ds w)
def F53_4 (R:Rt) (J1:(Int)->World->Prop) (l0:SV) (n4 n5:Int) (ds:Ds) (w:World):Prop:=
 zQE (λ(J2:(Int)->World->Prop) (s:Int) (w:World)=>F53_3 R J1 J2 l0 n4 s ds w) n5 w
def F53_6 (R:Rt) (J1:(Int)->World->Prop) (l0:SV) (n4:Int) (ds:Ds) (w:World):Prop:=
 F53_4 R J1 l0 n4 0 ds w
def F53_8 (R:Rt) (J1:(Int)->World->Prop) (l0:SV) (n4:Int) (ds:Ds) (w:World):Prop:=
 Br (decide (n4<(l0.len:Int))) (
 F53_6 R J1 l0 n4 ds w) (
 F53_1 R l0 ds w)
def F53_9(R:Rt)(l0:SV)(n4:Int)(ds:Ds)(w:World):Prop:=
 zQE (λ(J1:(Int)->World->Prop) (s:Int) (w:World)=>F53_8 R J1 l0 s ds w) n4 w
def xKi(R:Rt)(l0:SV)(ds:Ds)(w:World):Prop:=
 F53_9 R l0 0 ds w
def xVX (R:Rt) (J1:(Int)->World->Prop) (l0:SV) (n3:Int) (ds:Ds) (w:World):Prop:=
 Br (decide (n3<(l0.len:Int))) (
 ∃a9,l0.a=some a9/\0<=n3/\n3<(l0.len:Int)/\
 ∃ul,w.cell? ((a9.add (n3.toNat * 4)).add 0)=some (.string ul)/\
 ∃gc,w.cell? ((a9.add (n3.toNat * 4)).add 1)=some (.int .i64 gc)/\
 ∃um,w.cell? ((a9.add (n3.toNat * 4)).add 2)=some (.int .i64 um)/\
 ∃un,w.cell? ((a9.add (n3.toNat * 4)).add 3)=some (.bool un)/\
 Calls prog 91 #[.agg #[.string ul,.int .i64 gc,.int .i64 um,.bool un]] w λe aN=>
 ∃b19:Bool,e=.returned (.bool b19)/\
 Br (!b19) (
 zQb prog ds aN λaV=>
 R (.returned (.int .i64 1)) aV) (
 J1 (IntKind.i64.wrap (n3+1)) aN)) (
 xKi R l0 ds w)
def xWc(R:Rt)(l0:SV)(n3:Int)(ds:Ds)(w:World):Prop:=
 zQE (λ(J1:(Int)->World->Prop) (s:Int) (w:World)=>xVX R J1 l0 s ds w) n3 w
def xV4(R:Rt)(l0:SV)(ds:Ds)(w:World):Prop:=
 Br ((l0.len:Int) == 0) (
 zQb prog ds w λaO=>
 R (.returned (.int .i64 1)) aO) (
 xWc R l0 0 ds w)
theorem F53_p:Pl prog f53 [lS 0] xV4:=λR=>
 pc 4 (rest [lS 0,iS 3] (xWc R) (bk 0 (rest [lS 0] (xKi R) (pc 1 (rest [lS 0,iS 4] (F53_9 R) (bk 2 (rest [lS 0] (F53_1 R) lf) (lp [iS 4] [lS 0,iS 4] (F53_8 R) zXL λJ1=>pc 2 (rest [lS 0,iS 4] (F53_6 R J1) (bk 3 (rest [lS 0,iS 4] (F53_2 R J1) lf) (pc 1 (rest [lS 0,iS 4,iS 5] (F53_4 R J1) (bk 4 zXL (lp [iS 5] [lS 0,iS 4,iS 5] (F53_3 R J1) zXL λJ2=>lf))))))))))) (lp [iS 3] [lS 0,iS 3] (xVX R) zXL λJ1=>lf)))
theorem xXr (l0:SV) (w:World) (R:Rt) (h:xV4 R l0 [] w):Calls prog 53 #[l0.v] w R:=
 plC F53_p func53 h
def F92_1(R:Rt)(n3:Int)(ds:Ds)(w:World):Prop:=
 zQb prog ds w λw1=>
 R (.returned (.int .i64 n3)) w1
def F92_2 (R:Rt) (J1:(Int × Int)->World->Prop) (l0:SV) (n3 n4:Int) (ds:Ds) (w:World):Prop:=
 Br (decide (n4<(l0.len:Int))) (
 ∃a2,l0.a=some a2/\0<=n4/\n4<(l0.len:Int)/\
 ∃iZ,w.cell? ((a2.add (n4.toNat * 4)).add 2)=some (.int .i64 iZ)/\
 J1 ((IntKind.i64.wrap (n3+iZ)),(IntKind.i64.wrap (n4+1))) w) (
 F92_1 R n3 ds w)
def F92_3(R:Rt)(l0:SV)(n3 n4:Int)(ds:Ds)(w:World):Prop:=
 zQE (λ(J1:(Int × Int)->World->Prop) (s:Int × Int) (w:World)=>F92_2 R J1 l0 s.1 s.2 ds w) (n3,n4) w
def F92_5(R:Rt)(l0:SV)(ds:Ds)(w:World):Prop:=
 Calls prog 131 #[l0.v] w λe w3=>
 ∃n6:Int,e=.returned (.int .i64 n6)/\
 F92_3 R l0 (IntKind.i64.wrap ((1:Int)+n6)) 0 ds w3
theorem F92_p:Pl prog f92 [lS 0] F92_5:=λR=>
 pc 3 (rest [lS 0,iS 3,iS 4] (F92_3 R) (bk 0 (rest [iS 3] (F92_1 R) lf) (lp [iS 3,iS 4] [lS 0,iS 3,iS 4] (F92_2 R) zXL λJ1=>lf)))
theorem xQP (l0:SV) (w:World) (R:Rt) (h:F92_5 R l0 [] w):Calls prog 92 #[l0.v] w R:=
 plC F92_p func92 h
def xV9(R:Rt)(n3:Int)(ds:Ds)(w:World):Prop:=
 IntKind.i64=IntKind.i64/\(8:Int) ≠ 0/\
 zQb prog ds w λw1=>
 R (.returned (.int .i64 (IntKind.i64.wrap ((IntKind.i64.wrap (n3+7)).tdiv 8)))) w1
def xWZ (R:Rt) (J1:(Int × Int)->World->Prop) (l0:SV) (n3 n4:Int) (ds:Ds) (w:World):Prop:=
 Br (decide (n4<(l0.len:Int))) (
 ∃a2,l0.a=some a2/\0<=n4/\n4<(l0.len:Int)/\
 ∃j5,w.cell? ((a2.add (n4.toNat * 4)).add 3)=some (.bool j5)/\
 Br j5 (
 J1 ((IntKind.i64.wrap (n3+1)),(IntKind.i64.wrap (n4+1))) w) (
 J1 (n3,(IntKind.i64.wrap (n4+1))) w)) (
 xV9 R n3 ds w)
def xVb(R:Rt)(l0:SV)(n3 n4:Int)(ds:Ds)(w:World):Prop:=
 zQE (λ(J1:(Int × Int)->World->Prop) (s:Int × Int) (w:World)=>xWZ R J1 l0 s.1 s.2 ds w) (n3,n4) w
def xVz(R:Rt)(l0:SV)(ds:Ds)(w:World):Prop:=
 xVb R l0 0 0 ds w
theorem F131_p:Pl prog f131 [lS 0] xVz:=λR=>
 pc 3 (rest [lS 0,iS 3,iS 4] (xVb R) (bk 0 (rest [iS 3] (xV9 R) lf) (lp [iS 3,iS 4] [lS 0,iS 3,iS 4] (xWZ R) zXL λJ1=>lf)))
theorem yWw (l0:SV) (w:World) (R:Rt) (h:xVz R l0 [] w):Calls prog 131 #[l0.v] w R:=
 plC F131_p func131 h
end Go.Proofs.YtaeecpjhfmcliaaGreatDoor
/- Shallow texts of functions, printed by program, each checked by the kernel against the loaded code. No condition. -/
namespace Go.Proofs.YtaeecpjhfmcliaaGreatDoor
open Go.Sh Tryz
def xKY(R:Rt)(ds:Ds)(w:World):Prop:=
 zQb prog ds w λw1=>
 R (.returned (.int .i64 (-1))) w1
def xVR (R:Rt) (J1:(Int)->World->Prop) (l0:SV) (v1:Value) (n7 n8:Int) (ds:Ds) (w:World):Prop:=
 Br (decide (n8<n7)) (
 ∃a2,l0.a=some a2/\0<=n8/\n8<(l0.len:Int)/\
 ∃uo,w.cell? ((a2.add (n8.toNat * 4)).add 0)=some (.string uo)/\
 ∃gB,w.cell? ((a2.add (n8.toNat * 4)).add 1)=some (.int .i64 gB)/\
 ∃uq,w.cell? ((a2.add (n8.toNat * 4)).add 2)=some (.int .i64 uq)/\
 ∃ur,w.cell? ((a2.add (n8.toNat * 4)).add 3)=some (.bool ur)/\
 fnE v1 λf16 first16 y7=>
 zQ6 prog f16=true/\Calls prog f16 (first16.toList ++ (([.agg #[.string uo,.int .i64 gB,.int .i64 uq,.bool ur]]:List Value) ++ y7.toList)).toArray w λe w3=>
 ∃ke:Bool,e=.returned (.bool ke)/\
 Br ke (
 zQb prog ds w3 λw4=>
 R (.returned (.int .i64 n8)) w4) (
 J1 (IntKind.i64.wrap (n8+1)) w3)) (
 xKY R ds w)
def xK2(R:Rt)(l0:SV)(v1:Value)(n7 n8:Int)(ds:Ds)(w:World):Prop:=
 zQE (λ(J1:(Int)->World->Prop) (s:Int) (w:World)=>xVR R J1 l0 v1 n7 s ds w) n8 w
def xWA(R:Rt)(l0:SV)(v1:Value)(ds:Ds)(w:World):Prop:=
 xK2 R l0 (v1) (l0.len:Int) 0 ds w
theorem F113_p:Pl prog f113 [lS 0,vS 1] xWA:=λR=>
 pc 2 (rest [lS 0,vS 1,iS 7,iS 8] (xK2 R) (bk 0 (rest [] (xKY R) lf) (lp [iS 8] [lS 0,vS 1,iS 7,iS 8] (xVR R) zXL λJ1=>lf)))
theorem yVk (l0:SV) (v1:Value) (w:World) (R:Rt) (h:xWA R l0 v1 [] w):Calls prog 113 #[l0.v,v1] w R:=
 plC F113_p func113 h
def xVm(R:Rt)(aW:ByteArray)(aI aX:Int)(aY:Bool)(v1:Value)(ds:Ds)(w:World):Prop:=
 alE (.cells #[.string aW,.int .i64 aI,.int .i64 aX,.bool aY] 129) w λr2 w1=>
 ∃s5,w1.cell? (⟨r2,0,none⟩:Addr)=some (.string s5)/\
 zV3 v1 λa2=>
 ∃s6,w1.cell? a2=some (.string s6)/\
 zQb prog ds w1 λw3=>
 R (.returned (.bool (s5.toList == s6.toList))) w3
theorem F114_p:Pl prog f114 [aS 0 [.str,.int .i64,.int .i64,.bool],vS 1] xVm:=λR=>
 lf
theorem yWQ (aW:ByteArray) (aI aX:Int) (aY:Bool) (v1:Value) (w:World) (R:Rt) (h:xVm R aW aI aX aY v1 [] w):Calls prog 114 #[.agg #[.string aW,.int .i64 aI,.int .i64 aX,.bool aY],v1] w R:=
 plC F114_p func114 h
def F82_1(R:Rt)(l0:SV)(s1:ByteArray)(ds:Ds)(w:World):Prop:=
 alE (.cells #[.string s1] 9) w λr3 w1=>
 Calls prog 113 #[l0.v,.func (.func 114) #[] #[.pointer (some (⟨r3,0,none⟩:Addr))]] w1 λe w2=>
 ∃n9:Int,e=.returned (.int .i64 n9)/\
 ∃dT:Int,∃w3,(Builtin.max_ #[3,3] 3 #[.int .i64 n9,.int .i64 0]).run prog w2=.ok (.int .i64 dT) w3/\
 zQb prog ds w3 λw4=>
 R (.returned (.tuple #[.int .i64 dT,.bool (decide (n9 >= 0))])) w4
theorem F82_p:Pl prog f82 [lS 0,sS 1] F82_1:=λR=>
 lf
theorem xXi (l0:SV) (s1:ByteArray) (w:World) (R:Rt) (h:F82_1 R l0 s1 [] w):Calls prog 82 #[l0.v,.string s1] w R:=
 plC F82_p func82 h
def xKf(R:Rt)(ds:Ds)(w:World):Prop:=
 zQb prog ds w λw1=>
 R (.returned (.tuple #[.int .i64 0,.bool false])) w1
def xJS (R:Rt) (J1:(Int)->World->Prop) (l0:SV) (s1:ByteArray) (n6:Int) (ds:Ds) (w:World):Prop:=
 Br (decide (n6<(l0.len:Int))) (
 ∃a2,l0.a=some a2/\0<=n6/\n6<(l0.len:Int)/\
 ∃xp,w.cell? (a2.add (n6.toNat * 4))=some (.string xp)/\
 Br (xp.toList == s1.toList) (
 zQb prog ds w λw3=>
 R (.returned (.tuple #[.int .i64 n6,.bool true])) w3) (
 J1 (IntKind.i64.wrap (n6+1)) w)) (
 xKf R ds w)
def xVD(R:Rt)(l0:SV)(s1:ByteArray)(n6:Int)(ds:Ds)(w:World):Prop:=
 zQE (λ(J1:(Int)->World->Prop) (s:Int) (w:World)=>xJS R J1 l0 s1 s ds w) n6 w
def xYq(R:Rt)(l0:SV)(s1:ByteArray)(ds:Ds)(w:World):Prop:=
 xVD R l0 s1 0 ds w
theorem F103_p:Pl prog f103 [lS 0,sS 1] xYq:=λR=>
 pc 2 (rest [lS 0,sS 1,iS 6] (xVD R) (bk 0 (rest [] (xKf R) lf) (lp [iS 6] [lS 0,sS 1,iS 6] (xJS R) zXL λJ1=>lf)))
theorem yVp (l0:SV) (s1:ByteArray) (w:World) (R:Rt) (h:xYq R l0 s1 [] w):Calls prog 103 #[l0.v,.string s1] w R:=
 plC F103_p func103 h
end Go.Proofs.YtaeecpjhfmcliaaGreatDoor
/- Shallow texts of functions, printed by program, each checked by the kernel against the loaded code. No condition. -/
namespace Go.Proofs.YtaeecpjhfmcliaaGreatDoor
open Go.Sh Tryz
def xYa(R:Rt)(ds:Ds)(w:World):Prop:=
 zQb prog ds w λw1=>
 R (.returned (.int .i64 0)) w1
def xX2 (R:Rt) (J1:(Int)->World->Prop) (p1:Option Addr) (gl:SV) (qu cp:Int) (ds:Ds) (w:World):Prop:=
 J1 (IntKind.i64.wrap (cp+1)) w
def xKe (R:Rt) (J1:(Int)->World->Prop) (J2:(Int)->World->Prop) (p1 p5:Option Addr) (gl:SV) (qu cp:Int) (eW:SV) (sO fg:Int) (ds:Ds) (w:World):Prop:=
 Br (decide (fg<sO)) (
 ∃a2,eW.a=some a2/\0<=fg/\fg<(eW.len:Int)/\
 ∃ut,w.cell? ((a2.add (fg.toNat * 4)).add 0)=some (.string ut)/\
 ∃uu,w.cell? ((a2.add (fg.toNat * 4)).add 1)=some (.int .i64 uu)/\
 ∃uv,w.cell? ((a2.add (fg.toNat * 4)).add 2)=some (.int .i64 uv)/\
 ∃uw,w.cell? ((a2.add (fg.toNat * 4)).add 3)=some (.bool uw)/\
 alE (.cells #[.string (⟨#[]⟩:ByteArray),.int .i64 0,.int .i64 0,.bool false] 129) w λr7 w3=>
 stA prog 129 (⟨r7,0,none⟩:Addr) #[.string ut,.int .i64 uu,.int .i64 uv,.bool uw] w3 λw4=>
 dwE w4 λw5=>
 ∃ux,w5.cell? ((⟨r7,0,none⟩:Addr).add 0)=some (.string ux)/\
 ∃nT,w5.cell? ((⟨r7,0,none⟩:Addr).add 1)=some (.int .i64 nT)/\
 ∃uy,w5.cell? ((⟨r7,0,none⟩:Addr).add 2)=some (.int .i64 uy)/\
 ∃uz,w5.cell? ((⟨r7,0,none⟩:Addr).add 3)=some (.bool uz)/\
 zQg p1 λa6=>
 ∃kO,w5.cell? a6=some (.int .i64 kO)/\
 zQg p5 λa7=>
 ∃nU:SV,w5.cell? (a7.add 1)=some (nU.v)/\
 ∃a8,nU.a=some a8/\0<=fg/\fg<(nU.len:Int)/\
 ∃uA,w5.cell? ((a8.add (fg.toNat * 3)).add 0)=some (.int .i64 uA)/\
 ∃nV,w5.cell? ((a8.add (fg.toNat * 3)).add 1)=some (.int .i64 nV)/\
 ∃uB,w5.cell? ((a8.add (fg.toNat * 3)).add 2)=some (.string uB)/\
 Calls prog 142 #[.agg #[.string ux,.int .i64 nT,.int .i64 uy,.bool uz],.int .i64 kO,.agg #[.int .i64 uA,.int .i64 nV,.string uB]] w5 λe w9=>
 ∃b52:Bool,e=.returned (.bool b52)/\
 Br (!b52) (
 zQb prog ds w9 λaN=>
 R (.returned (.int .i64 1)) aN) (
 J2 (IntKind.i64.wrap (fg+1)) w9)) (
 xX2 R J1 p1 gl qu cp ds w)
def xWe (R:Rt) (J1:(Int)->World->Prop) (p1 p5:Option Addr) (gl:SV) (qu cp:Int) (eW:SV) (sO fg:Int) (ds:Ds) (w:World):Prop:=
 zQE (λ(J2:(Int)->World->Prop) (s:Int) (w:World)=>xKe R J1 J2 p1 p5 gl qu cp eW sO s ds w) fg w
def xVM (R:Rt) (J1:(Int)->World->Prop) (p1:Option Addr) (gl:SV) (qu cp:Int) (ds:Ds) (w:World):Prop:=
 ∃dY,gl.a=some dY/\0<=cp/\cp<(gl.len:Int)/\
 ∃dG,w.cell? ((dY.add (cp.toNat * 2)).add 0)=some (.bool dG)/\
 ∃aZ:SV,w.cell? ((dY.add (cp.toNat * 2)).add 1)=some (aZ.v)/\
 alE (.cells #[.bool false,.slice none 0 0] 67) w λr5 aO=>
 stA prog 67 (⟨r5,0,none⟩:Addr) #[.bool dG,aZ.v] aO λaH=>
 ∃oZ:SV,aH.cell? ((⟨r5,0,none⟩:Addr).add 1)=some (oZ.v)/\
 zQg p1 λf7=>
 ∃iH:SV,aH.cell? (f7.add 1)=some (iH.v)/\
 Br ((oZ.len:Int) != (iH.len:Int)) (
 zQb prog ds aH λbp=>
 R (.returned (.int .i64 10)) bp) (
 zQg p1 λiG=>
 ∃eW:SV,aH.cell? (iG.add 1)=some (eW.v)/\
 xWe R J1 p1 (some (⟨r5,0,none⟩:Addr)) gl qu cp eW (eW.len:Int) 0 ds aH)
def xYd (R:Rt) (J1:(Int)->World->Prop) (p1:Option Addr) (gl:SV) (qu cp:Int) (ds:Ds) (w:World):Prop:=
 Br (decide (cp<qu)) (
 xVM R J1 p1 gl qu cp ds w) (
 xYa R ds w)
def xKX(R:Rt)(p1:Option Addr)(gl:SV)(qu cp:Int)(ds:Ds)(w:World):Prop:=
 zQE (λ(J1:(Int)->World->Prop) (s:Int) (w:World)=>xYd R J1 p1 gl qu s ds w) cp w
def xQ5(R:Rt)(ax:Int)(ah ai:SV)(ds:Ds)(w:World):Prop:=
 alE (.cells #[.int .i64 ax,ah.v,ai.v] 35) w λr1 bH=>
 ∃n9,bH.cell? (⟨r1,0,none⟩:Addr)=some (.int .i64 n9)/\
 Calls prog 116 #[.int .i64 n9] bH λe bO=>
 ∃dS:Bool,e=.returned (.bool dS)/\
 Br (!dS) (
 zQb prog ds bO λcL=>
 R (.returned (.int .i64 1)) cL) (
 ∃cD:SV,bO.cell? ((⟨r1,0,none⟩:Addr).add 1)=some (cD.v)/\
 Calls prog 141 #[cD.v] bO λe bU=>
 ∃kU:Int,e=.returned (.int .i64 kU)/\
 Br (kU != 0) (
 zQb prog ds bU λct=>
 R (.returned (.int .i64 kU)) ct) (
 ∃dg:SV,bU.cell? ((⟨r1,0,none⟩:Addr).add 2)=some (dg.v)/\
 Br (decide ((dg.len:Int) > 300)) (
 zQb prog ds bU λdX=>
 R (.returned (.int .i64 3)) dX) (
 ∃gl:SV,bU.cell? ((⟨r1,0,none⟩:Addr).add 2)=some (gl.v)/\
 xKX R (some (⟨r1,0,none⟩:Addr)) gl (gl.len:Int) 0 ds bU)))
theorem F106_p:Pl prog f106 [aS 0 [.int .i64,.slice,.slice]] xQ5:=λR=>
 pc 9 (rest [pS 1,lS 23,iS 24,iS 25] (xKX R) (bk 0 (rest [] (xYa R) lf) (lp [iS 25] [pS 1,lS 23,iS 24,iS 25] (xYd R) zXL λJ1=>pc 2 (rest [pS 1,lS 23,iS 24,iS 25] (xVM R J1) (bk 1 (rest [pS 1,lS 23,iS 24,iS 25] (xX2 R J1) lf) (pc 4 (rest [pS 1,pS 5,lS 23,iS 24,iS 25,lS 37,iS 38,iS 39] (xWe R J1) (bk 2 zXL (lp [iS 39] [pS 1,pS 5,lS 23,iS 24,iS 25,lS 37,iS 38,iS 39] (xKe R J1) zXL λJ2=>lf)))))))))
theorem yWW (ax:Int) (ah ai:SV) (w:World) (R:Rt) (h:xQ5 R ax ah ai [] w):Calls prog 106 #[.agg #[.int .i64 ax,ah.v,ai.v]] w R:=
 plC F106_p func106 h
def xKM(R:Rt)(aW:ByteArray)(aI aX:Int)(aY:Bool)(n1 cC dq:Int)(eu:ByteArray)(ds:Ds)(w:World):Prop:=
 alE (.cells #[.string aW,.int .i64 aI,.int .i64 aX,.bool aY] 129) w λr3 w1=>
 alE (.cells #[.int .i64 cC,.int .i64 dq,.string eu] 73) w1 λr5 w2=>
 ∃i6,w2.cell? (⟨r5,0,none⟩:Addr)=some (.int .i64 i6)/\
 Br (i6 == 0) (
 ∃kT,w2.cell? ((⟨r3,0,none⟩:Addr).add 3)=some (.bool kT)/\
 Br kT (
 ∃nW,w2.cell? ((⟨r5,0,none⟩:Addr).add 0)=some (.int .i64 nW)/\
 ∃gB,w2.cell? ((⟨r5,0,none⟩:Addr).add 1)=some (.int .i64 gB)/\
 ∃uC,w2.cell? ((⟨r5,0,none⟩:Addr).add 2)=some (.string uC)/\
 ∃sX:Bool,∃w3,(eqS .eql 73 (.tmp 15) (.tmp 16) (.agg #[.int .i64 nW,.int .i64 gB,.string uC]) (.agg #[.int .i64 0,.int .i64 0,.string (⟨#[]⟩:ByteArray)])).run prog w2=.ok (.bool sX) w3/\
 zQb prog ds w3 λw4=>
 R (.returned (.bool sX)) w4) (
 zQb prog ds w2 λw5=>
 R (.returned (.bool false)) w5)) (
 ∃dH,w2.cell? ((⟨r5,0,none⟩:Addr).add 0)=some (.int .i64 dH)/\
 ∃bT,w2.cell? ((⟨r5,0,none⟩:Addr).add 1)=some (.int .i64 bT)/\
 ∃jM,w2.cell? ((⟨r5,0,none⟩:Addr).add 2)=some (.string jM)/\
 Calls prog 117 #[.agg #[.int .i64 dH,.int .i64 bT,.string jM]] w2 λe w6=>
 ∃km:Int,e=.returned (.int .i64 km)/\
 Br (km != 0) (
 zQb prog ds w6 λw7=>
 R (.returned (.bool false)) w7) (
 ∃jN,w6.cell? ((⟨r3,0,none⟩:Addr).add 0)=some (.string jN)/\
 ∃ed,w6.cell? ((⟨r3,0,none⟩:Addr).add 1)=some (.int .i64 ed)/\
 ∃jO,w6.cell? ((⟨r3,0,none⟩:Addr).add 2)=some (.int .i64 jO)/\
 ∃jP,w6.cell? ((⟨r3,0,none⟩:Addr).add 3)=some (.bool jP)/\
 ∃pK,w6.cell? ((⟨r5,0,none⟩:Addr).add 0)=some (.int .i64 pK)/\
 ∃pL,w6.cell? ((⟨r5,0,none⟩:Addr).add 1)=some (.int .i64 pL)/\
 ∃uD,w6.cell? ((⟨r5,0,none⟩:Addr).add 2)=some (.string uD)/\
 Calls prog 83 #[.agg #[.string jN,.int .i64 ed,.int .i64 jO,.bool jP],.int .i64 n1,.agg #[.int .i64 pK,.int .i64 pL,.string uD]] w6 λe w8=>
 ∃pM:Int,∃pN:Int,∃pO:ByteArray,∃fq:Int,e=.returned (.tuple #[.agg #[.int .i64 pM,.int .i64 pN,.string pO],.int .i64 fq])/\
 alE (.cells #[.int .i64 0,.int .i64 0,.string (⟨#[]⟩:ByteArray)] 73) w8 λr7 w9=>
 stA prog 73 (⟨r7,0,none⟩:Addr) #[.int .i64 pM,.int .i64 pN,.string pO] w9 λaN=>
 Br (fq == 0) (
 ∃jQ,aN.cell? ((⟨r7,0,none⟩:Addr).add 0)=some (.int .i64 jQ)/\
 ∃nX,aN.cell? ((⟨r7,0,none⟩:Addr).add 1)=some (.int .i64 nX)/\
 ∃uE,aN.cell? ((⟨r7,0,none⟩:Addr).add 2)=some (.string uE)/\
 ∃nM,aN.cell? ((⟨r5,0,none⟩:Addr).add 0)=some (.int .i64 nM)/\
 ∃nN,aN.cell? ((⟨r5,0,none⟩:Addr).add 1)=some (.int .i64 nN)/\
 ∃nO,aN.cell? ((⟨r5,0,none⟩:Addr).add 2)=some (.string nO)/\
 ∃b34:Bool,∃aV,(eqS .eql 73 (.tmp 32) (.tmp 33) (.agg #[.int .i64 jQ,.int .i64 nX,.string uE]) (.agg #[.int .i64 nM,.int .i64 nN,.string nO])).run prog aN=.ok (.bool b34) aV/\
 zQb prog ds aV λaO=>
 R (.returned (.bool b34)) aO) (
 zQb prog ds aN λaH=>
 R (.returned (.bool false)) aH)))
theorem F142_p:Pl prog f142 [aS 0 [.str,.int .i64,.int .i64,.bool],iS 1,aS 2 [.int .i64,.int .i64,.str]] xKM:=λR=>
 lf
theorem yWz (aW:ByteArray) (aI aX:Int) (aY:Bool) (n1 cC dq:Int) (eu:ByteArray) (w:World) (R:Rt) (h:xKM R aW aI aX aY n1 cC dq eu [] w):Calls prog 142 #[.agg #[.string aW,.int .i64 aI,.int .i64 aX,.bool aY],.int .i64 n1,.agg #[.int .i64 cC,.int .i64 dq,.string eu]] w R:=
 plC F142_p func142 h
def F13_1(R:Rt)(ds:Ds)(w:World):Prop:=
 zQb prog ds w λw1=>
 R (.returned (.int .i64 0)) w1
def F13_2 (R:Rt) (J1:(Int)->World->Prop) (p1:Option Addr) (n4:Int) (ds:Ds) (w:World):Prop:=
 zQg p1 λa2=>
 ∃dw:SV,w.cell? (a2.add 2)=some (dw.v)/\
 Br (decide (n4<(dw.len:Int))) (
 dwE w λw3=>
 zQg p1 λa4=>
 ∃eD:SV,w3.cell? (a4.add 1)=some (eD.v)/\
 zQg p1 λa5=>
 ∃rp,w3.cell? a5=some (.int .i64 rp)/\
 zQg p1 λa6=>
 ∃ij:SV,w3.cell? (a6.add 2)=some (ij.v)/\
 ∃a7,ij.a=some a7/\0<=n4/\n4<(ij.len:Int)/\
 ∃uF,w3.cell? ((a7.add (n4.toNat * 2)).add 0)=some (.bool uF)/\
 ∃ft:SV,w3.cell? ((a7.add (n4.toNat * 2)).add 1)=some (ft.v)/\
 Calls prog 54 #[eD.v,.int .i64 rp,.agg #[.bool uF,ft.v]] w3 λe w8=>
 ∃iU:Int,e=.returned (.int .i64 iU)/\
 Br (iU != 0) (
 zQb prog ds w8 λw9=>
 R (.returned (.int .i64 iU)) w9) (
 J1 (IntKind.i64.wrap (n4+1)) w8)) (
 F13_1 R ds w)
def F13_3(R:Rt)(p1:Option Addr)(n4:Int)(ds:Ds)(w:World):Prop:=
 zQE (λ(J1:(Int)->World->Prop) (s:Int) (w:World)=>F13_2 R J1 p1 s ds w) n4 w
def F13_5(R:Rt)(ax:Int)(ah ai:SV)(ds:Ds)(w:World):Prop:=
 alE (.cells #[.int .i64 ax,ah.v,ai.v] 35) w λr1 aN=>
 ∃n7,aN.cell? (⟨r1,0,none⟩:Addr)=some (.int .i64 n7)/\
 Calls prog 52 #[.int .i64 n7] aN λe aV=>
 ∃b8:Bool,e=.returned (.bool b8)/\
 Br (!b8) (
 zQb prog ds aV λaO=>
 R (.returned (.int .i64 1)) aO) (
 ∃cw:SV,aV.cell? ((⟨r1,0,none⟩:Addr).add 1)=some (cw.v)/\
 Calls prog 53 #[cw.v] aV λe aH=>
 ∃dz:Int,e=.returned (.int .i64 dz)/\
 Br (dz != 0) (
 zQb prog ds aH λbq=>
 R (.returned (.int .i64 dz)) bq) (
 ∃dI:SV,aH.cell? ((⟨r1,0,none⟩:Addr).add 2)=some (dI.v)/\
 Br (decide ((dI.len:Int) > 300)) (
 zQb prog ds aH λbp=>
 R (.returned (.int .i64 3)) bp) (
 F13_3 R (some (⟨r1,0,none⟩:Addr)) 0 ds aH)))
theorem F13_p:Pl prog f13 [aS 0 [.int .i64,.slice,.slice]] F13_5:=λR=>
 pc 9 (rest [pS 1,iS 4] (F13_3 R) (bk 0 (rest [] (F13_1 R) lf) (lp [iS 4] [pS 1,iS 4] (F13_2 R) zXL λJ1=>lf)))
theorem xXb (ax:Int) (ah ai:SV) (w:World) (R:Rt) (h:F13_5 R ax ah ai [] w):Calls prog 13 #[.agg #[.int .i64 ax,ah.v,ai.v]] w R:=
 plC F13_p func13 h
def F54_1(R:Rt)(ds:Ds)(w:World):Prop:=
 zQb prog ds w λw1=>
 R (.returned (.int .i64 0)) w1
def F54_2 (R:Rt) (J1:(Int)->World->Prop) (l0:SV) (n1:Int) (p5:Option Addr) (n7:Int) (ds:Ds) (w:World):Prop:=
 Br (decide (n7<(l0.len:Int))) (
 dwE w λw2=>
 ∃a3,l0.a=some a3/\0<=n7/\n7<(l0.len:Int)/\
 ∃jN,w2.cell? ((a3.add (n7.toNat * 4)).add 0)=some (.string jN)/\
 ∃ed,w2.cell? ((a3.add (n7.toNat * 4)).add 1)=some (.int .i64 ed)/\
 ∃jO,w2.cell? ((a3.add (n7.toNat * 4)).add 2)=some (.int .i64 jO)/\
 ∃jP,w2.cell? ((a3.add (n7.toNat * 4)).add 3)=some (.bool jP)/\
 zQg p5 λa4=>
 ∃dU:SV,w2.cell? (a4.add 1)=some (dU.v)/\
 ∃a5,dU.a=some a5/\0<=n7/\n7<(dU.len:Int)/\
 ∃cQ,w2.cell? ((a5.add (n7.toNat * 3)).add 0)=some (.int .i64 cQ)/\
 ∃jR,w2.cell? ((a5.add (n7.toNat * 3)).add 1)=some (.int .i64 jR)/\
 ∃uG,w2.cell? ((a5.add (n7.toNat * 3)).add 2)=some (.string uG)/\
 Calls prog 93 #[.agg #[.string jN,.int .i64 ed,.int .i64 jO,.bool jP],.int .i64 n1,.agg #[.int .i64 cQ,.int .i64 jR,.string uG]] w2 λe w6=>
 ∃tX:Bool,e=.returned (.bool tX)/\
 Br (!tX) (
 zQb prog ds w6 λw7=>
 R (.returned (.int .i64 1)) w7) (
 J1 (IntKind.i64.wrap (n7+1)) w6)) (
 F54_1 R ds w)
def F54_3(R:Rt)(l0:SV)(n1:Int)(p5:Option Addr)(n7:Int)(ds:Ds)(w:World):Prop:=
 zQE (λ(J1:(Int)->World->Prop) (s:Int) (w:World)=>F54_2 R J1 l0 n1 p5 s ds w) n7 w
def F54_5(R:Rt)(l0:SV)(n1:Int)(ga:Bool)(bJ:SV)(ds:Ds)(w:World):Prop:=
 alE (.cells #[.bool ga,bJ.v] 67) w λr5 w8=>
 ∃l9:SV,w8.cell? ((⟨r5,0,none⟩:Addr).add 1)=some (l9.v)/\
 Br ((l9.len:Int) != (l0.len:Int)) (
 zQb prog ds w8 λw9=>
 R (.returned (.int .i64 10)) w9) (
 F54_3 R l0 n1 (some (⟨r5,0,none⟩:Addr)) 0 ds w8)
theorem F54_p:Pl prog f54 [lS 0,iS 1,aS 2 [.bool,.slice]] F54_5:=λR=>
 pc 4 (rest [lS 0,iS 1,pS 5,iS 7] (F54_3 R) (bk 0 (rest [] (F54_1 R) lf) (lp [iS 7] [lS 0,iS 1,pS 5,iS 7] (F54_2 R) zXL λJ1=>lf)))
theorem xQv (l0:SV) (n1:Int) (ga:Bool) (bJ:SV) (w:World) (R:Rt) (h:F54_5 R l0 n1 ga bJ [] w):Calls prog 54 #[l0.v,.int .i64 n1,.agg #[.bool ga,bJ.v]] w R:=
 plC F54_p func54 h
end Go.Proofs.YtaeecpjhfmcliaaGreatDoor
/- Shallow texts of functions, printed by program, each checked by the kernel against the loaded code. No condition. -/
namespace Go.Proofs.YtaeecpjhfmcliaaGreatDoor
open Go.Sh Tryz
def xKu(R:Rt)(ax:Int)(ah ai:SV)(ds:Ds)(w:World):Prop:=
 alE (.cells #[.int .i64 ax,ah.v,ai.v] 35) w λr1 w1=>
 ∃iK,w1.cell? ((⟨r1,0,none⟩:Addr).add 0)=some (.int .i64 iK)/\
 ∃dA:SV,w1.cell? ((⟨r1,0,none⟩:Addr).add 1)=some (dA.v)/\
 ∃cE:SV,w1.cell? ((⟨r1,0,none⟩:Addr).add 2)=some (cE.v)/\
 Calls prog 106 #[.agg #[.int .i64 iK,dA.v,cE.v]] w1 λe w2=>
 ∃n6:Int,e=.returned (.int .i64 n6)/\
 Br (n6 != 0) (
 zQb prog ds w2 λw3=>
 R (.returned (.tuple #[.slice none 0 0,.int .i64 n6])) w3) (
 ∃eX,w2.cell? ((⟨r1,0,none⟩:Addr).add 0)=some (.int .i64 eX)/\
 ∃bv:SV,w2.cell? ((⟨r1,0,none⟩:Addr).add 1)=some (bv.v)/\
 ∃bw:SV,w2.cell? ((⟨r1,0,none⟩:Addr).add 2)=some (bw.v)/\
 Calls prog 157 #[.agg #[.int .i64 eX,bv.v,bw.v]] w2 λe w4=>
 ∃cw:SV,e=.returned (cw.v)/\
 zQb prog ds w4 λw5=>
 R (.returned (.tuple #[cw.v,.int .i64 0])) w5)
theorem F165_p:Pl prog f165 [aS 0 [.int .i64,.slice,.slice]] xKu:=λR=>
 lf
theorem yVV (ax:Int) (ah ai:SV) (w:World) (R:Rt) (h:xKu R ax ah ai [] w):Calls prog 165 #[.agg #[.int .i64 ax,ah.v,ai.v]] w R:=
 plC F165_p func165 h
def xKK(R:Rt)(l3:SV)(ds:Ds)(w:World):Prop:=
 alE (.cells #[.int .u8 13] 5) w λr65 w1=>
 ∃yf:SV,∃w2,(Builtin.append_ #[22,22] 22 #[l3.v,.slice (some ⟨r65,0,none⟩) 1 1]).run prog w1=.ok (yf.v) w2/\
 zQb prog ds w2 λw3=>
 R (.returned (yf.v)) w3
def xK5 (R:Rt) (J1:(SV × Int)->World->Prop) (l3 eW:SV) (sO fg:Int) (ds:Ds) (w:World):Prop:=
 Br (decide (fg<sO)) (
 ∃a4,eW.a=some a4/\0<=fg/\fg<(eW.len:Int)/\
 ∃uH,w.cell? ((a4.add (fg.toNat * 4)).add 0)=some (.string uH)/\
 ∃uI,w.cell? ((a4.add (fg.toNat * 4)).add 1)=some (.int .i64 uI)/\
 ∃uJ,w.cell? ((a4.add (fg.toNat * 4)).add 2)=some (.int .i64 uJ)/\
 ∃uK,w.cell? ((a4.add (fg.toNat * 4)).add 3)=some (.bool uK)/\
 alE (.cells #[.string (⟨#[]⟩:ByteArray),.int .i64 0,.int .i64 0,.bool false] 129) w λr5 w5=>
 stA prog 129 (⟨r5,0,none⟩:Addr) #[.string uH,.int .i64 uI,.int .i64 uJ,.bool uK] w5 λw6=>
 alE (.cells #[.int .u8 0,.int .u8 0,.int .u8 0,.int .u8 0,.int .u8 0,.int .u8 0,.int .u8 0,.int .u8 0,.int .u8 0,.int .u8 0,.int .u8 0,.int .u8 0,.int .u8 0,.int .u8 0,.int .u8 0,.int .u8 0] 227) w6 λr6 w7=>
 dwE w7 λw8=>
 ∃S1:World->Prop,S1 w8/\
 ∃s45,(∀w',S1 w'->w'.cell? (⟨r5,0,none⟩:Addr)=some (.string s45))/\
 ∃nH:SV,∃w9,(Instr.sliceAt 227 (.pointer (some (⟨r6,0,none⟩:Addr))) none (some (.int .i64 10)) (some (.int .i64 10))).run prog w8=.ok (nH.v) w9/\
 S1 w9/\
 ∃kO:Int,∃aN,(Builtin.copy_ #[22,9] 3 #[nH.v,.string s45]).run prog w9=.ok (.int .i64 kO) aN/\
 dwE aN λaV=>
 ∃S2:World->Prop,S2 aV/\
 ∃qK,(∀w',S2 w'->w'.cell? ((⟨r5,0,none⟩:Addr).add 1)=some (.int .i64 qK))/\
 ∃kx,(∀w',S2 w'->w'.cell? ((⟨r5,0,none⟩:Addr).add 2)=some (.int .i64 kx))/\
 Calls prog 145 #[] aV λe aO=>
 ∃m47:Option Nat,e=.returned (.map m47)/\
 ∃S3:World->Prop,S3 aO/\(∀u,S3 u->S2 u)/\
 ∃ls:Int,∃y8:Int,∃za:Int,∃ze:Value,∃zg:Value,(∀w',S3 w'->(Instr.lookup 176 (.map m47) (.int .i64 qK) false).run prog w'=.ok (.agg #[.int .u8 ls,.int .i64 y8,.int .i64 za,ze,zg]) w')/\
 0<=(10:Int)/\(10:Int)<(16:Int)/\
 st1 ((⟨r6,0,none⟩:Addr).add ((10:Int).toNat * 1)) (.int .u8 ls) aO λaH=>
 ∃S4:World->Prop,S4 aH/\(∀u,S4 u->S3 u)/\
 0<=(11:Int)/\(11:Int)<(16:Int)/\
 st1 ((⟨r6,0,none⟩:Addr).add ((11:Int).toNat * 1)) (.int .u8 (IntKind.u8.wrap kx)) aH λbq=>
 ∃b58,bq.cell? ((⟨r5,0,none⟩:Addr).add 3)=some (.bool b58)/\
 Br b58 (
 0<=(12:Int)/\(12:Int)<(16:Int)/\
 st1 ((⟨r6,0,none⟩:Addr).add ((12:Int).toNat * 1)) (.int .u8 1) bq λbp=>
 16<=16/\0<=16/\
 ∃jS:SV,∃bG,(Builtin.append_ #[22,22] 22 #[l3.v,.slice (some (if 16=0 then(⟨r6,0,none⟩:Addr)else(⟨r6,0,none⟩:Addr).add (0 * 1))) (16 - 0) (16 - 0)]).run prog bp=.ok (jS.v) bG/\
 J1 (jS,(IntKind.i64.wrap (fg+1))) bG) (
 16<=16/\0<=16/\
 ∃jS:SV,∃bH,(Builtin.append_ #[22,22] 22 #[l3.v,.slice (some (if 16=0 then(⟨r6,0,none⟩:Addr)else(⟨r6,0,none⟩:Addr).add (0 * 1))) (16 - 0) (16 - 0)]).run prog bq=.ok (jS.v) bH/\
 J1 (jS,(IntKind.i64.wrap (fg+1))) bH)) (
 xKK R l3 ds w)
def yZa(R:Rt)(l3 eW:SV)(sO fg:Int)(ds:Ds)(w:World):Prop:=
 zQE (λ(J1:(SV × Int)->World->Prop) (s:SV × Int) (w:World)=>xK5 R J1 s.1 eW sO s.2 ds w) (l3,fg) w
def xWP(R:Rt)(ax:Int)(ah ai:SV)(ds:Ds)(w:World):Prop:=
 alE (.cells #[.int .i64 ax,ah.v,ai.v] 35) w λr1 bO=>
 dwE bO λcL=>
 ∃S5:World->Prop,S5 cL/\
 ∃n8,(∀w',S5 w'->w'.cell? (⟨r1,0,none⟩:Addr)=some (.int .i64 n8))/\
 ∃ik:SV,(∀w',S5 w'->w'.cell? ((⟨r1,0,none⟩:Addr).add 2)=some (ik.v))/\
 (
 alE (.cells #[.int .u8 67,.int .u8 (IntKind.u8.wrap n8)] 5) cL λdJ bU=>
 S5 bU/\
 Calls prog 202 #[.int .i64 (ik.len:Int),.int .i64 4] bU λe ct=>
 ∃bR:SV,e=.returned (bR.v)/\
 S5 ct/\
 ∃fh:SV,∃dX,(Builtin.append_ #[22,22] 22 #[.slice (some ⟨dJ,0,none⟩) 2 2,bR.v]).run prog ct=.ok (fh.v) dX/\
 ∃dv:SV,dX.cell? ((⟨r1,0,none⟩:Addr).add 1)=some (dv.v)/\
 Calls prog 159 #[.int .i64 (dv.len:Int)] dX λe dV=>
 ∃km:Int,e=.returned (.int .i64 km)/\
 Calls prog 202 #[.int .i64 km,.int .i64 2] dV λe dy=>
 ∃cK:SV,e=.returned (cK.v)/\
 ∃dw:SV,∃gj,(Builtin.append_ #[22,22] 22 #[fh.v,cK.v]).run prog dy=.ok (dw.v) gj/\
 ∃eg:SV,gj.cell? ((⟨r1,0,none⟩:Addr).add 1)=some (eg.v)/\
 Calls prog 161 #[eg.v] gj λe fe=>
 ∃cu:Int,e=.returned (.int .i64 cu)/\
 Calls prog 202 #[.int .i64 cu,.int .i64 2] fe λe gQ=>
 ∃bV:SV,e=.returned (bV.v)/\
 ∃eD:SV,∃dW,(Builtin.append_ #[22,22] 22 #[dw.v,bV.v]).run prog gQ=.ok (eD.v) dW/\
 ∃kf:SV,dW.cell? ((⟨r1,0,none⟩:Addr).add 1)=some (kf.v)/\
 alE (.cells #[.int .u8 (IntKind.u8.wrap (kf.len:Int)),.int .u8 0] 5) dW λzh fo=>
 ∃iv:SV,∃iu,(Builtin.append_ #[22,22] 22 #[eD.v,.slice (some ⟨zh,0,none⟩) 2 2]).run prog fo=.ok (iv.v) iu/\
 ∃eW:SV,iu.cell? ((⟨r1,0,none⟩:Addr).add 1)=some (eW.v)/\
 yZa R iv eW (eW.len:Int) 0 ds iu)/\(
 Calls prog 202 #[.int .i64 (ik.len:Int),.int .i64 4] cL λe gn=>
 ∃bR:SV,e=.returned (bR.v)/\
 S5 gn/\
 alE (.cells #[.int .u8 67,.int .u8 (IntKind.u8.wrap n8)] 5) gn λdJ gk=>
 S5 gk/\
 ∃fh:SV,∃fW,(Builtin.append_ #[22,22] 22 #[.slice (some ⟨dJ,0,none⟩) 2 2,bR.v]).run prog gk=.ok (fh.v) fW/\
 ∃dv:SV,fW.cell? ((⟨r1,0,none⟩:Addr).add 1)=some (dv.v)/\
 Calls prog 159 #[.int .i64 (dv.len:Int)] fW λe fX=>
 ∃km:Int,e=.returned (.int .i64 km)/\
 Calls prog 202 #[.int .i64 km,.int .i64 2] fX λe i5=>
 ∃cK:SV,e=.returned (cK.v)/\
 ∃dw:SV,∃ro,(Builtin.append_ #[22,22] 22 #[fh.v,cK.v]).run prog i5=.ok (dw.v) ro/\
 ∃eg:SV,ro.cell? ((⟨r1,0,none⟩:Addr).add 1)=some (eg.v)/\
 Calls prog 161 #[eg.v] ro λe j4=>
 ∃cu:Int,e=.returned (.int .i64 cu)/\
 Calls prog 202 #[.int .i64 cu,.int .i64 2] j4 λe nG=>
 ∃bV:SV,e=.returned (bV.v)/\
 ∃eD:SV,∃kw,(Builtin.append_ #[22,22] 22 #[dw.v,bV.v]).run prog nG=.ok (eD.v) kw/\
 ∃kf:SV,kw.cell? ((⟨r1,0,none⟩:Addr).add 1)=some (kf.v)/\
 alE (.cells #[.int .u8 (IntKind.u8.wrap (kf.len:Int)),.int .u8 0] 5) kw λzh rq=>
 ∃iv:SV,∃nn,(Builtin.append_ #[22,22] 22 #[eD.v,.slice (some ⟨zh,0,none⟩) 2 2]).run prog rq=.ok (iv.v) nn/\
 ∃eW:SV,nn.cell? ((⟨r1,0,none⟩:Addr).add 1)=some (eW.v)/\
 yZa R iv eW (eW.len:Int) 0 ds nn)
theorem F157_p:Pl prog f157 [aS 0 [.int .i64,.slice,.slice]] xWP:=λR=>
 pc 6 (rest [lS 3,lS 37,iS 38,iS 39] (yZa R) (bk 0 (rest [lS 3] (xKK R) lf) (lp [lS 3,iS 39] [lS 3,lS 37,iS 38,iS 39] (xK5 R) zXL λJ1=>lf)))
theorem yWJ (ax:Int) (ah ai:SV) (w:World) (R:Rt) (h:xWP R ax ah ai [] w):Calls prog 157 #[.agg #[.int .i64 ax,ah.v,ai.v]] w R:=
 plC F157_p func157 h
def xWi(R:Rt)(l5:SV)(ds:Ds)(w:World):Prop:=
 zQb prog ds w λw1=>
 R (.returned (l5.v)) w1
def xKt (R:Rt) (J1:(Int × SV × Int)->World->Prop) (n0:Int) (l5:SV) (n6 n7:Int) (ds:Ds) (w:World):Prop:=
 Br (decide (n7<n6)) (
 alE (.cells #[.int .u8 (IntKind.u8.wrap n0)] 5) w λnF w2=>
 ∃cD:SV,∃w3,(Builtin.append_ #[22,22] 22 #[l5.v,.slice (some ⟨nF,0,none⟩) 1 1]).run prog w2=.ok (cD.v) w3/\
 0<=(8:Int)/\
 J1 ((n0.fdiv (2 ^ 8)),cD,(IntKind.i64.wrap (n7+1))) w3) (
 xWi R l5 ds w)
def xVn(R:Rt)(n0:Int)(l5:SV)(n6 n7:Int)(ds:Ds)(w:World):Prop:=
 zQE (λ(J1:(Int × SV × Int)->World->Prop) (s:Int × SV × Int) (w:World)=>xKt R J1 s.1 s.2.1 n6 s.2.2 ds w) (n0,l5,n7) w
def xW7(R:Rt)(n0 n1:Int)(ds:Ds)(w:World):Prop:=
 xVn R n0 ⟨none,0,0⟩ n1 0 ds w
theorem F202_p:Pl prog f202 [iS 0,iS 1] xW7:=λR=>
 pc 3 (rest [iS 0,lS 5,iS 6,iS 7] (xVn R) (bk 0 (rest [lS 5] (xWi R) lf) (lp [iS 0,lS 5,iS 7] [iS 0,lS 5,iS 6,iS 7] (xKt R) zXL λJ1=>lf)))
theorem yV7 (n0 n1:Int) (w:World) (R:Rt) (h:xW7 R n0 n1 [] w):Calls prog 202 #[.int .i64 n0,.int .i64 n1] w R:=
 plC F202_p func202 h
def xWE(R:Rt)(n0:Int)(ds:Ds)(w:World):Prop:=
 zQb prog ds w λw1=>
 R (.returned (.int .i64 (IntKind.i64.wrap ((13:Int)+(IntKind.i64.wrap ((16:Int) * n0)))))) w1
theorem F159_p:Pl prog f159 [iS 0] xWE:=λR=>
 lf
theorem yWI (n0:Int) (w:World) (R:Rt) (h:xWE R n0 [] w):Calls prog 159 #[.int .i64 n0] w R:=
 plC F159_p func159 h
end Go.Proofs.YtaeecpjhfmcliaaGreatDoor
/- Shallow texts of functions, printed by program, each checked by the kernel against the loaded code. No condition. -/
namespace Go.Proofs.YtaeecpjhfmcliaaGreatDoor
open Go.Sh Tryz
def xKF(R:Rt)(ax:Int)(ah ai:SV)(n1:Int)(ds:Ds)(w:World):Prop:=
 alE (.cells #[.int .i64 ax,ah.v,ai.v] 35) w λr2 w1=>
 ∃dF,w1.cell? ((⟨r2,0,none⟩:Addr).add 0)=some (.int .i64 dF)/\
 ∃bW:SV,w1.cell? ((⟨r2,0,none⟩:Addr).add 1)=some (bW.v)/\
 ∃bF:SV,w1.cell? ((⟨r2,0,none⟩:Addr).add 2)=some (bF.v)/\
 Calls prog 106 #[.agg #[.int .i64 dF,bW.v,bF.v]] w1 λe w2=>
 ∃n8:Int,e=.returned (.int .i64 n8)/\
 Br (n8 != 0) (
 zQb prog ds w2 λw3=>
 R (.returned (.tuple #[.slice none 0 0,.int .i64 n8])) w3) (
 Br (decide (n1<1)) (
 zQb prog ds w2 λw4=>
 R (.returned (.tuple #[.slice none 0 0,.int .i64 4])) w4) (
 ∃dI:SV,w2.cell? ((⟨r2,0,none⟩:Addr).add 2)=some (dI.v)/\
 Br (decide (n1 > (dI.len:Int))) (
 zQb prog ds w2 λw5=>
 R (.returned (.tuple #[.slice none 0 0,.int .i64 4])) w5) (
 dwE w2 λw6=>
 ∃dw:SV,w6.cell? ((⟨r2,0,none⟩:Addr).add 1)=some (dw.v)/\
 ∃bX:SV,w6.cell? ((⟨r2,0,none⟩:Addr).add 2)=some (bX.v)/\
 ∃a7,bX.a=some a7/\0<=(IntKind.i64.wrap (n1 - 1))/\(IntKind.i64.wrap (n1 - 1))<(bX.len:Int)/\
 ∃dG,w6.cell? ((a7.add ((IntKind.i64.wrap (n1 - 1)).toNat * 2)).add 0)=some (.bool dG)/\
 ∃aZ:SV,w6.cell? ((a7.add ((IntKind.i64.wrap (n1 - 1)).toNat * 2)).add 1)=some (aZ.v)/\
 Calls prog 158 #[dw.v,.agg #[.bool dG,aZ.v]] w6 λe w8=>
 ∃iV:SV,e=.returned (iV.v)/\
 zQb prog ds w8 λw9=>
 R (.returned (.tuple #[iV.v,.int .i64 0])) w9)))
theorem F144_p:Pl prog f144 [aS 0 [.int .i64,.slice,.slice],iS 1] xKF:=λR=>
 lf
theorem yWq (ax:Int) (ah ai:SV) (n1:Int) (w:World) (R:Rt) (h:xKF R ax ah ai n1 [] w):Calls prog 144 #[.agg #[.int .i64 ax,ah.v,ai.v],.int .i64 n1] w R:=
 plC F144_p func144 h
def xK1(R:Rt)(l5 l6:SV)(p7:Option Addr)(ds:Ds)(w:World):Prop:=
 ∃pa:SV,∃w1,(Builtin.append_ #[22,22] 22 #[l5.v,l6.v]).run prog w=.ok (pa.v) w1/\
 Calls prog 201 #[.pointer p7] w1 λe w2=>
 ∃s69:ByteArray,e=.returned (.string s69)/\
 ∃np:SV,∃w3,(Builtin.append_ #[22,9] 22 #[pa.v,.string s69]).run prog w2=.ok (np.v) w3/\
 zQb prog ds w3 λw4=>
 R (.returned (np.v)) w4
def xVJ (R:Rt) (J1:(Int × Int)->World->Prop) (p3:Option Addr) (l5 l6:SV) (p7:Option Addr) (n8:Int) (dZ:SV) (kQ df:Int) (ds:Ds) (w:World):Prop:=
 Br (decide (df<kQ)) (
 ∃a5,dZ.a=some a5/\0<=df/\df<(dZ.len:Int)/\
 ∃uL,w.cell? ((a5.add (df.toNat * 4)).add 0)=some (.string uL)/\
 ∃fq,w.cell? ((a5.add (df.toNat * 4)).add 1)=some (.int .i64 fq)/\
 ∃uM,w.cell? ((a5.add (df.toNat * 4)).add 2)=some (.int .i64 uM)/\
 ∃uN,w.cell? ((a5.add (df.toNat * 4)).add 3)=some (.bool uN)/\
 alE (.cells #[.string (⟨#[]⟩:ByteArray),.int .i64 0,.int .i64 0,.bool false] 129) w λdJ w6=>
 stA prog 129 (⟨dJ,0,none⟩:Addr) #[.string uL,.int .i64 fq,.int .i64 uM,.bool uN] w6 λw7=>
 zQg p3 λa8=>
 ∃eD:SV,w7.cell? (a8.add 1)=some (eD.v)/\
 ∃a9,eD.a=some a9/\0<=df/\df<(eD.len:Int)/\
 ∃bK,w7.cell? ((a9.add (df.toNat * 3)).add 0)=some (.int .i64 bK)/\
 ∃gC,w7.cell? ((a9.add (df.toNat * 3)).add 1)=some (.int .i64 gC)/\
 ∃nY,w7.cell? ((a9.add (df.toNat * 3)).add 2)=some (.string nY)/\
 alE (.cells #[.int .i64 0,.int .i64 0,.string (⟨#[]⟩:ByteArray)] 73) w7 λcq aN=>
 stA prog 73 (⟨cq,0,none⟩:Addr) #[.int .i64 bK,.int .i64 gC,.string nY] aN λaV=>
 ∃zi,aV.cell? ((⟨dJ,0,none⟩:Addr).add 3)=some (.bool zi)/\
 Br zi (
 ∃tS,aV.cell? (⟨cq,0,none⟩:Addr)=some (.int .i64 tS)/\
 Br (tS == 0) (
 dwE aV λaO=>
 IntKind.i64=IntKind.i64/\(8:Int) ≠ 0/\
 ∃lq,l6.a=some lq/\0<=(IntKind.i64.wrap (n8.tdiv 8))/\(IntKind.i64.wrap (n8.tdiv 8))<(l6.len:Int)/\
 ∃nK,aO.cell? (lq.add ((IntKind.i64.wrap (n8.tdiv 8)).toNat * 1))=some (.int .u8 nK)/\
 IntKind.i64=IntKind.i64/\(8:Int) ≠ 0/\
 0<=(n8.tmod 8)/\
 ∃f7,l6.a=some f7/\0<=(IntKind.i64.wrap (n8.tdiv 8))/\(IntKind.i64.wrap (n8.tdiv 8))<(l6.len:Int)/\
 st1 (f7.add ((IntKind.i64.wrap (n8.tdiv 8)).toNat * 1)) (.int .u8 (IntKind.u8.wrap ((BitVec.ofInt 8 nK ||| BitVec.ofInt 8 (IntKind.u8.wrap ((1:Int) * 2 ^ (min (n8.tmod 8).toNat 8)))).toNat:Nat))) aO λbp=>
 ∃iW,bp.cell? (⟨cq,0,none⟩:Addr)=some (.int .i64 iW)/\
 Br (iW == 0) (
 ∃kx,bp.cell? ((⟨dJ,0,none⟩:Addr).add 2)=some (.int .i64 kx)/\
 Calls prog 155 #[.string (⟨#[32]⟩:ByteArray),.int .i64 kx] bp λe bG=>
 ∃pD:ByteArray,e=.returned (.string pD)/\
 Calls prog 199 #[.pointer p7,.string pD] bG λe bH=>
 ∃iw:Int,∃ky:Value,e=.returned (.tuple #[.int .i64 iw,ky])/\
 J1 ((IntKind.i64.wrap (n8+1)),(IntKind.i64.wrap (df+1))) bH) (
 dwE bp λbO=>
 ∃S2:World->Prop,S2 bO/\
 ∃rt,(∀w',S2 w'->w'.cell? ((⟨dJ,0,none⟩:Addr).add 1)=some (.int .i64 rt))/\
 ∃gD,(∀w',S2 w'->w'.cell? ((⟨dJ,0,none⟩:Addr).add 0)=some (.string gD))/\
 ∃gE,(∀w',S2 w'->w'.cell? ((⟨dJ,0,none⟩:Addr).add 1)=some (.int .i64 gE))/\
 ∃gF,(∀w',S2 w'->w'.cell? ((⟨dJ,0,none⟩:Addr).add 2)=some (.int .i64 gF))/\
 ∃gG,(∀w',S2 w'->w'.cell? ((⟨dJ,0,none⟩:Addr).add 3)=some (.bool gG))/\
 ∃dK,(∀w',S2 w'->w'.cell? ((⟨cq,0,none⟩:Addr).add 0)=some (.int .i64 dK))/\
 ∃gH,(∀w',S2 w'->w'.cell? ((⟨cq,0,none⟩:Addr).add 1)=some (.int .i64 gH))/\
 ∃gI,(∀w',S2 w'->w'.cell? ((⟨cq,0,none⟩:Addr).add 2)=some (.string gI))/\
 Calls prog 145 #[] bO λe cL=>
 ∃rv:Option Nat,e=.returned (.map rv)/\
 ∃S3:World->Prop,S3 cL/\(∀u,S3 u->S2 u)/\
 ∃iy:Int,∃iz:Int,∃iA:Int,∃gJ:Value,∃kz:Value,(∀w',S3 w'->(Instr.lookup 176 (.map rv) (.int .i64 rt) false).run prog w'=.ok (.agg #[.int .u8 iy,.int .i64 iz,.int .i64 iA,gJ,kz]) w')/\
 fnE gJ λf63 first63 kA=>
 zQ6 prog f63=true/\Calls prog f63 (first63.toList ++ (([.agg #[.string gD,.int .i64 gE,.int .i64 gF,.bool gG],.agg #[.int .i64 dK,.int .i64 gH,.string gI]]:List Value) ++ kA.toList)).toArray cL λe bU=>
 ∃rx:ByteArray,e=.returned (.string rx)/\
 Calls prog 199 #[.pointer p7,.string rx] bU λe ct=>
 ∃kB:Int,∃kC:Value,e=.returned (.tuple #[.int .i64 kB,kC])/\
 J1 ((IntKind.i64.wrap (n8+1)),(IntKind.i64.wrap (df+1))) ct)) (
 ∃iW,aV.cell? (⟨cq,0,none⟩:Addr)=some (.int .i64 iW)/\
 Br (iW == 0) (
 ∃kx,aV.cell? ((⟨dJ,0,none⟩:Addr).add 2)=some (.int .i64 kx)/\
 Calls prog 155 #[.string (⟨#[32]⟩:ByteArray),.int .i64 kx] aV λe dX=>
 ∃pD:ByteArray,e=.returned (.string pD)/\
 Calls prog 199 #[.pointer p7,.string pD] dX λe dV=>
 ∃iw:Int,∃ky:Value,e=.returned (.tuple #[.int .i64 iw,ky])/\
 J1 ((IntKind.i64.wrap (n8+1)),(IntKind.i64.wrap (df+1))) dV) (
 dwE aV λdy=>
 ∃S4:World->Prop,S4 dy/\
 ∃rt,(∀w',S4 w'->w'.cell? ((⟨dJ,0,none⟩:Addr).add 1)=some (.int .i64 rt))/\
 ∃gD,(∀w',S4 w'->w'.cell? ((⟨dJ,0,none⟩:Addr).add 0)=some (.string gD))/\
 ∃gE,(∀w',S4 w'->w'.cell? ((⟨dJ,0,none⟩:Addr).add 1)=some (.int .i64 gE))/\
 ∃gF,(∀w',S4 w'->w'.cell? ((⟨dJ,0,none⟩:Addr).add 2)=some (.int .i64 gF))/\
 ∃gG,(∀w',S4 w'->w'.cell? ((⟨dJ,0,none⟩:Addr).add 3)=some (.bool gG))/\
 ∃dK,(∀w',S4 w'->w'.cell? ((⟨cq,0,none⟩:Addr).add 0)=some (.int .i64 dK))/\
 ∃gH,(∀w',S4 w'->w'.cell? ((⟨cq,0,none⟩:Addr).add 1)=some (.int .i64 gH))/\
 ∃gI,(∀w',S4 w'->w'.cell? ((⟨cq,0,none⟩:Addr).add 2)=some (.string gI))/\
 Calls prog 145 #[] dy λe gj=>
 ∃rv:Option Nat,e=.returned (.map rv)/\
 ∃S5:World->Prop,S5 gj/\(∀u,S5 u->S4 u)/\
 ∃iy:Int,∃iz:Int,∃iA:Int,∃gJ:Value,∃kz:Value,(∀w',S5 w'->(Instr.lookup 176 (.map rv) (.int .i64 rt) false).run prog w'=.ok (.agg #[.int .u8 iy,.int .i64 iz,.int .i64 iA,gJ,kz]) w')/\
 fnE gJ λf63 first63 kA=>
 zQ6 prog f63=true/\Calls prog f63 (first63.toList ++ (([.agg #[.string gD,.int .i64 gE,.int .i64 gF,.bool gG],.agg #[.int .i64 dK,.int .i64 gH,.string gI]]:List Value) ++ kA.toList)).toArray gj λe fe=>
 ∃rx:ByteArray,e=.returned (.string rx)/\
 Calls prog 199 #[.pointer p7,.string rx] fe λe gQ=>
 ∃kB:Int,∃kC:Value,e=.returned (.tuple #[.int .i64 kB,kC])/\
 J1 ((IntKind.i64.wrap (n8+1)),(IntKind.i64.wrap (df+1))) gQ))) (
 ∃iW,aV.cell? (⟨cq,0,none⟩:Addr)=some (.int .i64 iW)/\
 Br (iW == 0) (
 ∃kx,aV.cell? ((⟨dJ,0,none⟩:Addr).add 2)=some (.int .i64 kx)/\
 Calls prog 155 #[.string (⟨#[32]⟩:ByteArray),.int .i64 kx] aV λe dW=>
 ∃pD:ByteArray,e=.returned (.string pD)/\
 Calls prog 199 #[.pointer p7,.string pD] dW λe fo=>
 ∃iw:Int,∃ky:Value,e=.returned (.tuple #[.int .i64 iw,ky])/\
 J1 (n8,(IntKind.i64.wrap (df+1))) fo) (
 dwE aV λiu=>
 ∃S6:World->Prop,S6 iu/\
 ∃rt,(∀w',S6 w'->w'.cell? ((⟨dJ,0,none⟩:Addr).add 1)=some (.int .i64 rt))/\
 ∃gD,(∀w',S6 w'->w'.cell? ((⟨dJ,0,none⟩:Addr).add 0)=some (.string gD))/\
 ∃gE,(∀w',S6 w'->w'.cell? ((⟨dJ,0,none⟩:Addr).add 1)=some (.int .i64 gE))/\
 ∃gF,(∀w',S6 w'->w'.cell? ((⟨dJ,0,none⟩:Addr).add 2)=some (.int .i64 gF))/\
 ∃gG,(∀w',S6 w'->w'.cell? ((⟨dJ,0,none⟩:Addr).add 3)=some (.bool gG))/\
 ∃dK,(∀w',S6 w'->w'.cell? ((⟨cq,0,none⟩:Addr).add 0)=some (.int .i64 dK))/\
 ∃gH,(∀w',S6 w'->w'.cell? ((⟨cq,0,none⟩:Addr).add 1)=some (.int .i64 gH))/\
 ∃gI,(∀w',S6 w'->w'.cell? ((⟨cq,0,none⟩:Addr).add 2)=some (.string gI))/\
 Calls prog 145 #[] iu λe gn=>
 ∃rv:Option Nat,e=.returned (.map rv)/\
 ∃S7:World->Prop,S7 gn/\(∀u,S7 u->S6 u)/\
 ∃iy:Int,∃iz:Int,∃iA:Int,∃gJ:Value,∃kz:Value,(∀w',S7 w'->(Instr.lookup 176 (.map rv) (.int .i64 rt) false).run prog w'=.ok (.agg #[.int .u8 iy,.int .i64 iz,.int .i64 iA,gJ,kz]) w')/\
 fnE gJ λf63 first63 kA=>
 zQ6 prog f63=true/\Calls prog f63 (first63.toList ++ (([.agg #[.string gD,.int .i64 gE,.int .i64 gF,.bool gG],.agg #[.int .i64 dK,.int .i64 gH,.string gI]]:List Value) ++ kA.toList)).toArray gn λe gk=>
 ∃rx:ByteArray,e=.returned (.string rx)/\
 Calls prog 199 #[.pointer p7,.string rx] gk λe fW=>
 ∃kB:Int,∃kC:Value,e=.returned (.tuple #[.int .i64 kB,kC])/\
 J1 (n8,(IntKind.i64.wrap (df+1))) fW))) (
 xK1 R l5 l6 p7 ds w)
def yKC(R:Rt)(p3:Option Addr)(l5 l6:SV)(p7:Option Addr)(n8:Int)(dZ:SV)(kQ df:Int)(ds:Ds)(w:World):Prop:=
 zQE (λ(J1:(Int × Int)->World->Prop) (s:Int × Int) (w:World)=>xVJ R J1 p3 l5 l6 p7 s.1 dZ kQ s.2 ds w) (n8,df) w
def xYv(R:Rt)(l0:SV)(eE:Bool)(bg:SV)(ds:Ds)(w:World):Prop:=
 alE (.cells #[.bool eE,bg.v] 67) w λr3 fX=>
 alE (.cells #[.int .u8 32] 5) fX λnF i5=>
 ∃iB,i5.cell? (⟨r3,0,none⟩:Addr)=some (.bool iB)/\
 Br iB (
 ∃qL:Addr,(some ⟨nF,0,none⟩)=some qL/\0<=(0:Int)/\(0:Int)<(1:Int)/\
 st1 (qL.add ((0:Int).toNat * 1)) (.int .u8 42) i5 λj4=>
 Calls prog 203 #[l0.v] j4 λe nG=>
 ∃iF:Int,e=.returned (.int .i64 iF)/\
 ∃dg:SV,∃kw,(Instr.makeSlice 22 (.int .i64 iF) (.int .i64 iF)).run prog nG=.ok (dg.v) kw/\
 alE (.cells #[.pointer none,.slice none 0 0] 220) kw λr7 rq=>
 yKC R (some (⟨r3,0,none⟩:Addr)) ⟨(some ⟨nF,0,none⟩),1,1⟩ dg (some (⟨r7,0,none⟩:Addr)) 0 l0 (l0.len:Int) 0 ds rq) (
 Calls prog 203 #[l0.v] i5 λe nn=>
 ∃iF:Int,e=.returned (.int .i64 iF)/\
 ∃dg:SV,∃xq,(Instr.makeSlice 22 (.int .i64 iF) (.int .i64 iF)).run prog nn=.ok (dg.v) xq/\
 alE (.cells #[.pointer none,.slice none 0 0] 220) xq λr7 qo=>
 yKC R (some (⟨r3,0,none⟩:Addr)) ⟨(some ⟨nF,0,none⟩),1,1⟩ dg (some (⟨r7,0,none⟩:Addr)) 0 l0 (l0.len:Int) 0 ds qo)
theorem F158_p:Pl prog f158 [lS 0,aS 1 [.bool,.slice]] xYv:=λR=>
 pc 8 (rest [pS 3,lS 5,lS 6,pS 7,iS 8,lS 20,iS 21,iS 22] (yKC R) (bk 0 (rest [lS 5,lS 6,pS 7] (xK1 R) lf) (lp [iS 8,iS 22] [pS 3,lS 5,lS 6,pS 7,iS 8,lS 20,iS 21,iS 22] (xVJ R) zXL λJ1=>lf)))
theorem yVu (l0:SV) (eE:Bool) (bg:SV) (w:World) (R:Rt) (h:xYv R l0 eE bg [] w):Calls prog 158 #[l0.v,.agg #[.bool eE,bg.v]] w R:=
 plC F158_p func158 h
def xYf(R:Rt)(aW:ByteArray)(aI aX:Int)(aY:Bool)(bC cr:Int)(du:ByteArray)(ds:Ds)(w:World):Prop:=
 alE (.cells #[.string aW,.int .i64 aI,.int .i64 aX,.bool aY] 129) w λr2 w1=>
 alE (.cells #[.int .i64 bC,.int .i64 cr,.string du] 73) w1 λr3 w2=>
 dwE w2 λw3=>
 ∃S1:World->Prop,S1 w3/\
 ∃s6,(∀w',S1 w'->w'.cell? ((⟨r3,0,none⟩:Addr).add 2)=some (.string s6))/\
 ∃n8,(∀w',S1 w'->w'.cell? ((⟨r2,0,none⟩:Addr).add 2)=some (.int .i64 n8))/\
 ∃uO,(∀w',S1 w'->w'.cell? ((⟨r3,0,none⟩:Addr).add 2)=some (.string uO))/\
 Calls prog 155 #[.string (⟨#[32]⟩:ByteArray),.int .i64 (IntKind.i64.wrap (n8 - (uO.size:Int)))] w3 λe w4=>
 ∃qP:ByteArray,e=.returned (.string qP)/\
 S1 w4/\
 ((s6.size+qP.size:Nat):Int)<=9223372036854775807/\
 zQb prog ds w4 λw5=>
 R (.returned (.string (s6 ++ qP))) w5
theorem F186_p:Pl prog f186 [aS 0 [.str,.int .i64,.int .i64,.bool],aS 1 [.int .i64,.int .i64,.str]] xYf:=λR=>
 lf
theorem yWa (aW:ByteArray) (aI aX:Int) (aY:Bool) (bC cr:Int) (du:ByteArray) (w:World) (R:Rt) (h:xYf R aW aI aX aY bC cr du [] w):Calls prog 186 #[.agg #[.string aW,.int .i64 aI,.int .i64 aX,.bool aY],.agg #[.int .i64 bC,.int .i64 cr,.string du]] w R:=
 plC F186_p func186 h
end Go.Proofs.YtaeecpjhfmcliaaGreatDoor
/- Shallow texts of functions, printed by program, each checked by the kernel against the loaded code. No condition. -/
namespace Go.Proofs.YtaeecpjhfmcliaaGreatDoor
open Go.Sh Tryz
def xW8(R:Rt)(p0:Option Addr)(ds:Ds)(w:World):Prop:=
 dwE w λw1=>
 ∃S1:World->Prop,S1 w1/\
 zQg p0 λa2=>
 ∃l6:SV,(∀w',S1 w'->w'.cell? (a2.add 1)=some (l6.v))/\
 zQg p0 λa3=>
 ∃cw:SV,(∀w',S1 w'->w'.cell? (a3.add 1)=some (cw.v))/\
 ∃p7:Option Addr,∃w4,(Builtin.unsafeSliceData_ #[22] 243 #[l6.v]).run prog w1=.ok (.pointer p7) w4/\
 S1 w4/\
 ∃qP:ByteArray,∃w5,(Builtin.unsafeString_ #[243,3] 9 #[.pointer p7,.int .i64 (cw.len:Int)]).run prog w4=.ok (.string qP) w5/\
 zQb prog ds w5 λw6=>
 R (.returned (.string qP)) w6
theorem F201_p:Pl prog f201 [pS 0] xW8:=λR=>
 lf
theorem yW4 (p0:Option Addr) (w:World) (R:Rt) (h:xW8 R p0 [] w):Calls prog 201 #[.pointer p0] w R:=
 plC F201_p func201 h
end Go.Proofs.YtaeecpjhfmcliaaGreatDoor
/- Shallow texts of functions, printed by program, each checked by the kernel against the loaded code. No condition. -/
namespace Go.Proofs.YtaeecpjhfmcliaaGreatDoor
open Go.Sh Tryz
def xVT(R:Rt)(ax aI:Int)(fZ:ByteArray)(bC cr:Int)(du:ByteArray)(ds:Ds)(w:World):Prop:=
 alE (.cells #[.int .i64 ax,.int .i64 aI,.string fZ] 73) w λr2 w1=>
 alE (.cells #[.int .i64 bC,.int .i64 cr,.string du] 73) w1 λr3 w2=>
 ∃n6,w2.cell? (⟨r2,0,none⟩:Addr)=some (.int .i64 n6)/\
 ∃n8,w2.cell? (⟨r3,0,none⟩:Addr)=some (.int .i64 n8)/\
 Br (n6 == n8) (
 ∃dz,w2.cell? ((⟨r2,0,none⟩:Addr).add 1)=some (.int .i64 dz)/\
 ∃kU,w2.cell? ((⟨r3,0,none⟩:Addr).add 1)=some (.int .i64 kU)/\
 Br (dz == kU) (
 ∃nL,w2.cell? ((⟨r2,0,none⟩:Addr).add 2)=some (.string nL)/\
 ∃s21,w2.cell? ((⟨r3,0,none⟩:Addr).add 2)=some (.string s21)/\
 zQb prog ds w2 λw3=>
 R (.returned (.bool (nL.toList == s21.toList))) w3) (
 zQb prog ds w2 λw4=>
 R (.returned (.bool false)) w4)) (
 zQb prog ds w2 λw5=>
 R (.returned (.bool false)) w5)
theorem F140_p:Pl prog f140 [aS 0 [.int .i64,.int .i64,.str],aS 1 [.int .i64,.int .i64,.str]] xVT:=λR=>
 lf
theorem yVn (ax aI:Int) (fZ:ByteArray) (bC cr:Int) (du:ByteArray) (w:World) (R:Rt) (h:xVT R ax aI fZ bC cr du [] w):Calls prog 140 #[.agg #[.int .i64 ax,.int .i64 aI,.string fZ],.agg #[.int .i64 bC,.int .i64 cr,.string du]] w R:=
 plC F140_p func140 h
end Go.Proofs.YtaeecpjhfmcliaaGreatDoor
/- Shallow texts of functions, printed by program, each checked by the kernel against the loaded code. No condition. -/
namespace Go.Proofs.YtaeecpjhfmcliaaGreatDoor
open Go.Sh Tryz
def xV1(R:Rt)(l0:SV)(ds:Ds)(w:World):Prop:=
 Calls prog 141 #[l0.v] w λe w1=>
 ∃n6:Int,e=.returned (.int .i64 n6)/\
 Br (n6 != 0) (
 zQb prog ds w1 λw2=>
 R (.returned (.tuple #[.int .i64 0,.int .i64 n6])) w2) (
 Calls prog 161 #[l0.v] w1 λe w3=>
 ∃dT:Int,e=.returned (.int .i64 dT)/\
 zQb prog ds w3 λw4=>
 R (.returned (.tuple #[.int .i64 dT,.int .i64 0])) w4)
theorem F128_p:Pl prog f128 [lS 0] xV1:=λR=>
 lf
theorem yWe (l0:SV) (w:World) (R:Rt) (h:xV1 R l0 [] w):Calls prog 128 #[l0.v] w R:=
 plC F128_p func128 h
end Go.Proofs.YtaeecpjhfmcliaaGreatDoor
/- Shallow texts of functions, printed by program, each checked by the kernel against the loaded code. No condition. -/
namespace Go.Proofs.YtaeecpjhfmcliaaGreatDoor
open Go.Sh Tryz
def F57_1(R:Rt)(n3:Int)(ds:Ds)(w:World):Prop:=
 zQb prog ds w λw1=>
 R (.returned (.int .i64 n3)) w1
def F57_2 (R:Rt) (J1:(Int × Int)->World->Prop) (p1:Option Addr) (n3 n5:Int) (ds:Ds) (w:World):Prop:=
 zQg p1 λa2=>
 ∃eD:SV,w.cell? (a2.add 2)=some (eD.v)/\
 Br (decide (n5<(eD.len:Int))) (
 zQg p1 λa3=>
 ∃iv:SV,w.cell? (a3.add 2)=some (iv.v)/\
 ∃a4,iv.a=some a4/\0<=n5/\n5<(iv.len:Int)/\
 ∃iI:SV,w.cell? ((a4.add (n5.toNat * 2)).add 1)=some (iI.v)/\
 Calls prog 58 #[iI.v] w λe w5=>
 ∃gh:Int,e=.returned (.int .i64 gh)/\
 J1 ((IntKind.i64.wrap (n3+(IntKind.i64.wrap ((8:Int)+gh)))),(IntKind.i64.wrap (n5+1))) w5) (
 F57_1 R n3 ds w)
def F57_3(R:Rt)(p1:Option Addr)(n3 n5:Int)(ds:Ds)(w:World):Prop:=
 zQE (λ(J1:(Int × Int)->World->Prop) (s:Int × Int) (w:World)=>F57_2 R J1 p1 s.1 s.2 ds w) (n3,n5) w
def F57_5(R:Rt)(p1:Option Addr)(n3:Int)(ds:Ds)(w:World):Prop:=
 F57_3 R p1 n3 0 ds w
def F57_6 (R:Rt) (J1:(Int × Int)->World->Prop) (p1:Option Addr) (n3 n4:Int) (ds:Ds) (w:World):Prop:=
 zQg p1 λa6=>
 ∃ik:SV,w.cell? (a6.add 1)=some (ik.v)/\
 Br (decide (n4<(ik.len:Int))) (
 zQg p1 λa7=>
 ∃dg:SV,w.cell? (a7.add 1)=some (dg.v)/\
 ∃a8,dg.a=some a8/\0<=n4/\n4<(dg.len:Int)/\
 ∃s23,w.cell? (a8.add (n4.toNat * 4))=some (.string s23)/\
 J1 ((IntKind.i64.wrap (n3+(s23.size:Int))),(IntKind.i64.wrap (n4+1))) w) (
 F57_5 R p1 n3 ds w)
def F57_7(R:Rt)(p1:Option Addr)(n3 n4:Int)(ds:Ds)(w:World):Prop:=
 zQE (λ(J1:(Int × Int)->World->Prop) (s:Int × Int) (w:World)=>F57_6 R J1 p1 s.1 s.2 ds w) (n3,n4) w
def F57_9(R:Rt)(ax:Int)(ah ai:SV)(ds:Ds)(w:World):Prop:=
 alE (.cells #[.int .i64 ax,ah.v,ai.v] 35) w λr1 w9=>
 ∃l7:SV,w9.cell? ((⟨r1,0,none⟩:Addr).add 1)=some (l7.v)/\
 F57_7 R (some (⟨r1,0,none⟩:Addr)) (IntKind.i64.wrap ((16:Int) * (l7.len:Int))) 0 ds w9
theorem F57_p:Pl prog f57 [aS 0 [.int .i64,.slice,.slice]] F57_9:=λR=>
 pc 3 (rest [pS 1,iS 3,iS 4] (F57_7 R) (bk 0 (rest [pS 1,iS 3] (F57_5 R) (pc 1 (rest [pS 1,iS 3,iS 5] (F57_3 R) (bk 2 (rest [iS 3] (F57_1 R) lf) (lp [iS 3,iS 5] [pS 1,iS 3,iS 5] (F57_2 R) zXL λJ1=>lf))))) (lp [iS 3,iS 4] [pS 1,iS 3,iS 4] (F57_6 R) zXL λJ1=>lf)))
theorem xXA (ax:Int) (ah ai:SV) (w:World) (R:Rt) (h:F57_9 R ax ah ai [] w):Calls prog 57 #[.agg #[.int .i64 ax,ah.v,ai.v]] w R:=
 plC F57_p func57 h
def F58_1(R:Rt)(n3:Int)(ds:Ds)(w:World):Prop:=
 zQb prog ds w λw1=>
 R (.returned (.int .i64 n3)) w1
def F58_2 (R:Rt) (J1:(Int × Int)->World->Prop) (l0:SV) (n3 n4:Int) (ds:Ds) (w:World):Prop:=
 Br (decide (n4<(l0.len:Int))) (
 ∃a2,l0.a=some a2/\0<=n4/\n4<(l0.len:Int)/\
 ∃nL,w.cell? ((a2.add (n4.toNat * 3)).add 2)=some (.string nL)/\
 J1 ((IntKind.i64.wrap (n3+(nL.size:Int))),(IntKind.i64.wrap (n4+1))) w) (
 F58_1 R n3 ds w)
def F58_3(R:Rt)(l0:SV)(n3 n4:Int)(ds:Ds)(w:World):Prop:=
 zQE (λ(J1:(Int × Int)->World->Prop) (s:Int × Int) (w:World)=>F58_2 R J1 l0 s.1 s.2 ds w) (n3,n4) w
def F58_5(R:Rt)(l0:SV)(ds:Ds)(w:World):Prop:=
 F58_3 R l0 (IntKind.i64.wrap ((8:Int) * (l0.len:Int))) 0 ds w
theorem F58_p:Pl prog f58 [lS 0] F58_5:=λR=>
 pc 3 (rest [lS 0,iS 3,iS 4] (F58_3 R) (bk 0 (rest [iS 3] (F58_1 R) lf) (lp [iS 3,iS 4] [lS 0,iS 3,iS 4] (F58_2 R) zXL λJ1=>lf)))
theorem xQL (l0:SV) (w:World) (R:Rt) (h:F58_5 R l0 [] w):Calls prog 58 #[l0.v] w R:=
 plC F58_p func58 h
end Go.Proofs.YtaeecpjhfmcliaaGreatDoor
/- Shallow texts of functions, printed by program, each checked by the kernel against the loaded code. No condition. -/
namespace Go.Proofs.YtaeecpjhfmcliaaGreatDoor
open Go.Sh Tryz
def xJT(R:Rt)(p2 p5:Option Addr)(ds:Ds)(w:World):Prop:=
 zQg p5 λa1=>
 ∃dG,w.cell? (a1.add 0)=some (.bool dG)/\
 ∃aZ:SV,w.cell? (a1.add 1)=some (aZ.v)/\
 zQg p2 λa2=>
 stA prog 67 a2 #[.bool dG,aZ.v] w λw3=>
 zQb prog ds w3 λw4=>
 zQg p2 λa5=>
 ∃bL,w4.cell? (a5.add 0)=some (.bool bL)/\
 ∃ab:SV,w4.cell? (a5.add 1)=some (ab.v)/\
 R (.returned (.tuple #[.agg #[.bool bL,ab.v],.int .i64 0])) w4
def xV0 (R:Rt) (J1:(Int)->World->Prop) (p2 p5:Option Addr) (bR:SV) (kZ n16:Int) (ds:Ds) (w:World):Prop:=
 Br (decide (n16<kZ)) (
 ∃a6,bR.a=some a6/\0<=n16/\n16<(bR.len:Int)/\
 ∃jK,w.cell? ((a6.add (n16.toNat * 4)).add 0)=some (.string jK)/\
 ∃bT,w.cell? ((a6.add (n16.toNat * 4)).add 1)=some (.int .i64 bT)/\
 ∃jL,w.cell? ((a6.add (n16.toNat * 4)).add 2)=some (.int .i64 jL)/\
 ∃gz,w.cell? ((a6.add (n16.toNat * 4)).add 3)=some (.bool gz)/\
 alE (.cells #[.string (⟨#[]⟩:ByteArray),.int .i64 0,.int .i64 0,.bool false] 129) w λr7 w7=>
 stA prog 129 (⟨r7,0,none⟩:Addr) #[.string jK,.int .i64 bT,.int .i64 jL,.bool gz] w7 λw8=>
 dwE w8 λw9=>
 ∃S1:World->Prop,S1 w9/\
 zQg p5 λdx=>
 ∃cK:SV,(∀w',S1 w'->w'.cell? (dx.add 1)=some (cK.v))/\
 ∃uP,(∀w',S1 w'->w'.cell? ((⟨r7,0,none⟩:Addr).add 0)=some (.string uP))/\
 ∃uQ,(∀w',S1 w'->w'.cell? ((⟨r7,0,none⟩:Addr).add 1)=some (.int .i64 uQ))/\
 ∃uR,(∀w',S1 w'->w'.cell? ((⟨r7,0,none⟩:Addr).add 2)=some (.int .i64 uR))/\
 ∃uS,(∀w',S1 w'->w'.cell? ((⟨r7,0,none⟩:Addr).add 3)=some (.bool uS))/\
 Calls prog 118 #[.agg #[.string uP,.int .i64 uQ,.int .i64 uR,.bool uS]] w9 λe aV=>
 ∃nZ:Int,∃ed:Int,∃oa:ByteArray,e=.returned (.agg #[.int .i64 nZ,.int .i64 ed,.string oa])/\
 S1 aV/\
 alE (.cells #[.int .i64 nZ,.int .i64 ed,.string oa] 73) aV λr24 aO=>
 S1 aO/\
 ∃eg:SV,∃aH,(Builtin.append_ #[38,38] 38 #[cK.v,.slice (some ⟨r24,0,none⟩) 1 1]).run prog aO=.ok (eg.v) aH/\
 zQg p5 λf7=>
 st1 (f7.add 1) (eg.v) aH λbp=>
 J1 (IntKind.i64.wrap (n16+1)) bp) (
 xJT R p2 p5 ds w)
def xKn(R:Rt)(p2 p5:Option Addr)(bR:SV)(kZ n16:Int)(ds:Ds)(w:World):Prop:=
 zQE (λ(J1:(Int)->World->Prop) (s:Int) (w:World)=>xV0 R J1 p2 p5 bR kZ s ds w) n16 w
def xWh(R:Rt)(l0:SV)(ds:Ds)(w:World):Prop:=
 alE (.cells #[.bool false,.slice none 0 0] 67) w λr2 bG=>
 Calls prog 141 #[l0.v] bG λe bH=>
 ∃n9:Int,e=.returned (.int .i64 n9)/\
 Br (n9 != 0) (
 stA prog 67 (⟨r2,0,none⟩:Addr) #[.bool false,.slice none 0 0] bH λbO=>
 zQb prog ds bO λcL=>
 ∃bL,cL.cell? ((⟨r2,0,none⟩:Addr).add 0)=some (.bool bL)/\
 ∃ab:SV,cL.cell? ((⟨r2,0,none⟩:Addr).add 1)=some (ab.v)/\
 R (.returned (.tuple #[.agg #[.bool bL,ab.v],.int .i64 n9])) cL) (
 alE (.cells #[.bool false,.slice none 0 0] 67) bH λr5 bU=>
 xKn R (some (⟨r2,0,none⟩:Addr)) (some (⟨r5,0,none⟩:Addr)) l0 (l0.len:Int) 0 ds bU)
theorem F164_p:Pl prog f164 [lS 0] xWh:=λR=>
 pc 6 (rest [pS 2,pS 5,lS 14,iS 15,iS 16] (xKn R) (bk 0 (rest [pS 2,pS 5] (xJT R) lf) (lp [iS 16] [pS 2,pS 5,lS 14,iS 15,iS 16] (xV0 R) zXL λJ1=>lf)))
theorem yYa (l0:SV) (w:World) (R:Rt) (h:xWh R l0 [] w):Calls prog 164 #[l0.v] w R:=
 plC F164_p func164 h
def F70_1(R:Rt)(nq:Bool)(ah:SV)(eE:Bool)(bg:SV)(ds:Ds)(w:World):Prop:=
 alE (.cells #[.bool nq,ah.v] 67) w λr2 w1=>
 alE (.cells #[.bool eE,bg.v] 67) w1 λr3 w2=>
 ∃b6,w2.cell? (⟨r2,0,none⟩:Addr)=some (.bool b6)/\
 ∃b8,w2.cell? (⟨r3,0,none⟩:Addr)=some (.bool b8)/\
 Br (b6 == b8) (
 ∃ik:SV,w2.cell? ((⟨r2,0,none⟩:Addr).add 1)=some (ik.v)/\
 ∃bR:SV,w2.cell? ((⟨r3,0,none⟩:Addr).add 1)=some (bR.v)/\
 Calls prog 105 #[ik.v,bR.v] w2 λe w3=>
 ∃j5:Bool,e=.returned (.bool j5)/\
 zQb prog ds w3 λw4=>
 R (.returned (.bool j5)) w4) (
 zQb prog ds w2 λw5=>
 R (.returned (.bool false)) w5)
theorem F70_p:Pl prog f70 [aS 0 [.bool,.slice],aS 1 [.bool,.slice]] F70_1:=λR=>
 lf
theorem xQk (nq:Bool) (ah:SV) (eE:Bool) (bg:SV) (w:World) (R:Rt) (h:F70_1 R nq ah eE bg [] w):Calls prog 70 #[.agg #[.bool nq,ah.v],.agg #[.bool eE,bg.v]] w R:=
 plC F70_p func70 h
def xKS(R:Rt)(ds:Ds)(w:World):Prop:=
 zQb prog ds w λw1=>
 R (.returned (.bool true)) w1
def xKb (R:Rt) (J1:(Int)->World->Prop) (l0 l1:SV) (n5:Int) (ds:Ds) (w:World):Prop:=
 Br (decide (n5<(l0.len:Int))) (
 dwE w λw2=>
 ∃a3,l0.a=some a3/\0<=n5/\n5<(l0.len:Int)/\
 ∃gu,w2.cell? ((a3.add (n5.toNat * 3)).add 0)=some (.int .i64 gu)/\
 ∃eM,w2.cell? ((a3.add (n5.toNat * 3)).add 1)=some (.int .i64 eM)/\
 ∃gv,w2.cell? ((a3.add (n5.toNat * 3)).add 2)=some (.string gv)/\
 ∃a4,l1.a=some a4/\0<=n5/\n5<(l1.len:Int)/\
 ∃jT,w2.cell? ((a4.add (n5.toNat * 3)).add 0)=some (.int .i64 jT)/\
 ∃jD,w2.cell? ((a4.add (n5.toNat * 3)).add 1)=some (.int .i64 jD)/\
 ∃uT,w2.cell? ((a4.add (n5.toNat * 3)).add 2)=some (.string uT)/\
 Calls prog 140 #[.agg #[.int .i64 gu,.int .i64 eM,.string gv],.agg #[.int .i64 jT,.int .i64 jD,.string uT]] w2 λe w5=>
 ∃qQ:Bool,e=.returned (.bool qQ)/\
 Br (!qQ) (
 zQb prog ds w5 λw6=>
 R (.returned (.bool false)) w6) (
 J1 (IntKind.i64.wrap (n5+1)) w5)) (
 xKS R ds w)
def xVP(R:Rt)(l0 l1:SV)(n5:Int)(ds:Ds)(w:World):Prop:=
 zQE (λ(J1:(Int)->World->Prop) (s:Int) (w:World)=>xKb R J1 l0 l1 s ds w) n5 w
def xW5(R:Rt)(l0 l1:SV)(ds:Ds)(w:World):Prop:=
 Br ((l0.len:Int) != (l1.len:Int)) (
 zQb prog ds w λw7=>
 R (.returned (.bool false)) w7) (
 xVP R l0 l1 0 ds w)
theorem F105_p:Pl prog f105 [lS 0,lS 1] xW5:=λR=>
 pc 4 (rest [lS 0,lS 1,iS 5] (xVP R) (bk 0 (rest [] (xKS R) lf) (lp [iS 5] [lS 0,lS 1,iS 5] (xKb R) zXL λJ1=>lf)))
theorem yWd (l0 l1:SV) (w:World) (R:Rt) (h:xW5 R l0 l1 [] w):Calls prog 105 #[l0.v,l1.v] w R:=
 plC F105_p func105 h
end Go.Proofs.YtaeecpjhfmcliaaGreatDoor
/- Shallow texts of functions, printed by program, each checked by the kernel against the loaded code. No condition. -/
namespace Go.Proofs.YtaeecpjhfmcliaaGreatDoor
open Go.Sh Tryz
def F45_1(R:Rt)(n0:Int)(ds:Ds)(w:World):Prop:=
 alE (.cells #[.int .i64 0,.int .i64 0,.string (⟨#[]⟩:ByteArray)] 73) w λr2 w1=>
 stA prog 73 (⟨r2,0,none⟩:Addr) #[.int .i64 2,.int .i64 n0,.string (⟨#[]⟩:ByteArray)] w1 λw2=>
 zQb prog ds w2 λw3=>
 ∃ag,w3.cell? ((⟨r2,0,none⟩:Addr).add 0)=some (.int .i64 ag)/\
 ∃aj,w3.cell? ((⟨r2,0,none⟩:Addr).add 1)=some (.int .i64 aj)/\
 ∃ak,w3.cell? ((⟨r2,0,none⟩:Addr).add 2)=some (.string ak)/\
 R (.returned (.agg #[.int .i64 ag,.int .i64 aj,.string ak])) w3
theorem F45_p:Pl prog f45 [iS 0] F45_1:=λR=>
 lf
theorem xXO (n0:Int) (w:World) (R:Rt) (h:F45_1 R n0 [] w):Calls prog 45 #[.int .i64 n0] w R:=
 plC F45_p func45 h
end Go.Proofs.YtaeecpjhfmcliaaGreatDoor
/- Shallow texts of functions, printed by program, each checked by the kernel against the loaded code. No condition. -/
namespace Go.Proofs.YtaeecpjhfmcliaaGreatDoor
open Go.Sh Tryz
def F72_1(R:Rt)(l8:SV)(ds:Ds)(w:World):Prop:=
 zQb prog ds w λw1=>
 R (.returned (.tuple #[l8.v,.int .i64 0])) w1
def yVe (R:Rt) (J1:(SV × Int)->World->Prop) (p2 p3:Option Addr) (l8:SV) (fg gh:Int) (ds:Ds) (w:World):Prop:=
 J1 (l8,(IntKind.i64.wrap (gh+1))) w
def F72_3 (R:Rt) (J1:(SV × Int)->World->Prop) (p2 p3:Option Addr) (l8:SV) (fg gh:Int) (ds:Ds) (w:World):Prop:=
 Br (decide (gh<fg)) (
 dwE w λw2=>
 zQg p2 λa3=>
 ∃sP:SV,w2.cell? (a3.add 2)=some (sP.v)/\
 Br (decide (gh >= (sP.len:Int))) (
 alE (.cells #[.int .i64 (IntKind.i64.wrap (gh+1))] 3) w2 λxr w4=>
 ∃kg:SV,∃w5,(Builtin.append_ #[52,52] 52 #[l8.v,.slice (some ⟨xr,0,none⟩) 1 1]).run prog w4=.ok (kg.v) w5/\
 yVe R J1 p2 p3 kg fg gh ds w5) (
 zQg p3 λa6=>
 ∃rz:SV,w2.cell? (a6.add 2)=some (rz.v)/\
 Br (decide (gh >= (rz.len:Int))) (
 alE (.cells #[.int .i64 (IntKind.i64.wrap (gh+1))] 3) w2 λxr w7=>
 ∃kg:SV,∃w8,(Builtin.append_ #[52,52] 52 #[l8.v,.slice (some ⟨xr,0,none⟩) 1 1]).run prog w7=.ok (kg.v) w8/\
 yVe R J1 p2 p3 kg fg gh ds w8) (
 zQg p2 λa9=>
 ∃kD:SV,w2.cell? (a9.add 2)=some (kD.v)/\
 ∃dx,kD.a=some dx/\0<=gh/\gh<(kD.len:Int)/\
 ∃zj,w2.cell? (dx.add (gh.toNat * 2))=some (.bool zj)/\
 zQg p3 λdY=>
 ∃zk:SV,w2.cell? (dY.add 2)=some (zk.v)/\
 ∃kR,zk.a=some kR/\0<=gh/\gh<(zk.len:Int)/\
 ∃ug,w2.cell? (kR.add (gh.toNat * 2))=some (.bool ug)/\
 ∃b68:Bool,(∀w,(eqS .neq 4 (.tmp 61) (.tmp 67) (.bool zj) (.bool ug)).run prog w=.ok (.bool b68) w)/\
 Br b68 (
 alE (.cells #[.int .i64 (IntKind.i64.wrap (gh+1))] 3) w2 λxr aH=>
 ∃kg:SV,∃bq,(Builtin.append_ #[52,52] 52 #[l8.v,.slice (some ⟨xr,0,none⟩) 1 1]).run prog aH=.ok (kg.v) bq/\
 yVe R J1 p2 p3 kg fg gh ds bq) (
 zQg p2 λjz=>
 ∃nr:SV,w2.cell? (jz.add 2)=some (nr.v)/\
 ∃iG,nr.a=some iG/\0<=gh/\gh<(nr.len:Int)/\
 ∃o0:SV,w2.cell? ((iG.add (gh.toNat * 2)).add 1)=some (o0.v)/\
 zQg p3 λrA=>
 ∃jU:SV,w2.cell? (rA.add 2)=some (jU.v)/\
 ∃jy,jU.a=some jy/\0<=gh/\gh<(jU.len:Int)/\
 ∃yg:SV,w2.cell? ((jy.add (gh.toNat * 2)).add 1)=some (yg.v)/\
 Calls prog 108 #[o0.v,yg.v] w2 λe cL=>
 ∃b83:Bool,e=.returned (.bool b83)/\
 Br (!b83) (
 alE (.cells #[.int .i64 (IntKind.i64.wrap (gh+1))] 3) cL λxr bU=>
 ∃kg:SV,∃ct,(Builtin.append_ #[52,52] 52 #[l8.v,.slice (some ⟨xr,0,none⟩) 1 1]).run prog bU=.ok (kg.v) ct/\
 yVe R J1 p2 p3 kg fg gh ds ct) (
 yVe R J1 p2 p3 l8 fg gh ds cL))))) (
 F72_1 R l8 ds w)
def F72_4(R:Rt)(p2 p3:Option Addr)(l8:SV)(fg gh:Int)(ds:Ds)(w:World):Prop:=
 zQE (λ(J1:(SV × Int)->World->Prop) (s:SV × Int) (w:World)=>F72_3 R J1 p2 p3 s.1 fg s.2 ds w) (l8,gh) w
def F72_6(R:Rt)(ax:Int)(ah ai:SV)(bC:Int)(bg cy:SV)(ds:Ds)(w:World):Prop:=
 alE (.cells #[.int .i64 ax,ah.v,ai.v] 35) w λr2 dX=>
 alE (.cells #[.int .i64 bC,bg.v,cy.v] 35) dX λr3 dV=>
 ∃eX,dV.cell? ((⟨r2,0,none⟩:Addr).add 0)=some (.int .i64 eX)/\
 ∃bv:SV,dV.cell? ((⟨r2,0,none⟩:Addr).add 1)=some (bv.v)/\
 ∃bw:SV,dV.cell? ((⟨r2,0,none⟩:Addr).add 2)=some (bw.v)/\
 Calls prog 106 #[.agg #[.int .i64 eX,bv.v,bw.v]] dV λe dy=>
 ∃dT:Int,e=.returned (.int .i64 dT)/\
 Br (dT != 0) (
 zQb prog ds dy λgj=>
 R (.returned (.tuple #[.slice none 0 0,.int .i64 dT])) gj) (
 ∃nW,dy.cell? ((⟨r3,0,none⟩:Addr).add 0)=some (.int .i64 nW)/\
 ∃fv:SV,dy.cell? ((⟨r3,0,none⟩:Addr).add 1)=some (fv.v)/\
 ∃lu:SV,dy.cell? ((⟨r3,0,none⟩:Addr).add 2)=some (lu.v)/\
 Calls prog 106 #[.agg #[.int .i64 nW,fv.v,lu.v]] dy λe fe=>
 ∃n16:Int,e=.returned (.int .i64 n16)/\
 Br (n16 != 0) (
 zQb prog ds fe λgQ=>
 R (.returned (.tuple #[.slice none 0 0,.int .i64 n16])) gQ) (
 ∃kQ,fe.cell? (⟨r2,0,none⟩:Addr)=some (.int .i64 kQ)/\
 ∃fp,fe.cell? (⟨r3,0,none⟩:Addr)=some (.int .i64 fp)/\
 Br (kQ != fp) (
 zQb prog ds fe λdW=>
 R (.returned (.tuple #[.slice none 0 0,.int .i64 10])) dW) (
 ∃bV:SV,fe.cell? ((⟨r2,0,none⟩:Addr).add 1)=some (bV.v)/\
 ∃iV:SV,fe.cell? ((⟨r3,0,none⟩:Addr).add 1)=some (iV.v)/\
 Calls prog 107 #[bV.v,iV.v] fe λe fo=>
 ∃tX:Bool,e=.returned (.bool tX)/\
 Br (!tX) (
 zQb prog ds fo λiu=>
 R (.returned (.tuple #[.slice none 0 0,.int .i64 10])) iu) (
 ∃kh:SV,fo.cell? ((⟨r2,0,none⟩:Addr).add 2)=some (kh.v)/\
 ∃eW:SV,fo.cell? ((⟨r3,0,none⟩:Addr).add 2)=some (eW.v)/\
 ∃fg:Int,∃gn,(Builtin.max_ #[3,3] 3 #[.int .i64 (kh.len:Int),.int .i64 (eW.len:Int)]).run prog fo=.ok (.int .i64 fg) gn/\
 F72_4 R (some (⟨r2,0,none⟩:Addr)) (some (⟨r3,0,none⟩:Addr)) ⟨none,0,0⟩ fg 0 ds gn))))
theorem F72_p:Pl prog f72 [aS 0 [.int .i64,.slice,.slice],aS 1 [.int .i64,.slice,.slice]] F72_6:=λR=>
 pc 11 (rest [pS 2,pS 3,lS 8,iS 39,iS 40] (F72_4 R) (bk 0 (rest [lS 8] (F72_1 R) lf) (lp [lS 8,iS 40] [pS 2,pS 3,lS 8,iS 39,iS 40] (F72_3 R) zXL λJ1=>pc 3 (rest [pS 2,pS 3,lS 8,iS 39,iS 40] (yVe R J1) lf))))
theorem xZv (ax:Int) (ah ai:SV) (bC:Int) (bg cy:SV) (w:World) (R:Rt) (h:F72_6 R ax ah ai bC bg cy [] w):Calls prog 72 #[.agg #[.int .i64 ax,ah.v,ai.v],.agg #[.int .i64 bC,bg.v,cy.v]] w R:=
 plC F72_p func72 h
def xWd(R:Rt)(ds:Ds)(w:World):Prop:=
 zQb prog ds w λw1=>
 R (.returned (.bool true)) w1
def xVl (R:Rt) (J1:(Int)->World->Prop) (l0 l1:SV) (dz dR:Int) (ds:Ds) (w:World):Prop:=
 Br (decide (dR<dz)) (
 dwE w λw2=>
 ∃a3,l0.a=some a3/\0<=dR/\dR<(l0.len:Int)/\
 ∃jK,w2.cell? ((a3.add (dR.toNat * 4)).add 0)=some (.string jK)/\
 ∃bT,w2.cell? ((a3.add (dR.toNat * 4)).add 1)=some (.int .i64 bT)/\
 ∃jL,w2.cell? ((a3.add (dR.toNat * 4)).add 2)=some (.int .i64 jL)/\
 ∃gz,w2.cell? ((a3.add (dR.toNat * 4)).add 3)=some (.bool gz)/\
 ∃a4,l1.a=some a4/\0<=dR/\dR<(l1.len:Int)/\
 ∃jN,w2.cell? ((a4.add (dR.toNat * 4)).add 0)=some (.string jN)/\
 ∃ed,w2.cell? ((a4.add (dR.toNat * 4)).add 1)=some (.int .i64 ed)/\
 ∃jO,w2.cell? ((a4.add (dR.toNat * 4)).add 2)=some (.int .i64 jO)/\
 ∃jP,w2.cell? ((a4.add (dR.toNat * 4)).add 3)=some (.bool jP)/\
 ∃tg:Bool,(∀w,(eqS .neq 129 (.tmp 19) (.tmp 23) (.agg #[.string jK,.int .i64 bT,.int .i64 jL,.bool gz]) (.agg #[.string jN,.int .i64 ed,.int .i64 jO,.bool jP])).run prog w=.ok (.bool tg) w)/\
 Br tg (
 zQb prog ds w2 λw5=>
 R (.returned (.bool false)) w5) (
 J1 (IntKind.i64.wrap (dR+1)) w2)) (
 xWd R ds w)
def xJW(R:Rt)(l0 l1:SV)(dz dR:Int)(ds:Ds)(w:World):Prop:=
 zQE (λ(J1:(Int)->World->Prop) (s:Int) (w:World)=>xVl R J1 l0 l1 dz s ds w) dR w
def xVQ(R:Rt)(l0 l1:SV)(ds:Ds)(w:World):Prop:=
 Br ((l0.len:Int) != (l1.len:Int)) (
 zQb prog ds w λw6=>
 R (.returned (.bool false)) w6) (
 xJW R l0 l1 (l0.len:Int) 0 ds w)
theorem F107_p:Pl prog f107 [lS 0,lS 1] xVQ:=λR=>
 pc 4 (rest [lS 0,lS 1,iS 12,iS 13] (xJW R) (bk 0 (rest [] (xWd R) lf) (lp [iS 13] [lS 0,lS 1,iS 12,iS 13] (xVl R) zXL λJ1=>lf)))
theorem yYb (l0 l1:SV) (w:World) (R:Rt) (h:xVQ R l0 l1 [] w):Calls prog 107 #[l0.v,l1.v] w R:=
 plC F107_p func107 h
def xKD(R:Rt)(ds:Ds)(w:World):Prop:=
 zQb prog ds w λw1=>
 R (.returned (.bool true)) w1
def xWG (R:Rt) (J1:(Int)->World->Prop) (l0 l1:SV) (dz dR:Int) (ds:Ds) (w:World):Prop:=
 Br (decide (dR<dz)) (
 dwE w λw2=>
 ∃a3,l0.a=some a3/\0<=dR/\dR<(l0.len:Int)/\
 ∃dH,w2.cell? ((a3.add (dR.toNat * 3)).add 0)=some (.int .i64 dH)/\
 ∃bT,w2.cell? ((a3.add (dR.toNat * 3)).add 1)=some (.int .i64 bT)/\
 ∃jM,w2.cell? ((a3.add (dR.toNat * 3)).add 2)=some (.string jM)/\
 ∃a4,l1.a=some a4/\0<=dR/\dR<(l1.len:Int)/\
 ∃nZ,w2.cell? ((a4.add (dR.toNat * 3)).add 0)=some (.int .i64 nZ)/\
 ∃ed,w2.cell? ((a4.add (dR.toNat * 3)).add 1)=some (.int .i64 ed)/\
 ∃oa,w2.cell? ((a4.add (dR.toNat * 3)).add 2)=some (.string oa)/\
 ∃tg:Bool,(∀w,(eqS .neq 73 (.tmp 19) (.tmp 23) (.agg #[.int .i64 dH,.int .i64 bT,.string jM]) (.agg #[.int .i64 nZ,.int .i64 ed,.string oa])).run prog w=.ok (.bool tg) w)/\
 Br tg (
 zQb prog ds w2 λw5=>
 R (.returned (.bool false)) w5) (
 J1 (IntKind.i64.wrap (dR+1)) w2)) (
 xKD R ds w)
def xWj(R:Rt)(l0 l1:SV)(dz dR:Int)(ds:Ds)(w:World):Prop:=
 zQE (λ(J1:(Int)->World->Prop) (s:Int) (w:World)=>xWG R J1 l0 l1 dz s ds w) dR w
def xYo(R:Rt)(l0 l1:SV)(ds:Ds)(w:World):Prop:=
 Br ((l0.len:Int) != (l1.len:Int)) (
 zQb prog ds w λw6=>
 R (.returned (.bool false)) w6) (
 xWj R l0 l1 (l0.len:Int) 0 ds w)
theorem F108_p:Pl prog f108 [lS 0,lS 1] xYo:=λR=>
 pc 4 (rest [lS 0,lS 1,iS 12,iS 13] (xWj R) (bk 0 (rest [] (xKD R) lf) (lp [iS 13] [lS 0,lS 1,iS 12,iS 13] (xWG R) zXL λJ1=>lf)))
theorem yVw (l0 l1:SV) (w:World) (R:Rt) (h:xYo R l0 l1 [] w):Calls prog 108 #[l0.v,l1.v] w R:=
 plC F108_p func108 h
def F69_1(R:Rt)(ds:Ds)(w:World):Prop:=
 zQb prog ds w λw1=>
 R (.returned (.bool true)) w1
def F69_2 (R:Rt) (J1:(Int)->World->Prop) (l0 l1:SV) (n5:Int) (ds:Ds) (w:World):Prop:=
 Br (decide (n5<(l0.len:Int))) (
 dwE w λw2=>
 ∃a3,l0.a=some a3/\0<=n5/\n5<(l0.len:Int)/\
 ∃uU,w2.cell? ((a3.add (n5.toNat * 4)).add 0)=some (.string uU)/\
 ∃eM,w2.cell? ((a3.add (n5.toNat * 4)).add 1)=some (.int .i64 eM)/\
 ∃ob,w2.cell? ((a3.add (n5.toNat * 4)).add 2)=some (.int .i64 ob)/\
 ∃uV,w2.cell? ((a3.add (n5.toNat * 4)).add 3)=some (.bool uV)/\
 ∃a4,l1.a=some a4/\0<=n5/\n5<(l1.len:Int)/\
 ∃nP,w2.cell? ((a4.add (n5.toNat * 4)).add 0)=some (.string nP)/\
 ∃jD,w2.cell? ((a4.add (n5.toNat * 4)).add 1)=some (.int .i64 jD)/\
 ∃nQ,w2.cell? ((a4.add (n5.toNat * 4)).add 2)=some (.int .i64 nQ)/\
 ∃nR,w2.cell? ((a4.add (n5.toNat * 4)).add 3)=some (.bool nR)/\
 ∃qQ:Bool,(∀w,(eqS .neq 129 (.tmp 20) (.tmp 24) (.agg #[.string uU,.int .i64 eM,.int .i64 ob,.bool uV]) (.agg #[.string nP,.int .i64 jD,.int .i64 nQ,.bool nR])).run prog w=.ok (.bool qQ) w)/\
 Br qQ (
 zQb prog ds w2 λw5=>
 R (.returned (.bool false)) w5) (
 J1 (IntKind.i64.wrap (n5+1)) w2)) (
 F69_1 R ds w)
def F69_3(R:Rt)(l0 l1:SV)(n5:Int)(ds:Ds)(w:World):Prop:=
 zQE (λ(J1:(Int)->World->Prop) (s:Int) (w:World)=>F69_2 R J1 l0 l1 s ds w) n5 w
def F69_5(R:Rt)(l0 l1:SV)(ds:Ds)(w:World):Prop:=
 Br ((l0.len:Int) != (l1.len:Int)) (
 zQb prog ds w λw6=>
 R (.returned (.bool false)) w6) (
 F69_3 R l0 l1 0 ds w)
theorem F69_p:Pl prog f69 [lS 0,lS 1] F69_5:=λR=>
 pc 4 (rest [lS 0,lS 1,iS 5] (F69_3 R) (bk 0 (rest [] (F69_1 R) lf) (lp [iS 5] [lS 0,lS 1,iS 5] (F69_2 R) zXL λJ1=>lf)))
theorem xQW (l0 l1:SV) (w:World) (R:Rt) (h:F69_5 R l0 l1 [] w):Calls prog 69 #[l0.v,l1.v] w R:=
 plC F69_p func69 h
end Go.Proofs.YtaeecpjhfmcliaaGreatDoor
/- Shallow texts of functions, printed by program, each checked by the kernel against the loaded code. No condition. -/
namespace Go.Proofs.YtaeecpjhfmcliaaGreatDoor
open Go.Sh Tryz
def xVV(R:Rt)(n0:Int)(ds:Ds)(w:World):Prop:=
 IntKind.i64=IntKind.i64/\(4:Int) ≠ 0/\
 Br ((n0.tmod 4) == 0) (
 IntKind.i64=IntKind.i64/\(100:Int) ≠ 0/\
 Br ((n0.tmod 100) != 0) (
 zQb prog ds w λw1=>
 R (.returned (.bool true)) w1) (
 IntKind.i64=IntKind.i64/\(400:Int) ≠ 0/\
 zQb prog ds w λw2=>
 R (.returned (.bool ((n0.tmod 400) == 0))) w2)) (
 zQb prog ds w λw3=>
 R (.returned (.bool false)) w3)
theorem F239_p:Pl prog f239 [iS 0] xVV:=λR=>
 lf
theorem yKX (n0:Int) (w:World) (R:Rt) (h:xVV R n0 [] w):Calls prog 239 #[.int .i64 n0] w R:=
 plC F239_p func239 h
def xJV(R:Rt)(n0 n1:Int)(ds:Ds)(w:World):Prop:=
 alE (.cells #[.int .i64 0,.int .i64 0,.int .i64 0,.int .i64 0,.int .i64 0,.int .i64 0,.int .i64 0,.int .i64 0,.int .i64 0,.int .i64 0,.int .i64 0,.int .i64 0] 258) w λr5 w1=>
 stA prog 258 (⟨r5,0,none⟩:Addr) #[.int .i64 31,.int .i64 28,.int .i64 31,.int .i64 30,.int .i64 31,.int .i64 30,.int .i64 31,.int .i64 31,.int .i64 30,.int .i64 31,.int .i64 30,.int .i64 31] w1 λw2=>
 Br (n1 == 2) (
 Calls prog 239 #[.int .i64 n0] w2 λe w3=>
 ∃qt:Bool,e=.returned (.bool qt)/\
 Br qt (
 zQb prog ds w3 λw4=>
 R (.returned (.int .i64 29)) w4) (
 0<=(IntKind.i64.wrap (n1 - 1))/\(IntKind.i64.wrap (n1 - 1))<(12:Int)/\
 ∃n16,w3.cell? ((⟨r5,0,none⟩:Addr).add ((IntKind.i64.wrap (n1 - 1)).toNat * 1))=some (.int .i64 n16)/\
 zQb prog ds w3 λw5=>
 R (.returned (.int .i64 n16)) w5)) (
 0<=(IntKind.i64.wrap (n1 - 1))/\(IntKind.i64.wrap (n1 - 1))<(12:Int)/\
 ∃n16,w2.cell? ((⟨r5,0,none⟩:Addr).add ((IntKind.i64.wrap (n1 - 1)).toNat * 1))=some (.int .i64 n16)/\
 zQb prog ds w2 λw6=>
 R (.returned (.int .i64 n16)) w6)
theorem F236_p:Pl prog f236 [iS 0,iS 1] xJV:=λR=>
 lf
theorem yWY (n0 n1:Int) (w:World) (R:Rt) (h:xJV R n0 n1 [] w):Calls prog 236 #[.int .i64 n0,.int .i64 n1] w R:=
 plC F236_p func236 h
def xVv(R:Rt)(n0:Int)(ds:Ds)(w:World):Prop:=
 IntKind.i64=IntKind.i64/\(4:Int) ≠ 0/\
 IntKind.i64=IntKind.i64/\(100:Int) ≠ 0/\
 IntKind.i64=IntKind.i64/\(400:Int) ≠ 0/\
 zQb prog ds w λw1=>
 R (.returned (.int .i64 (IntKind.i64.wrap ((IntKind.i64.wrap ((IntKind.i64.wrap ((IntKind.i64.wrap ((365:Int) * (IntKind.i64.wrap (n0 - 1))))+(IntKind.i64.wrap ((IntKind.i64.wrap (n0 - 1)).tdiv 4)))) - (IntKind.i64.wrap ((IntKind.i64.wrap (n0 - 1)).tdiv 100))))+(IntKind.i64.wrap ((IntKind.i64.wrap (n0 - 1)).tdiv 400)))))) w1
theorem F237_p:Pl prog f237 [iS 0] xVv:=λR=>
 lf
theorem yVd (n0:Int) (w:World) (R:Rt) (h:xVv R n0 [] w):Calls prog 237 #[.int .i64 n0] w R:=
 plC F237_p func237 h
def xVd(R:Rt)(n8:Int)(ds:Ds)(w:World):Prop:=
 zQb prog ds w λw1=>
 R (.returned (.tuple #[.int .i64 n8,.int .i64 0])) w1
def xKv (R:Rt) (J1:(Int × Int)->World->Prop) (n0 n8 gh nK:Int) (ds:Ds) (w:World):Prop:=
 Br (decide (nK<gh)) (
 Calls prog 236 #[.int .i64 n0,.int .i64 (IntKind.i64.wrap (nK+1))] w λe w2=>
 ∃dr:Int,e=.returned (.int .i64 dr)/\
 J1 ((IntKind.i64.wrap (n8+dr)),(IntKind.i64.wrap (nK+1))) w2) (
 xVd R n8 ds w)
def xVZ(R:Rt)(n0 n8 gh nK:Int)(ds:Ds)(w:World):Prop:=
 zQE (λ(J1:(Int × Int)->World->Prop) (s:Int × Int) (w:World)=>xKv R J1 n0 s.1 gh s.2 ds w) (n8,nK) w
def zVQ(R:Rt)(n0 n1 n2:Int)(b34:Bool)(ds:Ds)(w:World):Prop:=
 Br b34 (
 zQb prog ds w λw3=>
 R (.returned (.tuple #[.int .i64 0,.int .i64 1])) w3) (
 Calls prog 237 #[.int .i64 n0] w λe w4=>
 ∃iU:Int,e=.returned (.int .i64 iU)/\
 xVZ R n0 (IntKind.i64.wrap (iU+n2)) (IntKind.i64.wrap (n1 - 1)) 0 ds w4)
def xKH(R:Rt)(n0 n1 n2:Int)(ds:Ds)(w:World):Prop:=
 Br (decide (n0<1)) (
 zVQ R n0 n1 n2 true ds w) (
 Br (decide (n0 > 9999)) (
 zVQ R n0 n1 n2 true ds w) (
 Br (decide (n1<1)) (
 zVQ R n0 n1 n2 true ds w) (
 Br (decide (n1 > 12)) (
 zVQ R n0 n1 n2 true ds w) (
 Br (decide (n2<1)) (
 zVQ R n0 n1 n2 true ds w) (
 Calls prog 236 #[.int .i64 n0,.int .i64 n1] w λe w5=>
 ∃pJ:Int,e=.returned (.int .i64 pJ)/\
 zVQ R n0 n1 n2 (decide (n2 > pJ)) ds w5)))))
def xVY(R:Rt)(n0 n1 n2:Int)(ds:Ds)(w:World):Prop:=
 xKH R n0 n1 n2 ds w
theorem F226_p:Pl prog f226 [iS 0,iS 1,iS 2] xVY:=λR=>
 pc 1 (rest [iS 0,iS 1,iS 2] (xKH R) (pc 1 (rest [iS 0,iS 1,iS 2,bS 34] (zVQ R) (pc 3 (rest [iS 0,iS 8,iS 40,iS 41] (xVZ R) (bk 0 (rest [iS 8] (xVd R) lf) (lp [iS 8,iS 41] [iS 0,iS 8,iS 40,iS 41] (xKv R) zXL λJ1=>lf)))))))
theorem yWr (n0 n1 n2:Int) (w:World) (R:Rt) (h:xVY R n0 n1 n2 [] w):Calls prog 226 #[.int .i64 n0,.int .i64 n1,.int .i64 n2] w R:=
 plC F226_p func226 h
def xKc(R:Rt)(n6 n7 n8:Int)(ds:Ds)(w:World):Prop:=
 zQb prog ds w λw1=>
 R (.returned (.tuple #[.int .i64 n6,.int .i64 n8,.int .i64 n7,.int .i64 0])) w1
def xK7 (R:Rt) (J1:(Int × Int)->World->Prop) (n6 n7 n8:Int) (ds:Ds) (w:World):Prop:=
 Calls prog 236 #[.int .i64 n6,.int .i64 n8] w λe w2=>
 ∃tR:Int,e=.returned (.int .i64 tR)/\
 Br (decide (n7 > tR)) (
 Calls prog 236 #[.int .i64 n6,.int .i64 n8] w2 λe w3=>
 ∃iU:Int,e=.returned (.int .i64 iU)/\
 J1 ((IntKind.i64.wrap (n7 - iU)),(IntKind.i64.wrap (n8+1))) w3) (
 xKc R n6 n7 n8 ds w2)
def xK4(R:Rt)(n6 n7 n8:Int)(ds:Ds)(w:World):Prop:=
 zQE (λ(J1:(Int × Int)->World->Prop) (s:Int × Int) (w:World)=>xK7 R J1 n6 s.1 s.2 ds w) (n7,n8) w
def xVG(R:Rt)(n0 n6:Int)(ds:Ds)(w:World):Prop:=
 Calls prog 237 #[.int .i64 n6] w λe w4=>
 ∃cu:Int,e=.returned (.int .i64 cu)/\
 xK4 R n6 (IntKind.i64.wrap (n0 - cu)) 1 ds w4
def xZx (R:Rt) (J1:(Int)->World->Prop) (n0 n6:Int) (ds:Ds) (w:World):Prop:=
 Calls prog 237 #[.int .i64 (IntKind.i64.wrap (n6+1))] w λe w5=>
 ∃iZ:Int,e=.returned (.int .i64 iZ)/\
 Br (decide (iZ<n0)) (
 J1 (IntKind.i64.wrap (n6+1)) w5) (
 xVG R n0 n6 ds w5)
def xVe(R:Rt)(n0 n6:Int)(ds:Ds)(w:World):Prop:=
 zQE (λ(J1:(Int)->World->Prop) (s:Int) (w:World)=>xZx R J1 n0 s ds w) n6 w
def xWU(R:Rt)(n0:Int)(ds:Ds)(w:World):Prop:=
 Calls prog 191 #[.int .i64 n0] w λe w6=>
 ∃dS:Bool,e=.returned (.bool dS)/\
 Br (!dS) (
 zQb prog ds w6 λw7=>
 R (.returned (.tuple #[.int .i64 0,.int .i64 0,.int .i64 0,.int .i64 1])) w7) (
 Br (n0 == 0) (
 zQb prog ds w6 λw8=>
 R (.returned (.tuple #[.int .i64 0,.int .i64 0,.int .i64 0,.int .i64 0])) w8) (
 IntKind.i64=IntKind.i64/\(366:Int) ≠ 0/\
 xVe R n0 (IntKind.i64.wrap ((IntKind.i64.wrap (n0.tdiv 366))+1)) ds w6))
theorem F234_p:Pl prog f234 [iS 0] xWU:=λR=>
 pc 6 (rest [iS 0,iS 6] (xVe R) (bk 0 (rest [iS 0,iS 6] (xVG R) (pc 1 (rest [iS 6,iS 7,iS 8] (xK4 R) (bk 2 (rest [iS 6,iS 7,iS 8] (xKc R) lf) (lp [iS 7,iS 8] [iS 6,iS 7,iS 8] (xK7 R) zXL λJ1=>lf))))) (lp [iS 6] [iS 0,iS 6] (xZx R) zXL λJ1=>lf)))
theorem yW7 (n0:Int) (w:World) (R:Rt) (h:xWU R n0 [] w):Calls prog 234 #[.int .i64 n0] w R:=
 plC F234_p func234 h
def xKp(R:Rt)(n0 n1:Int)(ds:Ds)(w:World):Prop:=
 Calls prog 154 #[.int .i64 n0] w λe w1=>
 ∃s7:ByteArray,e=.returned (.string s7)/\
 Calls prog 155 #[.string (⟨#[48]⟩:ByteArray),.int .i64 (IntKind.i64.wrap (n1 - (s7.size:Int)))] w1 λe w2=>
 ∃sW:ByteArray,e=.returned (.string sW)/\
 ((sW.size+s7.size:Nat):Int)<=9223372036854775807/\
 zQb prog ds w2 λw3=>
 R (.returned (.string (sW ++ s7))) w3
theorem F235_p:Pl prog f235 [iS 0,iS 1] xKp:=λR=>
 lf
theorem yW6 (n0 n1:Int) (w:World) (R:Rt) (h:xKp R n0 n1 [] w):Calls prog 235 #[.int .i64 n0,.int .i64 n1] w R:=
 plC F235_p func235 h
def xYn(R:Rt)(n0:Int)(ds:Ds)(w:World):Prop:=
 Calls prog 234 #[.int .i64 n0] w λe w1=>
 ∃il:Int,∃ez:Int,∃rj:Int,∃n9_3:Int,e=.returned (.tuple #[.int .i64 il,.int .i64 ez,.int .i64 rj,.int .i64 n9_3])/\
 Calls prog 235 #[.int .i64 il,.int .i64 4] w1 λe w2=>
 ∃xh:ByteArray,e=.returned (.string xh)/\
 Calls prog 235 #[.int .i64 ez,.int .i64 2] w2 λe w3=>
 ∃xp:ByteArray,e=.returned (.string xp)/\
 ((xh.size+xp.size:Nat):Int)<=9223372036854775807/\
 Calls prog 235 #[.int .i64 rj,.int .i64 2] w3 λe w4=>
 ∃s20:ByteArray,e=.returned (.string s20)/\
 (((xh ++ xp).size+s20.size:Nat):Int)<=9223372036854775807/\
 zQb prog ds w4 λw5=>
 R (.returned (.string ((xh ++ xp) ++ s20))) w5
theorem F225_p:Pl prog f225 [iS 0] xYn:=λR=>
 lf
theorem yVI (n0:Int) (w:World) (R:Rt) (h:xYn R n0 [] w):Calls prog 225 #[.int .i64 n0] w R:=
 plC F225_p func225 h
def xWs(R:Rt)(n0:Int)(ds:Ds)(w:World):Prop:=
 Calls prog 191 #[.int .i64 n0] w λe w1=>
 ∃b5:Bool,e=.returned (.bool b5)/\
 Br (!b5) (
 zQb prog ds w1 λw2=>
 R (.returned (.tuple #[.string (⟨#[]⟩:ByteArray),.int .i64 1])) w2) (
 Br (n0 == 0) (
 zQb prog ds w1 λw3=>
 R (.returned (.tuple #[.string (⟨#[32,32,32,32,32,32,32,32]⟩:ByteArray),.int .i64 0])) w3) (
 Calls prog 225 #[.int .i64 n0] w1 λe w4=>
 ∃uO:ByteArray,e=.returned (.string uO)/\
 zQb prog ds w4 λw5=>
 R (.returned (.tuple #[.string uO,.int .i64 0])) w5))
theorem F212_p:Pl prog f212 [iS 0] xWs:=λR=>
 lf
theorem yVW (n0:Int) (w:World) (R:Rt) (h:xWs R n0 [] w):Calls prog 212 #[.int .i64 n0] w R:=
 plC F212_p func212 h
end Go.Proofs.YtaeecpjhfmcliaaGreatDoor
/- Shallow texts of functions, printed by program, each checked by the kernel against the loaded code. No condition. -/
namespace Go.Proofs.YtaeecpjhfmcliaaGreatDoor
open Go.Sh Tryz
def xWg(R:Rt)(aW:ByteArray)(aI aX:Int)(aY:Bool)(bC cr:Int)(du:ByteArray)(ds:Ds)(w:World):Prop:=
 alE (.cells #[.string aW,.int .i64 aI,.int .i64 aX,.bool aY] 129) w λr2 w1=>
 alE (.cells #[.int .i64 bC,.int .i64 cr,.string du] 73) w1 λr3 w2=>
 ∃n6,w2.cell? ((⟨r3,0,none⟩:Addr).add 1)=some (.int .i64 n6)/\
 ∃n8,w2.cell? ((⟨r3,0,none⟩:Addr).add 1)=some (.int .i64 n8)/\
 0<=(IntKind.i64.wrap (n8+1))/\(IntKind.i64.wrap (n8+1)).toNat<=(⟨#[70,84]⟩:ByteArray).size/\0<=n6/\n6.toNat<=(IntKind.i64.wrap (n8+1)).toNat/\
 zQb prog ds w2 λw3=>
 R (.returned (.string ((⟨#[70,84]⟩:ByteArray).extract n6.toNat ((IntKind.i64.wrap (n8+1)).toNat)))) w3
theorem F180_p:Pl prog f180 [aS 0 [.str,.int .i64,.int .i64,.bool],aS 1 [.int .i64,.int .i64,.str]] xWg:=λR=>
 lf
theorem yVx (aW:ByteArray) (aI aX:Int) (aY:Bool) (bC cr:Int) (du:ByteArray) (w:World) (R:Rt) (h:xWg R aW aI aX aY bC cr du [] w):Calls prog 180 #[.agg #[.string aW,.int .i64 aI,.int .i64 aX,.bool aY],.agg #[.int .i64 bC,.int .i64 cr,.string du]] w R:=
 plC F180_p func180 h
def xYk(R:Rt)(aW:ByteArray)(aI aX:Int)(aY:Bool)(bC cr:Int)(du:ByteArray)(ds:Ds)(w:World):Prop:=
 alE (.cells #[.string aW,.int .i64 aI,.int .i64 aX,.bool aY] 129) w λr2 w1=>
 alE (.cells #[.int .i64 bC,.int .i64 cr,.string du] 73) w1 λr3 w2=>
 ∃n9,w2.cell? ((⟨r3,0,none⟩:Addr).add 1)=some (.int .i64 n9)/\
 ∃dT,w2.cell? ((⟨r2,0,none⟩:Addr).add 2)=some (.int .i64 dT)/\
 Calls prog 121 #[.int .i64 n9,.int .i64 dT] w2 λe w3=>
 ∃uW:ByteArray,∃ei:Int,e=.returned (.tuple #[.string uW,.int .i64 ei])/\
 zQb prog ds w3 λw4=>
 R (.returned (.string uW)) w4
theorem F182_p:Pl prog f182 [aS 0 [.str,.int .i64,.int .i64,.bool],aS 1 [.int .i64,.int .i64,.str]] xYk:=λR=>
 lf
theorem yWL (aW:ByteArray) (aI aX:Int) (aY:Bool) (bC cr:Int) (du:ByteArray) (w:World) (R:Rt) (h:xYk R aW aI aX aY bC cr du [] w):Calls prog 182 #[.agg #[.string aW,.int .i64 aI,.int .i64 aX,.bool aY],.agg #[.int .i64 bC,.int .i64 cr,.string du]] w R:=
 plC F182_p func182 h
def xWx(R:Rt)(aW:ByteArray)(aI aX:Int)(aY:Bool)(bC cr:Int)(du:ByteArray)(ds:Ds)(w:World):Prop:=
 alE (.cells #[.string aW,.int .i64 aI,.int .i64 aX,.bool aY] 129) w λr2 w1=>
 alE (.cells #[.int .i64 bC,.int .i64 cr,.string du] 73) w1 λr3 w2=>
 ∃n9,w2.cell? ((⟨r3,0,none⟩:Addr).add 1)=some (.int .i64 n9)/\
 Calls prog 212 #[.int .i64 n9] w2 λe w3=>
 ∃uX:ByteArray,∃jx:Int,e=.returned (.tuple #[.string uX,.int .i64 jx])/\
 zQb prog ds w3 λw4=>
 R (.returned (.string uX)) w4
theorem F184_p:Pl prog f184 [aS 0 [.str,.int .i64,.int .i64,.bool],aS 1 [.int .i64,.int .i64,.str]] xWx:=λR=>
 lf
theorem yVr (aW:ByteArray) (aI aX:Int) (aY:Bool) (bC cr:Int) (du:ByteArray) (w:World) (R:Rt) (h:xWx R aW aI aX aY bC cr du [] w):Calls prog 184 #[.agg #[.string aW,.int .i64 aI,.int .i64 aX,.bool aY],.agg #[.int .i64 bC,.int .i64 cr,.string du]] w R:=
 plC F184_p func184 h
def xWD(R:Rt)(aW:ByteArray)(aI aX:Int)(aY:Bool)(bC cr:Int)(du:ByteArray)(ds:Ds)(w:World):Prop:=
 alE (.cells #[.string aW,.int .i64 aI,.int .i64 aX,.bool aY] 129) w λr2 w1=>
 alE (.cells #[.int .i64 bC,.int .i64 cr,.string du] 73) w1 λr3 w2=>
 ∃n6,w2.cell? ((⟨r3,0,none⟩:Addr).add 1)=some (.int .i64 n6)/\
 Br (n6 == 0) (
 ∃n9,w2.cell? ((⟨r2,0,none⟩:Addr).add 2)=some (.int .i64 n9)/\
 Calls prog 155 #[.string (⟨#[32]⟩:ByteArray),.int .i64 n9] w2 λe w3=>
 ∃uO:ByteArray,e=.returned (.string uO)/\
 zQb prog ds w3 λw4=>
 R (.returned (.string uO)) w4) (
 ∃jA,w2.cell? ((⟨r2,0,none⟩:Addr).add 0)=some (.string jA)/\
 ∃eb,w2.cell? ((⟨r2,0,none⟩:Addr).add 1)=some (.int .i64 eb)/\
 ∃jB,w2.cell? ((⟨r2,0,none⟩:Addr).add 2)=some (.int .i64 jB)/\
 ∃jC,w2.cell? ((⟨r2,0,none⟩:Addr).add 3)=some (.bool jC)/\
 ∃jV,w2.cell? ((⟨r3,0,none⟩:Addr).add 0)=some (.int .i64 jV)/\
 ∃ei,w2.cell? ((⟨r3,0,none⟩:Addr).add 1)=some (.int .i64 ei)/\
 ∃uY,w2.cell? ((⟨r3,0,none⟩:Addr).add 2)=some (.string uY)/\
 Calls prog 182 #[.agg #[.string jA,.int .i64 eb,.int .i64 jB,.bool jC],.agg #[.int .i64 jV,.int .i64 ei,.string uY]] w2 λe w5=>
 ∃qP:ByteArray,e=.returned (.string qP)/\
 zQb prog ds w5 λw6=>
 R (.returned (.string qP)) w6)
theorem F188_p:Pl prog f188 [aS 0 [.str,.int .i64,.int .i64,.bool],aS 1 [.int .i64,.int .i64,.str]] xWD:=λR=>
 lf
theorem yVq (aW:ByteArray) (aI aX:Int) (aY:Bool) (bC cr:Int) (du:ByteArray) (w:World) (R:Rt) (h:xWD R aW aI aX aY bC cr du [] w):Calls prog 188 #[.agg #[.string aW,.int .i64 aI,.int .i64 aX,.bool aY],.agg #[.int .i64 bC,.int .i64 cr,.string du]] w R:=
 plC F188_p func188 h
end Go.Proofs.YtaeecpjhfmcliaaGreatDoor
/- Shallow texts of functions, printed by program, each checked by the kernel against the loaded code. No condition. -/
namespace Go.Proofs.YtaeecpjhfmcliaaGreatDoor
open Go.Sh Tryz
def xVy(R:Rt)(l3:SV)(ds:Ds)(w:World):Prop:=
 alE (.cells #[.int .u8 26] 5) w λr23 w1=>
 ∃bX:SV,∃w2,(Builtin.append_ #[22,22] 22 #[l3.v,.slice (some ⟨r23,0,none⟩) 1 1]).run prog w1=.ok (bX.v) w2/\
 zQb prog ds w2 λw3=>
 R (.returned (bX.v)) w3
def xKw (R:Rt) (J1:(SV × Int)->World->Prop) (p1:Option Addr) (l3 l9:SV) (i6 dT:Int) (ds:Ds) (w:World):Prop:=
 Br (decide (dT<i6)) (
 ∃a4,l9.a=some a4/\0<=dT/\dT<(l9.len:Int)/\
 ∃uZ,w.cell? ((a4.add (dT.toNat * 2)).add 0)=some (.bool uZ)/\
 ∃cR:SV,w.cell? ((a4.add (dT.toNat * 2)).add 1)=some (cR.v)/\
 alE (.cells #[.bool false,.slice none 0 0] 67) w λr5 w5=>
 stA prog 67 (⟨r5,0,none⟩:Addr) #[.bool uZ,cR.v] w5 λw6=>
 zQg p1 λa7=>
 ∃dI:SV,w6.cell? (a7.add 1)=some (dI.v)/\
 ∃u0,w6.cell? ((⟨r5,0,none⟩:Addr).add 0)=some (.bool u0)/\
 ∃bY:SV,w6.cell? ((⟨r5,0,none⟩:Addr).add 1)=some (bY.v)/\
 Calls prog 158 #[dI.v,.agg #[.bool u0,bY.v]] w6 λe w8=>
 ∃dg:SV,e=.returned (dg.v)/\
 ∃dZ:SV,∃w9,(Builtin.append_ #[22,22] 22 #[l3.v,dg.v]).run prog w8=.ok (dZ.v) w9/\
 J1 (dZ,(IntKind.i64.wrap (dT+1))) w9) (
 xVy R l3 ds w)
def xW4(R:Rt)(p1:Option Addr)(l3 l9:SV)(i6 dT:Int)(ds:Ds)(w:World):Prop:=
 zQE (λ(J1:(SV × Int)->World->Prop) (s:SV × Int) (w:World)=>xKw R J1 p1 s.1 l9 i6 s.2 ds w) (l3,dT) w
def xVB(R:Rt)(ax:Int)(ah ai:SV)(ds:Ds)(w:World):Prop:=
 alE (.cells #[.int .i64 ax,ah.v,ai.v] 35) w λr1 aN=>
 ∃kE,aN.cell? ((⟨r1,0,none⟩:Addr).add 0)=some (.int .i64 kE)/\
 ∃dB:SV,aN.cell? ((⟨r1,0,none⟩:Addr).add 1)=some (dB.v)/\
 ∃dC:SV,aN.cell? ((⟨r1,0,none⟩:Addr).add 2)=some (dC.v)/\
 Calls prog 157 #[.agg #[.int .i64 kE,dB.v,dC.v]] aN λe aV=>
 ∃l7:SV,e=.returned (l7.v)/\
 ∃l9:SV,aV.cell? ((⟨r1,0,none⟩:Addr).add 2)=some (l9.v)/\
 xW4 R (some (⟨r1,0,none⟩:Addr)) l7 l9 (l9.len:Int) 0 ds aV
theorem F123_p:Pl prog f123 [aS 0 [.int .i64,.slice,.slice]] xVB:=λR=>
 pc 3 (rest [pS 1,lS 3,lS 9,iS 10,iS 11] (xW4 R) (bk 0 (rest [lS 3] (xVy R) lf) (lp [lS 3,iS 11] [pS 1,lS 3,lS 9,iS 10,iS 11] (xKw R) zXL λJ1=>lf)))
theorem yVv (ax:Int) (ah ai:SV) (w:World) (R:Rt) (h:xVB R ax ah ai [] w):Calls prog 123 #[.agg #[.int .i64 ax,ah.v,ai.v]] w R:=
 plC F123_p func123 h
def F86_1(R:Rt)(ax:Int)(ah ai:SV)(ds:Ds)(w:World):Prop:=
 alE (.cells #[.int .i64 ax,ah.v,ai.v] 35) w λr1 w1=>
 ∃iK,w1.cell? ((⟨r1,0,none⟩:Addr).add 0)=some (.int .i64 iK)/\
 ∃dA:SV,w1.cell? ((⟨r1,0,none⟩:Addr).add 1)=some (dA.v)/\
 ∃cE:SV,w1.cell? ((⟨r1,0,none⟩:Addr).add 2)=some (cE.v)/\
 Calls prog 106 #[.agg #[.int .i64 iK,dA.v,cE.v]] w1 λe w2=>
 ∃n6:Int,e=.returned (.int .i64 n6)/\
 Br (n6 != 0) (
 zQb prog ds w2 λw3=>
 R (.returned (.tuple #[.slice none 0 0,.int .i64 n6])) w3) (
 ∃eX,w2.cell? ((⟨r1,0,none⟩:Addr).add 0)=some (.int .i64 eX)/\
 ∃bv:SV,w2.cell? ((⟨r1,0,none⟩:Addr).add 1)=some (bv.v)/\
 ∃bw:SV,w2.cell? ((⟨r1,0,none⟩:Addr).add 2)=some (bw.v)/\
 Calls prog 123 #[.agg #[.int .i64 eX,bv.v,bw.v]] w2 λe w4=>
 ∃cw:SV,e=.returned (cw.v)/\
 zQb prog ds w4 λw5=>
 R (.returned (.tuple #[cw.v,.int .i64 0])) w5)
theorem F86_p:Pl prog f86 [aS 0 [.int .i64,.slice,.slice]] F86_1:=λR=>
 lf
theorem xQc (ax:Int) (ah ai:SV) (w:World) (R:Rt) (h:F86_1 R ax ah ai [] w):Calls prog 86 #[.agg #[.int .i64 ax,ah.v,ai.v]] w R:=
 plC F86_p func86 h
end Go.Proofs.YtaeecpjhfmcliaaGreatDoor
/- Shallow texts of functions, printed by program, each checked by the kernel against the loaded code. No condition. -/
namespace Go.Proofs.YtaeecpjhfmcliaaGreatDoor
open Go.Sh Tryz
def xVN(R:Rt)(s0:ByteArray)(ds:Ds)(w:World):Prop:=
 alE (.cells #[.int .i64 0,.int .i64 0,.string (⟨#[]⟩:ByteArray)] 73) w λr2 w1=>
 alE (.cells #[.int .i64 0,.int .i64 0,.string (⟨#[]⟩:ByteArray)] 73) w1 λr4 w2=>
 stA prog 73 (⟨r4,0,none⟩:Addr) #[.int .i64 1,.int .i64 0,.string (⟨#[]⟩:ByteArray)] w2 λw3=>
 Br (s0.toList == (⟨#[84]⟩:ByteArray).toList) (
 st1 ((⟨r4,0,none⟩:Addr).add 1) (.int .i64 1) w3 λw4=>
 ∃il,w4.cell? ((⟨r4,0,none⟩:Addr).add 0)=some (.int .i64 il)/\
 ∃ez,w4.cell? ((⟨r4,0,none⟩:Addr).add 1)=some (.int .i64 ez)/\
 ∃pb,w4.cell? ((⟨r4,0,none⟩:Addr).add 2)=some (.string pb)/\
 Br (s0.toList == (⟨#[84]⟩:ByteArray).toList) (
 stA prog 73 (⟨r2,0,none⟩:Addr) #[.int .i64 il,.int .i64 ez,.string pb] w4 λw5=>
 zQb prog ds w5 λw6=>
 ∃ag,w6.cell? ((⟨r2,0,none⟩:Addr).add 0)=some (.int .i64 ag)/\
 ∃aj,w6.cell? ((⟨r2,0,none⟩:Addr).add 1)=some (.int .i64 aj)/\
 ∃ak,w6.cell? ((⟨r2,0,none⟩:Addr).add 2)=some (.string ak)/\
 R (.returned (.tuple #[.agg #[.int .i64 ag,.int .i64 aj,.string ak],.bool true])) w6) (
 stA prog 73 (⟨r2,0,none⟩:Addr) #[.int .i64 il,.int .i64 ez,.string pb] w4 λw7=>
 zQb prog ds w7 λw8=>
 ∃ag,w8.cell? ((⟨r2,0,none⟩:Addr).add 0)=some (.int .i64 ag)/\
 ∃aj,w8.cell? ((⟨r2,0,none⟩:Addr).add 1)=some (.int .i64 aj)/\
 ∃ak,w8.cell? ((⟨r2,0,none⟩:Addr).add 2)=some (.string ak)/\
 R (.returned (.tuple #[.agg #[.int .i64 ag,.int .i64 aj,.string ak],.bool (s0.toList == (⟨#[70]⟩:ByteArray).toList)])) w8)) (
 ∃il,w3.cell? ((⟨r4,0,none⟩:Addr).add 0)=some (.int .i64 il)/\
 ∃ez,w3.cell? ((⟨r4,0,none⟩:Addr).add 1)=some (.int .i64 ez)/\
 ∃pb,w3.cell? ((⟨r4,0,none⟩:Addr).add 2)=some (.string pb)/\
 Br (s0.toList == (⟨#[84]⟩:ByteArray).toList) (
 stA prog 73 (⟨r2,0,none⟩:Addr) #[.int .i64 il,.int .i64 ez,.string pb] w3 λw9=>
 zQb prog ds w9 λaN=>
 ∃ag,aN.cell? ((⟨r2,0,none⟩:Addr).add 0)=some (.int .i64 ag)/\
 ∃aj,aN.cell? ((⟨r2,0,none⟩:Addr).add 1)=some (.int .i64 aj)/\
 ∃ak,aN.cell? ((⟨r2,0,none⟩:Addr).add 2)=some (.string ak)/\
 R (.returned (.tuple #[.agg #[.int .i64 ag,.int .i64 aj,.string ak],.bool true])) aN) (
 stA prog 73 (⟨r2,0,none⟩:Addr) #[.int .i64 il,.int .i64 ez,.string pb] w3 λaV=>
 zQb prog ds aV λaO=>
 ∃ag,aO.cell? ((⟨r2,0,none⟩:Addr).add 0)=some (.int .i64 ag)/\
 ∃aj,aO.cell? ((⟨r2,0,none⟩:Addr).add 1)=some (.int .i64 aj)/\
 ∃ak,aO.cell? ((⟨r2,0,none⟩:Addr).add 2)=some (.string ak)/\
 R (.returned (.tuple #[.agg #[.int .i64 ag,.int .i64 aj,.string ak],.bool (s0.toList == (⟨#[70]⟩:ByteArray).toList)])) aO))
theorem F181_p:Pl prog f181 [sS 0] xVN:=λR=>
 lf
theorem yWB (s0:ByteArray) (w:World) (R:Rt) (h:xVN R s0 [] w):Calls prog 181 #[.string s0] w R:=
 plC F181_p func181 h
def xVt(R:Rt)(s0:ByteArray)(ds:Ds)(w:World):Prop:=
 alE (.cells #[.int .i64 0,.int .i64 0,.string (⟨#[]⟩:ByteArray)] 73) w λr2 w1=>
 Calls prog 211 #[.string s0] w1 λe w2=>
 ∃n5:Int,e=.returned (.int .i64 n5)/\
 Calls prog 190 #[.string s0,.string (⟨#[32]⟩:ByteArray)] w2 λe w3=>
 ∃s8:ByteArray,e=.returned (.string s8)/\
 stA prog 73 (⟨r2,0,none⟩:Addr) #[.int .i64 2,.int .i64 n5,.string (⟨#[]⟩:ByteArray)] w3 λw4=>
 zQb prog ds w4 λw5=>
 ∃ag,w5.cell? ((⟨r2,0,none⟩:Addr).add 0)=some (.int .i64 ag)/\
 ∃aj,w5.cell? ((⟨r2,0,none⟩:Addr).add 1)=some (.int .i64 aj)/\
 ∃ak,w5.cell? ((⟨r2,0,none⟩:Addr).add 2)=some (.string ak)/\
 R (.returned (.tuple #[.agg #[.int .i64 ag,.int .i64 aj,.string ak],.bool (!(s8.toList == (⟨#[]⟩:ByteArray).toList))])) w5
theorem F183_p:Pl prog f183 [sS 0] xVt:=λR=>
 lf
theorem yWo (s0:ByteArray) (w:World) (R:Rt) (h:xVt R s0 [] w):Calls prog 183 #[.string s0] w R:=
 plC F183_p func183 h
def xWa(R:Rt)(s0:ByteArray)(ds:Ds)(w:World):Prop:=
 alE (.cells #[.int .i64 0,.int .i64 0,.string (⟨#[]⟩:ByteArray)] 73) w λr2 w1=>
 Calls prog 213 #[.string s0] w1 λe w2=>
 ∃rB:Int,∃rC:Bool,e=.returned (.tuple #[.int .i64 rB,.bool rC])/\
 stA prog 73 (⟨r2,0,none⟩:Addr) #[.int .i64 3,.int .i64 rB,.string (⟨#[]⟩:ByteArray)] w2 λw3=>
 zQb prog ds w3 λw4=>
 ∃ag,w4.cell? ((⟨r2,0,none⟩:Addr).add 0)=some (.int .i64 ag)/\
 ∃aj,w4.cell? ((⟨r2,0,none⟩:Addr).add 1)=some (.int .i64 aj)/\
 ∃ak,w4.cell? ((⟨r2,0,none⟩:Addr).add 2)=some (.string ak)/\
 R (.returned (.tuple #[.agg #[.int .i64 ag,.int .i64 aj,.string ak],.bool rC])) w4
theorem F185_p:Pl prog f185 [sS 0] xWa:=λR=>
 lf
theorem yWF (s0:ByteArray) (w:World) (R:Rt) (h:xWa R s0 [] w):Calls prog 185 #[.string s0] w R:=
 plC F185_p func185 h
def xWr(R:Rt)(s0:ByteArray)(ds:Ds)(w:World):Prop:=
 alE (.cells #[.int .i64 0,.int .i64 0,.string (⟨#[]⟩:ByteArray)] 73) w λr2 w1=>
 Calls prog 119 #[.string s0,.string (⟨#[32]⟩:ByteArray)] w1 λe w2=>
 ∃s5:ByteArray,e=.returned (.string s5)/\
 stA prog 73 (⟨r2,0,none⟩:Addr) #[.int .i64 4,.int .i64 0,.string s5] w2 λw3=>
 zQb prog ds w3 λw4=>
 ∃ag,w4.cell? ((⟨r2,0,none⟩:Addr).add 0)=some (.int .i64 ag)/\
 ∃aj,w4.cell? ((⟨r2,0,none⟩:Addr).add 1)=some (.int .i64 aj)/\
 ∃ak,w4.cell? ((⟨r2,0,none⟩:Addr).add 2)=some (.string ak)/\
 R (.returned (.tuple #[.agg #[.int .i64 ag,.int .i64 aj,.string ak],.bool true])) w4
theorem F187_p:Pl prog f187 [sS 0] xWr:=λR=>
 lf
theorem yVA (s0:ByteArray) (w:World) (R:Rt) (h:xWr R s0 [] w):Calls prog 187 #[.string s0] w R:=
 plC F187_p func187 h
def xYs(R:Rt)(s0:ByteArray)(ds:Ds)(w:World):Prop:=
 alE (.cells #[.int .i64 0,.int .i64 0,.string (⟨#[]⟩:ByteArray)] 73) w λr2 w1=>
 Calls prog 211 #[.string s0] w1 λe w2=>
 ∃n5:Int,e=.returned (.int .i64 n5)/\
 stA prog 73 (⟨r2,0,none⟩:Addr) #[.int .i64 2,.int .i64 n5,.string (⟨#[]⟩:ByteArray)] w2 λw3=>
 zQb prog ds w3 λw4=>
 ∃ag,w4.cell? ((⟨r2,0,none⟩:Addr).add 0)=some (.int .i64 ag)/\
 ∃aj,w4.cell? ((⟨r2,0,none⟩:Addr).add 1)=some (.int .i64 aj)/\
 ∃ak,w4.cell? ((⟨r2,0,none⟩:Addr).add 2)=some (.string ak)/\
 R (.returned (.tuple #[.agg #[.int .i64 ag,.int .i64 aj,.string ak],.bool true])) w4
theorem F189_p:Pl prog f189 [sS 0] xYs:=λR=>
 lf
theorem yW5 (s0:ByteArray) (w:World) (R:Rt) (h:xYs R s0 [] w):Calls prog 189 #[.string s0] w R:=
 plC F189_p func189 h
def xXh(R:Rt)(s0:ByteArray)(ds:Ds)(w:World):Prop:=
 Br (s0.toList == (⟨#[32,32,32,32,32,32,32,32]⟩:ByteArray).toList) (
 zQb prog ds w λw1=>
 R (.returned (.tuple #[.int .i64 0,.bool true])) w1) (
 Br ((s0.size:Int) != 8) (
 zQb prog ds w λw2=>
 R (.returned (.tuple #[.int .i64 0,.bool false])) w2) (
 Calls prog 190 #[.string s0,.string (⟨#[48,49,50,51,52,53,54,55,56,57]⟩:ByteArray)] w λe w3=>
 ∃qP:ByteArray,e=.returned (.string qP)/\
 Br (!(qP.toList == (⟨#[]⟩:ByteArray).toList)) (
 zQb prog ds w3 λw4=>
 R (.returned (.tuple #[.int .i64 0,.bool false])) w4) (
 dwE w3 λw5=>
 0<=(4:Int)/\(4:Int).toNat<=s0.size/\0<=(4:Int).toNat/\
 0<=(6:Int)/\(6:Int).toNat<=s0.size/\0<=(4:Int)/\(4:Int).toNat<=(6:Int).toNat/\
 s0.size<=s0.size/\0<=(6:Int)/\(6:Int).toNat<=s0.size/\
 Calls prog 211 #[.string (s0.extract 0 ((4:Int).toNat))] w5 λe w6=>
 ∃iZ:Int,e=.returned (.int .i64 iZ)/\
 Calls prog 211 #[.string (s0.extract ((4:Int).toNat) ((6:Int).toNat))] w6 λe w7=>
 ∃df:Int,e=.returned (.int .i64 df)/\
 Calls prog 211 #[.string (s0.extract ((6:Int).toNat) s0.size)] w7 λe w8=>
 ∃cp:Int,e=.returned (.int .i64 cp)/\
 Calls prog 226 #[.int .i64 iZ,.int .i64 df,.int .i64 cp] w8 λe w9=>
 ∃eQ:Int,∃fq:Int,e=.returned (.tuple #[.int .i64 eQ,.int .i64 fq])/\
 zQb prog ds w9 λaN=>
 R (.returned (.tuple #[.int .i64 eQ,.bool (fq == 0)])) aN)))
theorem F213_p:Pl prog f213 [sS 0] xXh:=λR=>
 lf
theorem yWS (s0:ByteArray) (w:World) (R:Rt) (h:xXh R s0 [] w):Calls prog 213 #[.string s0] w R:=
 plC F213_p func213 h
def yXO(R:Rt)(n3 n4:Int)(ds:Ds)(w:World):Prop:=
 zQb prog ds w λw1=>
 R (.returned (.int .i64 (IntKind.i64.wrap (n3 * n4)))) w1
def xKh (R:Rt) (J1:(Int × Int)->World->Prop) (s0:ByteArray) (n3 n4 cu gb:Int) (ds:Ds) (w:World):Prop:=
 Br (decide (gb<cu)) (
 ∃b32:UInt8,0<=gb/\s0[gb.toNat]?=some b32/\
 Br (decide ((b32.toNat:Int)<48)) (
 yXO R n3 n4 ds w) (
 ∃u6:UInt8,0<=gb/\s0[gb.toNat]?=some u6/\
 Br (decide ((u6.toNat:Int) > 57)) (
 yXO R n3 n4 ds w) (
 ∃b44:UInt8,0<=gb/\s0[gb.toNat]?=some b44/\
 ∃dr:Int,∃w2,(Builtin.min_ #[3,3] 3 #[.int .i64 (IntKind.i64.wrap ((IntKind.i64.wrap (n4 * 10))+(IntKind.i64.wrap (IntKind.u8.wrap ((b44.toNat:Int) - 48))))),.int .i64 1000000000000000]).run prog w=.ok (.int .i64 dr) w2/\
 J1 (dr,(IntKind.i64.wrap (gb+1))) w2))) (
 yXO R n3 n4 ds w)
def xWY(R:Rt)(s0:ByteArray)(n3 n4 cu gb:Int)(ds:Ds)(w:World):Prop:=
 zQE (λ(J1:(Int × Int)->World->Prop) (s:Int × Int) (w:World)=>xKh R J1 s0 n3 s.1 cu s.2 ds w) (n4,gb) w
def zV5(R:Rt)(s0:ByteArray)(n3:Int)(ds:Ds)(w:World):Prop:=
 xWY R s0 n3 0 (s0.size:Int) 0 ds w
def xVp(R:Rt)(s0:ByteArray)(ds:Ds)(w:World):Prop:=
 Calls prog 224 #[.string s0,.string (⟨#[32]⟩:ByteArray)] w λe w3=>
 ∃s7:ByteArray,e=.returned (.string s7)/\
 Br (!(s7.toList == (⟨#[]⟩:ByteArray).toList)) (
 ∃cP:UInt8,0<=(0:Int)/\s7[(0:Int).toNat]?=some cP/\
 Br ((cP.toNat:Int) == 45) (
 ∃u7:UInt8,0<=(0:Int)/\s7[(0:Int).toNat]?=some u7/\
 Br ((u7.toNat:Int) == 45) (
 s7.size<=s7.size/\0<=(1:Int)/\(1:Int).toNat<=s7.size/\
 zV5 R (s7.extract ((1:Int).toNat) s7.size) (-1) ds w3) (
 s7.size<=s7.size/\0<=(1:Int)/\(1:Int).toNat<=s7.size/\
 zV5 R (s7.extract ((1:Int).toNat) s7.size) 1 ds w3)) (
 ∃ke:UInt8,0<=(0:Int)/\s7[(0:Int).toNat]?=some ke/\
 Br ((ke.toNat:Int) == 43) (
 ∃u7:UInt8,0<=(0:Int)/\s7[(0:Int).toNat]?=some u7/\
 Br ((u7.toNat:Int) == 45) (
 s7.size<=s7.size/\0<=(1:Int)/\(1:Int).toNat<=s7.size/\
 zV5 R (s7.extract ((1:Int).toNat) s7.size) (-1) ds w3) (
 s7.size<=s7.size/\0<=(1:Int)/\(1:Int).toNat<=s7.size/\
 zV5 R (s7.extract ((1:Int).toNat) s7.size) 1 ds w3)) (
 zV5 R s7 1 ds w3))) (
 zV5 R s7 1 ds w3)
theorem F211_p:Pl prog f211 [sS 0] xVp:=λR=>
 pc 5 (rest [sS 0,iS 3] (zV5 R) (pc 2 (rest [sS 0,iS 3,iS 4,iS 26,iS 27] (xWY R) (bk 0 (rest [iS 3,iS 4] (yXO R) lf) (lp [iS 4,iS 27] [sS 0,iS 3,iS 4,iS 26,iS 27] (xKh R) zXL λJ1=>lf)))))
theorem yYc (s0:ByteArray) (w:World) (R:Rt) (h:xVp R s0 [] w):Calls prog 211 #[.string s0] w R:=
 plC F211_p func211 h
end Go.Proofs.YtaeecpjhfmcliaaGreatDoor
/- Shallow texts of functions, printed by program, each checked by the kernel against the loaded code. No condition. -/
namespace Go.Proofs.YtaeecpjhfmcliaaGreatDoor
open Go.Sh Tryz
def F18_1(R:Rt)(ds:Ds)(w:World):Prop:=
 zQb prog ds w λw1=>
 R (.returned (.bool true)) w1
def F18_2 (R:Rt) (J1:(Int)->World->Prop) (p2 p3:Option Addr) (n5:Int) (ds:Ds) (w:World):Prop:=
 zQg p2 λa2=>
 ∃oZ:SV,w.cell? (a2.add 2)=some (oZ.v)/\
 Br (decide (n5<(oZ.len:Int))) (
 dwE w λw3=>
 zQg p2 λa4=>
 ∃iC:SV,w3.cell? (a4.add 2)=some (iC.v)/\
 ∃a5,iC.a=some a5/\0<=n5/\n5<(iC.len:Int)/\
 ∃vc,w3.cell? ((a5.add (n5.toNat * 2)).add 0)=some (.bool vc)/\
 ∃lw:SV,w3.cell? ((a5.add (n5.toNat * 2)).add 1)=some (lw.v)/\
 zQg p3 λa6=>
 ∃nI:SV,w3.cell? (a6.add 2)=some (nI.v)/\
 ∃a7,nI.a=some a7/\0<=n5/\n5<(nI.len:Int)/\
 ∃oc,w3.cell? ((a7.add (n5.toNat * 2)).add 0)=some (.bool oc)/\
 ∃fy:SV,w3.cell? ((a7.add (n5.toNat * 2)).add 1)=some (fy.v)/\
 Calls prog 70 #[.agg #[.bool vc,lw.v],.agg #[.bool oc,fy.v]] w3 λe w8=>
 ∃zl:Bool,e=.returned (.bool zl)/\
 Br (!zl) (
 zQb prog ds w8 λw9=>
 R (.returned (.bool false)) w9) (
 J1 (IntKind.i64.wrap (n5+1)) w8)) (
 F18_1 R ds w)
def F18_3(R:Rt)(p2 p3:Option Addr)(n5:Int)(ds:Ds)(w:World):Prop:=
 zQE (λ(J1:(Int)->World->Prop) (s:Int) (w:World)=>F18_2 R J1 p2 p3 s ds w) n5 w
def F18_5(R:Rt)(ax:Int)(ah ai:SV)(bC:Int)(bg cy:SV)(ds:Ds)(w:World):Prop:=
 alE (.cells #[.int .i64 ax,ah.v,ai.v] 35) w λr2 aN=>
 alE (.cells #[.int .i64 bC,bg.v,cy.v] 35) aN λr3 aV=>
 ∃n7,aV.cell? (⟨r2,0,none⟩:Addr)=some (.int .i64 n7)/\
 ∃n9,aV.cell? (⟨r3,0,none⟩:Addr)=some (.int .i64 n9)/\
 Br (n7 != n9) (
 zQb prog ds aV λaO=>
 R (.returned (.bool false)) aO) (
 ∃cD:SV,aV.cell? ((⟨r2,0,none⟩:Addr).add 1)=some (cD.v)/\
 ∃fh:SV,aV.cell? ((⟨r3,0,none⟩:Addr).add 1)=some (fh.v)/\
 Calls prog 69 #[cD.v,fh.v] aV λe aH=>
 ∃ke:Bool,e=.returned (.bool ke)/\
 Br (!ke) (
 zQb prog ds aH λbq=>
 R (.returned (.bool false)) bq) (
 ∃cK:SV,aH.cell? ((⟨r2,0,none⟩:Addr).add 2)=some (cK.v)/\
 ∃bX:SV,aH.cell? ((⟨r3,0,none⟩:Addr).add 2)=some (bX.v)/\
 Br ((cK.len:Int) != (bX.len:Int)) (
 zQb prog ds aH λbp=>
 R (.returned (.bool false)) bp) (
 F18_3 R (some (⟨r2,0,none⟩:Addr)) (some (⟨r3,0,none⟩:Addr)) 0 ds aH)))
theorem F18_p:Pl prog f18 [aS 0 [.int .i64,.slice,.slice],aS 1 [.int .i64,.slice,.slice]] F18_5:=λR=>
 pc 4 (rest [pS 2,pS 3,iS 5] (F18_3 R) (bk 0 (rest [] (F18_1 R) lf) (lp [iS 5] [pS 2,pS 3,iS 5] (F18_2 R) zXL λJ1=>lf)))
theorem yY3 (ax:Int) (ah ai:SV) (bC:Int) (bg cy:SV) (w:World) (R:Rt) (h:F18_5 R ax ah ai bC bg cy [] w):Calls prog 18 #[.agg #[.int .i64 ax,ah.v,ai.v],.agg #[.int .i64 bC,bg.v,cy.v]] w R:=
 plC F18_p func18 h
end Go.Proofs.YtaeecpjhfmcliaaGreatDoor
