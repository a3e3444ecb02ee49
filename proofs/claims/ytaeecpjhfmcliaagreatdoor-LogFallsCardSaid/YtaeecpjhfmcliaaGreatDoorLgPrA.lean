import Derived.Test.YtaeecpjhfmcliaaGreatDoorProg
import Derived.Test.YtaeecpjhfmcliaaGreatDoorShTwentyEight
/- Shallow texts of functions, printed by program, each checked by the kernel against the loaded code. No condition. -/
set_option maxRecDepth 100000
set_option linter.unusedVariables false
namespace Go.Proofs.YtaeecpjhfmcliaaGreatDoor
open Go.Sh Tryz
def xWv(R:Rt)(au aJ:Int)(f7:ByteArray)(ds:Ds)(w:World):Prop:=
 alE (.cells #[.int .i64 au,.int .i64 aJ,.string f7] 73) w λr1 w1=>
 ∃s4,w1.cell? ((⟨r1,0,none⟩:Addr).add 2)=some (.string s4)/\
 Br (decide ((s4.size:Int) > 2048)) (
 zQb prog ds w1 λw2=>
 R (.returned (.int .i64 3)) w2) (
 ∃eH,w1.cell? ((⟨r1,0,none⟩:Addr).add 0)=some (.int .i64 eH)/\
 ∃dE,w1.cell? ((⟨r1,0,none⟩:Addr).add 1)=some (.int .i64 dE)/\
 ∃qK,w1.cell? ((⟨r1,0,none⟩:Addr).add 2)=some (.string qK)/\
 Calls prog 147 #[.agg #[.int .i64 eH,.int .i64 dE,.string qK]] w1 λe w3=>
 ∃b8:Bool,e=.returned (.bool b8)/\
 Br (!b8) (
 zQb prog ds w3 λw4=>
 R (.returned (.int .i64 1)) w4) (
 zQb prog ds w3 λw5=>
 R (.returned (.int .i64 0)) w5))
theorem F117_p:Pl prog f117 [aS 0 [.int .i64,.int .i64,.str]] xWv:=λR=>
 lf
theorem yWa (au aJ:Int) (f7:ByteArray) (w:World) (R:Rt) (h:xWv R au aJ f7 [] w):Calls prog 117 #[.agg #[.int .i64 au,.int .i64 aJ,.string f7]] w R:=
 plC F117_p func117 h
def yQH(R:Rt)(p1:Option Addr)(dk:Int)(ds:Ds)(w:World):Prop:=
 Br (dk == 0) (
 zQg p1 λa1=>
 ∃cr,w.cell? (a1.add 1)=some (.int .i64 cr)/\
 zQb prog ds w λw2=>
 R (.returned (.bool (cr == 0))) w2) (
 Br (dk == 1) (
 zQg p1 λa3=>
 ∃qL,w.cell? (a3.add 1)=some (.int .i64 qL)/\
 Br (qL == 0) (
 zQb prog ds w λw4=>
 R (.returned (.bool true)) w4) (
 zQg p1 λa5=>
 ∃tj,w.cell? (a5.add 1)=some (.int .i64 tj)/\
 zQb prog ds w λw6=>
 R (.returned (.bool (tj == 1))) w6)) (
 Br (dk == 2) (
 zQg p1 λa7=>
 ∃nh,w.cell? (a7.add 1)=some (.int .i64 nh)/\
 Calls prog 153 #[.int .i64 nh] w λe w8=>
 ∃qM:Bool,e=.returned (.bool qM)/\
 zQb prog ds w8 λw9=>
 R (.returned (.bool qM)) w9) (
 Br (dk == 3) (
 zQg p1 λeE=>
 ∃kC,w.cell? (eE.add 1)=some (.int .i64 kC)/\
 Calls prog 191 #[.int .i64 kC] w λe aR=>
 ∃b47:Bool,e=.returned (.bool b47)/\
 zQb prog ds aR λaM=>
 R (.returned (.bool b47)) aM) (
 zQg p1 λkV=>
 ∃qu,w.cell? kV=some (.int .i64 qu)/\
 zQb prog ds w λbo=>
 R (.returned (.bool (qu == 4))) bo))))
def xKS(R:Rt)(au aJ:Int)(f7:ByteArray)(ds:Ds)(w:World):Prop:=
 alE (.cells #[.int .i64 au,.int .i64 aJ,.string f7] 73) w λr1 bt=>
 ∃n4,bt.cell? (⟨r1,0,none⟩:Addr)=some (.int .i64 n4)/\
 Br (n4 != 4) (
 ∃s8,bt.cell? ((⟨r1,0,none⟩:Addr).add 2)=some (.string s8)/\
 Br (!(s8.toList == (⟨#[]⟩:ByteArray).toList)) (
 zQb prog ds bt λbB=>
 R (.returned (.bool false)) bB) (
 ∃dR,bt.cell? (⟨r1,0,none⟩:Addr)=some (.int .i64 dR)/\
 Br (dR == 4) (
 ∃m4,bt.cell? ((⟨r1,0,none⟩:Addr).add 1)=some (.int .i64 m4)/\
 Br (m4 != 0) (
 zQb prog ds bt λbG=>
 R (.returned (.bool false)) bG) (
 ∃dk,bt.cell? (⟨r1,0,none⟩:Addr)=some (.int .i64 dk)/\
 yQH R (some (⟨r1,0,none⟩:Addr)) dk ds bt)) (
 ∃dk,bt.cell? (⟨r1,0,none⟩:Addr)=some (.int .i64 dk)/\
 yQH R (some (⟨r1,0,none⟩:Addr)) dk ds bt))) (
 ∃dR,bt.cell? (⟨r1,0,none⟩:Addr)=some (.int .i64 dR)/\
 Br (dR == 4) (
 ∃m4,bt.cell? ((⟨r1,0,none⟩:Addr).add 1)=some (.int .i64 m4)/\
 Br (m4 != 0) (
 zQb prog ds bt λbI=>
 R (.returned (.bool false)) bI) (
 ∃dk,bt.cell? (⟨r1,0,none⟩:Addr)=some (.int .i64 dk)/\
 yQH R (some (⟨r1,0,none⟩:Addr)) dk ds bt)) (
 ∃dk,bt.cell? (⟨r1,0,none⟩:Addr)=some (.int .i64 dk)/\
 yQH R (some (⟨r1,0,none⟩:Addr)) dk ds bt))
theorem F147_p:Pl prog f147 [aS 0 [.int .i64,.int .i64,.str]] xKS:=λR=>
 pc 4 (rest [pS 1,iS 22] (yQH R) lf)
theorem yWL (au aJ:Int) (f7:ByteArray) (w:World) (R:Rt) (h:xKS R au aJ f7 [] w):Calls prog 147 #[.agg #[.int .i64 au,.int .i64 aJ,.string f7]] w R:=
 plC F147_p func147 h
def xKO(R:Rt)(n0:Int)(ds:Ds)(w:World):Prop:=
 Br (decide (n0 >= (-1000000000000000))) (
 zQb prog ds w λw1=>
 R (.returned (.bool (decide (n0<=1000000000000000)))) w1) (
 zQb prog ds w λw2=>
 R (.returned (.bool false)) w2)
theorem F153_p:Pl prog f153 [iS 0] xKO:=λR=>
 lf
theorem yWJ (n0:Int) (w:World) (R:Rt) (h:xKO R n0 [] w):Calls prog 153 #[.int .i64 n0] w R:=
 plC F153_p func153 h
def xJO(R:Rt)(n0:Int)(ds:Ds)(w:World):Prop:=
 Br (decide (n0 >= 0)) (
 zQb prog ds w λw1=>
 R (.returned (.bool (decide (n0<=3652059)))) w1) (
 zQb prog ds w λw2=>
 R (.returned (.bool false)) w2)
theorem F191_p:Pl prog f191 [iS 0] xJO:=λR=>
 lf
theorem yVR (n0:Int) (w:World) (R:Rt) (h:xJO R n0 [] w):Calls prog 191 #[.int .i64 n0] w R:=
 plC F191_p func191 h
def zKQ(R:Rt)(p1:Option Addr)(b3:Bool)(ds:Ds)(w:World):Prop:=
 Br (!b3) (
 zQb prog ds w λw1=>
 R (.returned (.int .i64 1)) w1) (
 zQg p1 λa2=>
 ∃qu,w.cell? a2=some (.int .i64 qu)/\
 Br (qu != 4) (
 zQg p1 λa3=>
 ∃s53,w.cell? (a3.add 2)=some (.string s53)/\
 Br (!(s53.toList == (⟨#[]⟩:ByteArray).toList)) (
 zQb prog ds w λw4=>
 R (.returned (.int .i64 1)) w4) (
 zQb prog ds w λw5=>
 R (.returned (.int .i64 0)) w5)) (
 zQb prog ds w λw6=>
 R (.returned (.int .i64 0)) w6))
def xWx(R:Rt)(au aJ:Int)(f7:ByteArray)(ds:Ds)(w:World):Prop:=
 alE (.cells #[.int .i64 au,.int .i64 aJ,.string f7] 73) w λr1 w7=>
 ∃s5,w7.cell? ((⟨r1,0,none⟩:Addr).add 2)=some (.string s5)/\
 Br (decide ((s5.size:Int) > 2048)) (
 zQb prog ds w7 λw8=>
 R (.returned (.int .i64 3)) w8) (
 ∃n9,w7.cell? (⟨r1,0,none⟩:Addr)=some (.int .i64 n9)/\
 Br (n9 == 0) (
 ∃dR,w7.cell? ((⟨r1,0,none⟩:Addr).add 1)=some (.int .i64 dR)/\
 zKQ R (some (⟨r1,0,none⟩:Addr)) (dR == 0) ds w7) (
 Br (n9 == 1) (
 ∃iI,w7.cell? ((⟨r1,0,none⟩:Addr).add 1)=some (.int .i64 iI)/\
 Br (iI == 0) (
 zKQ R (some (⟨r1,0,none⟩:Addr)) true ds w7) (
 ∃dk,w7.cell? ((⟨r1,0,none⟩:Addr).add 1)=some (.int .i64 dk)/\
 zKQ R (some (⟨r1,0,none⟩:Addr)) (dk == 1) ds w7)) (
 Br (n9 == 2) (
 ∃kD,w7.cell? ((⟨r1,0,none⟩:Addr).add 1)=some (.int .i64 kD)/\
 Calls prog 167 #[.int .i64 kD] w7 λe w9=>
 ∃b29:Bool,e=.returned (.bool b29)/\
 zKQ R (some (⟨r1,0,none⟩:Addr)) b29 ds w9) (
 Br (n9 == 3) (
 ∃oK,w7.cell? ((⟨r1,0,none⟩:Addr).add 1)=some (.int .i64 oK)/\
 Br (decide (oK >= 0)) (
 ∃iv,w7.cell? ((⟨r1,0,none⟩:Addr).add 1)=some (.int .i64 iv)/\
 zKQ R (some (⟨r1,0,none⟩:Addr)) (decide (iv<=3652059)) ds w7) (
 zKQ R (some (⟨r1,0,none⟩:Addr)) false ds w7)) (
 Br (n9 == 4) (
 ∃eF,w7.cell? ((⟨r1,0,none⟩:Addr).add 1)=some (.int .i64 eF)/\
 zKQ R (some (⟨r1,0,none⟩:Addr)) (eF == 0) ds w7) (
 zKQ R (some (⟨r1,0,none⟩:Addr)) false ds w7))))))
theorem F132_p:Pl prog f132 [aS 0 [.int .i64,.int .i64,.str]] xWx:=λR=>
 pc 6 (rest [pS 1,bS 3] (zKQ R) lf)
theorem yWA (au aJ:Int) (f7:ByteArray) (w:World) (R:Rt) (h:xWx R au aJ f7 [] w):Calls prog 132 #[.agg #[.int .i64 au,.int .i64 aJ,.string f7]] w R:=
 plC F132_p func132 h
def xWo(R:Rt)(n0:Int)(ds:Ds)(w:World):Prop:=
 Br (decide (n0 >= (-1000000000000000))) (
 zQb prog ds w λw1=>
 R (.returned (.bool (decide (n0<=1000000000000000)))) w1) (
 zQb prog ds w λw2=>
 R (.returned (.bool false)) w2)
theorem F167_p:Pl prog f167 [iS 0] xWo:=λR=>
 lf
theorem yVP (n0:Int) (w:World) (R:Rt) (h:xWo R n0 [] w):Calls prog 167 #[.int .i64 n0] w R:=
 plC F167_p func167 h
end Go.Proofs.YtaeecpjhfmcliaaGreatDoor
/- Shallow texts of functions, printed by program, each checked by the kernel against the loaded code. No condition. -/
namespace Go.Proofs.YtaeecpjhfmcliaaGreatDoor
open Go.Sh Tryz
def yKF(R:Rt)(p1 p3:Option Addr)(b4:Bool)(ds:Ds)(w:World):Prop:=
 Br b4 (
 zQg p1 λa1=>
 ∃v7,w.cell? a1=some (.string v7)/\
 Calls prog 146 #[.string v7] w λe w2=>
 ∃j4:Bool,e=.returned (.bool j4)/\
 Br j4 (
 zQg p1 λa3=>
 ∃j9,w2.cell? (a3.add 2)=some (.int .i64 j9)/\
 zQg p3 λa4=>
 ∃dk,w2.cell? (a4.add 1)=some (.int .i64 dk)/\
 Br (decide (j9 >= dk)) (
 zQg p1 λa5=>
 ∃gn,w2.cell? (a5.add 2)=some (.int .i64 gn)/\
 zQg p3 λa6=>
 ∃oL,w2.cell? (a6.add 2)=some (.int .i64 oL)/\
 zQb prog ds w2 λw7=>
 R (.returned (.bool (decide (gn<=oL)))) w7) (
 zQb prog ds w2 λw8=>
 R (.returned (.bool false)) w8)) (
 zQb prog ds w2 λw9=>
 R (.returned (.bool false)) w9)) (
 zQb prog ds w λaO=>
 R (.returned (.bool false)) aO)
def xWb(R:Rt)(aW:ByteArray)(aJ aX:Int)(aY:Bool)(ds:Ds)(w:World):Prop:=
 alE (.cells #[.string aW,.int .i64 aJ,.int .i64 aX,.bool aY] 129) w λr1 aR=>
 dwE aR λaM=>
 ∃S1:World->Prop,S1 aM/\
 ∃n8,(∀w',S1 w'->w'.cell? ((⟨r1,0,none⟩:Addr).add 1)=some (.int .i64 n8))/\
 (
 Calls prog 145 #[] aM λe aH=>
 ∃m6:Option Nat,e=.returned (.map m6)/\
 ∃S2:World->Prop,S2 aH/\(∀u,S2 u->S1 u)/\
 ∃ka:Int,∃kb:Int,∃ke:Int,∃kf:Value,∃kg:Value,∃qN:Bool,(∀w',S2 w'->(Instr.lookup 176 (.map m6) (.int .i64 n8) true).run prog w'=.ok (.tuple #[.agg #[.int .u8 ka,.int .i64 kb,.int .i64 ke,kf,kg],.bool qN]) w')/\
 alE (.cells #[.int .u8 0,.int .i64 0,.int .i64 0,.nilFunc,.nilFunc] 174) aH λr3 bo=>
 ∃S3:World->Prop,S3 bo/\(∀u,S3 u->S2 u)/\
 stA prog 174 (⟨r3,0,none⟩:Addr) #[.int .u8 ka,.int .i64 kb,.int .i64 ke,kf,kg] bo λbt=>
 yKF R (some (⟨r1,0,none⟩:Addr)) (some (⟨r3,0,none⟩:Addr)) qN ds bt)/\(
 alE (.cells #[.int .u8 0,.int .i64 0,.int .i64 0,.nilFunc,.nilFunc] 174) aM λr3 bB=>
 ∃S4:World->Prop,S4 bB/\(∀u,S4 u->S1 u)/\
 Calls prog 145 #[] bB λe bG=>
 ∃m6:Option Nat,e=.returned (.map m6)/\
 ∃S5:World->Prop,S5 bG/\(∀u,S5 u->S4 u)/\
 ∃ka:Int,∃kb:Int,∃ke:Int,∃kf:Value,∃kg:Value,∃qN:Bool,(∀w',S5 w'->(Instr.lookup 176 (.map m6) (.int .i64 n8) true).run prog w'=.ok (.tuple #[.agg #[.int .u8 ka,.int .i64 kb,.int .i64 ke,kf,kg],.bool qN]) w')/\
 stA prog 174 (⟨r3,0,none⟩:Addr) #[.int .u8 ka,.int .i64 kb,.int .i64 ke,kf,kg] bG λbI=>
 yKF R (some (⟨r1,0,none⟩:Addr)) (some (⟨r3,0,none⟩:Addr)) qN ds bI)
theorem F115_p:Pl prog f115 [aS 0 [.str,.int .i64,.int .i64,.bool]] xWb:=λR=>
 pc 2 (rest [pS 1,pS 3,bS 4] (yKF R) lf)
theorem yWT (aW:ByteArray) (aJ aX:Int) (aY:Bool) (w:World) (R:Rt) (h:xWb R aW aJ aX aY [] w):Calls prog 115 #[.agg #[.string aW,.int .i64 aJ,.int .i64 aX,.bool aY]] w R:=
 plC F115_p func115 h
def xZb(R:Rt)(s0:ByteArray)(ds:Ds)(w:World):Prop:=
 Br (!(s0.toList == (⟨#[]⟩:ByteArray).toList)) (
 Br (decide ((s0.size:Int)<=10)) (
 Calls prog 190 #[.string s0,.string (⟨#[65,66,67,68,69,70,71,72,73,74,75,76,77,78,79,80,81,82,83,84,85,86,87,88,89,90,48,49,50,51,52,53,54,55,56,57,95]⟩:ByteArray)] w λe w1=>
 ∃sq:ByteArray,e=.returned (.string sq)/\
 Br (sq.toList == (⟨#[]⟩:ByteArray).toList) (
 ∃qw:UInt8,0<=(0:Int)/\s0[(0:Int).toNat]?=some qw/\
 Br (decide ((qw.toNat:Int) >= 65)) (
 ∃pY:UInt8,0<=(0:Int)/\s0[(0:Int).toNat]?=some pY/\
 zQb prog ds w1 λw2=>
 R (.returned (.bool (decide ((pY.toNat:Int)<=90)))) w2) (
 zQb prog ds w1 λw3=>
 R (.returned (.bool false)) w3)) (
 zQb prog ds w1 λw4=>
 R (.returned (.bool false)) w4)) (
 zQb prog ds w λw5=>
 R (.returned (.bool false)) w5)) (
 zQb prog ds w λw6=>
 R (.returned (.bool false)) w6)
theorem F146_p:Pl prog f146 [sS 0] xZb:=λR=>
 lf
theorem yWN (s0:ByteArray) (w:World) (R:Rt) (h:xZb R s0 [] w):Calls prog 146 #[.string s0] w R:=
 plC F146_p func146 h
def xWf(R:Rt)(ds:Ds)(w:World):Prop:=
 alE (.map #[] 0) w λr1 w1=>
 doE prog (Instr.mapUpdate 176 (.map (some r1)) (.int .i64 1) (.agg #[.int .u8 76,.int .i64 1,.int .i64 1,.func (.func 180) #[] #[],.func (.func 181) #[] #[]])) w1 λw2=>
 doE prog (Instr.mapUpdate 176 (.map (some r1)) (.int .i64 2) (.agg #[.int .u8 78,.int .i64 1,.int .i64 15,.func (.func 182) #[] #[],.func (.func 183) #[] #[]])) w2 λw3=>
 doE prog (Instr.mapUpdate 176 (.map (some r1)) (.int .i64 3) (.agg #[.int .u8 68,.int .i64 8,.int .i64 8,.func (.func 184) #[] #[],.func (.func 185) #[] #[]])) w3 λw4=>
 doE prog (Instr.mapUpdate 176 (.map (some r1)) (.int .i64 4) (.agg #[.int .u8 67,.int .i64 1,.int .i64 254,.func (.func 186) #[] #[],.func (.func 187) #[] #[]])) w4 λw5=>
 doE prog (Instr.mapUpdate 176 (.map (some r1)) (.int .i64 5) (.agg #[.int .u8 77,.int .i64 8,.int .i64 8,.func (.func 188) #[] #[],.func (.func 189) #[] #[]])) w5 λw6=>
 zQb prog ds w6 λw7=>
 R (.returned (.map (some r1))) w7
theorem F145_p:Pl prog f145 [] xWf:=λR=>
 lf
theorem yVt  (w:World) (R:Rt) (h:xWf R [] w):Calls prog 145 #[] w R:=
 plC F145_p func145 h
def xKo(R:Rt)(n0:Int)(ds:Ds)(w:World):Prop:=
 Br (decide (n0 >= 0)) (
 zQb prog ds w λw1=>
 R (.returned (.bool (decide (n0<=2)))) w1) (
 zQb prog ds w λw2=>
 R (.returned (.bool false)) w2)
theorem F116_p:Pl prog f116 [iS 0] xKo:=λR=>
 lf
theorem yVw (n0:Int) (w:World) (R:Rt) (h:xKo R n0 [] w):Calls prog 116 #[.int .i64 n0] w R:=
 plC F116_p func116 h
def F91_1(R:Rt)(aW:ByteArray)(aJ aX:Int)(aY:Bool)(ds:Ds)(w:World):Prop:=
 alE (.cells #[.string aW,.int .i64 aJ,.int .i64 aX,.bool aY] 129) w λr1 w1=>
 ∃s4,w1.cell? (⟨r1,0,none⟩:Addr)=some (.string s4)/\
 Calls prog 130 #[.string s4] w1 λe w2=>
 ∃b5:Bool,e=.returned (.bool b5)/\
 Br (!b5) (
 zQb prog ds w2 λw3=>
 R (.returned (.bool false)) w3) (
 ∃n8,w2.cell? ((⟨r1,0,none⟩:Addr).add 1)=some (.int .i64 n8)/\
 Br (n8 == 1) (
 ∃dy,w2.cell? ((⟨r1,0,none⟩:Addr).add 2)=some (.int .i64 dy)/\
 zQb prog ds w2 λw4=>
 R (.returned (.bool (dy == 1))) w4) (
 Br (n8 == 2) (
 ∃m4,w2.cell? ((⟨r1,0,none⟩:Addr).add 2)=some (.int .i64 m4)/\
 Br (decide (m4 >= 1)) (
 ∃kE,w2.cell? ((⟨r1,0,none⟩:Addr).add 2)=some (.int .i64 kE)/\
 zQb prog ds w2 λw5=>
 R (.returned (.bool (decide (kE<=15)))) w5) (
 zQb prog ds w2 λw6=>
 R (.returned (.bool false)) w6)) (
 Br (n8 == 3) (
 Br (n8 == 3) (
 ∃kD,w2.cell? ((⟨r1,0,none⟩:Addr).add 2)=some (.int .i64 kD)/\
 zQb prog ds w2 λw7=>
 R (.returned (.bool (kD == 8))) w7) (
 Br (n8 == 4) (
 ∃oK,w2.cell? ((⟨r1,0,none⟩:Addr).add 2)=some (.int .i64 oK)/\
 Br (decide (oK >= 1)) (
 ∃iv,w2.cell? ((⟨r1,0,none⟩:Addr).add 2)=some (.int .i64 iv)/\
 zQb prog ds w2 λw8=>
 R (.returned (.bool (decide (iv<=254)))) w8) (
 zQb prog ds w2 λw9=>
 R (.returned (.bool false)) w9)) (
 zQb prog ds w2 λaO=>
 R (.returned (.bool false)) aO))) (
 Br (n8 == 5) (
 ∃kD,w2.cell? ((⟨r1,0,none⟩:Addr).add 2)=some (.int .i64 kD)/\
 zQb prog ds w2 λaR=>
 R (.returned (.bool (kD == 8))) aR) (
 Br (n8 == 4) (
 ∃oK,w2.cell? ((⟨r1,0,none⟩:Addr).add 2)=some (.int .i64 oK)/\
 Br (decide (oK >= 1)) (
 ∃iv,w2.cell? ((⟨r1,0,none⟩:Addr).add 2)=some (.int .i64 iv)/\
 zQb prog ds w2 λaM=>
 R (.returned (.bool (decide (iv<=254)))) aM) (
 zQb prog ds w2 λaH=>
 R (.returned (.bool false)) aH)) (
 zQb prog ds w2 λbo=>
 R (.returned (.bool false)) bo))))))
theorem F91_p:Pl prog f91 [aS 0 [.str,.int .i64,.int .i64,.bool]] F91_1:=λR=>
 lf
theorem yYy (aW:ByteArray) (aJ aX:Int) (aY:Bool) (w:World) (R:Rt) (h:F91_1 R aW aJ aX aY [] w):Calls prog 91 #[.agg #[.string aW,.int .i64 aJ,.int .i64 aX,.bool aY]] w R:=
 plC F91_p func91 h
def F52_1(R:Rt)(n0:Int)(ds:Ds)(w:World):Prop:=
 Br (decide (n0 >= 0)) (
 zQb prog ds w λw1=>
 R (.returned (.bool (decide (n0<=2)))) w1) (
 zQb prog ds w λw2=>
 R (.returned (.bool false)) w2)
theorem F52_p:Pl prog f52 [iS 0] F52_1:=λR=>
 lf
theorem xXp (n0:Int) (w:World) (R:Rt) (h:F52_1 R n0 [] w):Calls prog 52 #[.int .i64 n0] w R:=
 plC F52_p func52 h
def xVp(R:Rt)(ds:Ds)(w:World):Prop:=
 zQb prog ds w λw1=>
 R (.returned (.bool true)) w1
def zW1 (R:Rt) (J1:(Int)->World->Prop) (s0:ByteArray) (n3:Int) (ds:Ds) (w:World):Prop:=
 J1 (IntKind.i64.wrap (n3+1)) w
def xWq (R:Rt) (J1:(Int)->World->Prop) (s0:ByteArray) (n3:Int) (ds:Ds) (w:World):Prop:=
 ∃pY:UInt8,0<=n3/\s0[n3.toNat]?=some pY/\
 Br (decide ((pY.toNat:Int) >= 65)) (
 Br (!(decide ((pY.toNat:Int)<=90))) (
 Br (n3 == 0) (
 zQb prog ds w λw2=>
 R (.returned (.bool false)) w2) (
 Br ((pY.toNat:Int) != 95) (
 Calls prog 166 #[.int .u8 (pY.toNat:Int)] w λe w3=>
 ∃tk:Bool,e=.returned (.bool tk)/\
 Br (!tk) (
 zQb prog ds w3 λw4=>
 R (.returned (.bool false)) w4) (
 zW1 R J1 s0 n3 ds w3)) (
 zW1 R J1 s0 n3 ds w))) (
 zW1 R J1 s0 n3 ds w)) (
 Br (n3 == 0) (
 zQb prog ds w λw5=>
 R (.returned (.bool false)) w5) (
 Br ((pY.toNat:Int) != 95) (
 Calls prog 166 #[.int .u8 (pY.toNat:Int)] w λe w6=>
 ∃tk:Bool,e=.returned (.bool tk)/\
 Br (!tk) (
 zQb prog ds w6 λw7=>
 R (.returned (.bool false)) w7) (
 zW1 R J1 s0 n3 ds w6)) (
 zW1 R J1 s0 n3 ds w)))
def xVd (R:Rt) (J1:(Int)->World->Prop) (s0:ByteArray) (n3:Int) (ds:Ds) (w:World):Prop:=
 Br (decide (n3<(s0.size:Int))) (
 xWq R J1 s0 n3 ds w) (
 xVp R ds w)
def xJS(R:Rt)(s0:ByteArray)(n3:Int)(ds:Ds)(w:World):Prop:=
 zQA (λ(J1:(Int)->World->Prop) (s:Int) (w:World)=>xVd R J1 s0 s ds w) n3 w
def xWP(R:Rt)(s0:ByteArray)(ds:Ds)(w:World):Prop:=
 Br (decide ((s0.size:Int)<1)) (
 zQb prog ds w λw8=>
 R (.returned (.bool false)) w8) (
 Br (decide ((s0.size:Int) > 10)) (
 zQb prog ds w λw9=>
 R (.returned (.bool false)) w9) (
 xJS R s0 0 ds w))
theorem F130_p:Pl prog f130 [sS 0] xWP:=λR=>
 pc 4 (rest [sS 0,iS 3] (xJS R) (bk 0 (rest [] (xVp R) lf) (lp [iS 3] [sS 0,iS 3] (xVd R) zXH λJ1=>pc 2 (rest [sS 0,iS 3] (xWq R J1) (pc 1 (rest [sS 0,iS 3] (zW1 R J1) lf))))))
theorem yV4 (s0:ByteArray) (w:World) (R:Rt) (h:xWP R s0 [] w):Calls prog 130 #[.string s0] w R:=
 plC F130_p func130 h
def xVv(R:Rt)(n0:Int)(ds:Ds)(w:World):Prop:=
 Br (decide (n0 >= 48)) (
 zQb prog ds w λw1=>
 R (.returned (.bool (decide (n0<=57)))) w1) (
 zQb prog ds w λw2=>
 R (.returned (.bool false)) w2)
theorem F166_p:Pl prog f166 [kS .u8 0] xVv:=λR=>
 lf
theorem yW6 (n0:Int) (w:World) (R:Rt) (h:xVv R n0 [] w):Calls prog 166 #[.int .u8 n0] w R:=
 plC F166_p func166 h
def xVI(R:Rt)(aW:ByteArray)(aJ aX:Int)(aY:Bool)(ds:Ds)(w:World):Prop:=
 alE (.cells #[.string aW,.int .i64 aJ,.int .i64 aX,.bool aY] 129) w λr1 w1=>
 alE (.cells #[.int .i64 0,.int .i64 0,.string (⟨#[]⟩:ByteArray)] 73) w1 λr2 w2=>
 ∃n4,w2.cell? ((⟨r1,0,none⟩:Addr).add 1)=some (.int .i64 n4)/\
 Br (n4 == 5) (
 stA prog 73 (⟨r2,0,none⟩:Addr) #[.int .i64 2,.int .i64 0,.string (⟨#[]⟩:ByteArray)] w2 λw3=>
 zQb prog ds w3 λw4=>
 ∃ag,w4.cell? ((⟨r2,0,none⟩:Addr).add 0)=some (.int .i64 ag)/\
 ∃aj,w4.cell? ((⟨r2,0,none⟩:Addr).add 1)=some (.int .i64 aj)/\
 ∃ak,w4.cell? ((⟨r2,0,none⟩:Addr).add 2)=some (.string ak)/\
 R (.returned (.agg #[.int .i64 ag,.int .i64 aj,.string ak])) w4) (
 ∃n8,w2.cell? ((⟨r1,0,none⟩:Addr).add 1)=some (.int .i64 n8)/\
 stA prog 73 (⟨r2,0,none⟩:Addr) #[.int .i64 n8,.int .i64 0,.string (⟨#[]⟩:ByteArray)] w2 λw5=>
 zQb prog ds w5 λw6=>
 ∃ag,w6.cell? ((⟨r2,0,none⟩:Addr).add 0)=some (.int .i64 ag)/\
 ∃aj,w6.cell? ((⟨r2,0,none⟩:Addr).add 1)=some (.int .i64 aj)/\
 ∃ak,w6.cell? ((⟨r2,0,none⟩:Addr).add 2)=some (.string ak)/\
 R (.returned (.agg #[.int .i64 ag,.int .i64 aj,.string ak])) w6)
theorem F118_p:Pl prog f118 [aS 0 [.str,.int .i64,.int .i64,.bool]] xVI:=λR=>
 lf
theorem yWx (aW:ByteArray) (aJ aX:Int) (aY:Bool) (w:World) (R:Rt) (h:xVI R aW aJ aX aY [] w):Calls prog 118 #[.agg #[.string aW,.int .i64 aJ,.int .i64 aX,.bool aY]] w R:=
 plC F118_p func118 h
end Go.Proofs.YtaeecpjhfmcliaaGreatDoor
/- Shallow texts of functions, printed by program, each checked by the kernel against the loaded code. No condition. -/
namespace Go.Proofs.YtaeecpjhfmcliaaGreatDoor
open Go.Sh Tryz
def xQD(R:Rt)(n1:Int)(s6:ByteArray)(ds:Ds)(w:World):Prop:=
 Calls prog 155 #[.string (⟨#[32]⟩:ByteArray),.int .i64 (IntKind.i64.wrap (n1 - (s6.size:Int)))] w λe w1=>
 ∃s30:ByteArray,e=.returned (.string s30)/\
 ((s30.size+s6.size:Nat):Int)<=9223372036854775807/\
 zQb prog ds w1 λw2=>
 R (.returned (.tuple #[.string (s30 ++ s6),.int .i64 0])) w2
def xWN(R:Rt)(n0 n1:Int)(ds:Ds)(w:World):Prop:=
 Calls prog 153 #[.int .i64 n0] w λe w3=>
 ∃b8:Bool,e=.returned (.bool b8)/\
 Br (!b8) (
 zQb prog ds w3 λw4=>
 R (.returned (.tuple #[.string (⟨#[]⟩:ByteArray),.int .i64 1])) w4) (
 Br (decide (n1<1)) (
 zQb prog ds w3 λw5=>
 R (.returned (.tuple #[.string (⟨#[]⟩:ByteArray),.int .i64 1])) w5) (
 Br (decide (n1 > 254)) (
 zQb prog ds w3 λw6=>
 R (.returned (.tuple #[.string (⟨#[]⟩:ByteArray),.int .i64 1])) w6) (
 Calls prog 154 #[.int .i64 n0] w3 λe w7=>
 ∃ni:ByteArray,e=.returned (.string ni)/\
 Br (decide ((ni.size:Int) > n1)) (
 Calls prog 155 #[.string (⟨#[42]⟩:ByteArray),.int .i64 n1] w7 λe w8=>
 ∃s25:ByteArray,e=.returned (.string s25)/\
 zQb prog ds w8 λw9=>
 R (.returned (.tuple #[.string s25,.int .i64 0])) w9) (
 xQD R n1 ni ds w7))))
theorem F121_p:Pl prog f121 [iS 0,iS 1] xWN:=λR=>
 pc 6 (rest [iS 1,sS 6] (xQD R) lf)
theorem yWw (n0 n1:Int) (w:World) (R:Rt) (h:xWN R n0 n1 [] w):Calls prog 121 #[.int .i64 n0,.int .i64 n1] w R:=
 plC F121_p func121 h
def xWW(R:Rt)(n0:Int)(ds:Ds)(w:World):Prop:=
 Br (decide (n0<0)) (
 Calls prog 154 #[.int .i64 (IntKind.i64.wrap (0 - n0))] w λe w1=>
 ∃s8:ByteArray,e=.returned (.string s8)/\
 (((⟨#[45]⟩:ByteArray).size+s8.size:Nat):Int)<=9223372036854775807/\
 zQb prog ds w1 λw2=>
 R (.returned (.string ((⟨#[45]⟩:ByteArray) ++ s8))) w2) (
 Br (decide (n0<10)) (
 0<=(IntKind.i64.wrap (n0+1))/\(IntKind.i64.wrap (n0+1)).toNat<=(⟨#[48,49,50,51,52,53,54,55,56,57]⟩:ByteArray).size/\0<=n0/\n0.toNat<=(IntKind.i64.wrap (n0+1)).toNat/\
 zQb prog ds w λw3=>
 R (.returned (.string ((⟨#[48,49,50,51,52,53,54,55,56,57]⟩:ByteArray).extract n0.toNat ((IntKind.i64.wrap (n0+1)).toNat)))) w3) (
 dwE w λw4=>
 IntKind.i64=IntKind.i64/\(10:Int) ≠ 0/\
 IntKind.i64=IntKind.i64/\(10:Int) ≠ 0/\
 IntKind.i64=IntKind.i64/\(10:Int) ≠ 0/\
 0<=(IntKind.i64.wrap ((n0.tmod 10)+1))/\(IntKind.i64.wrap ((n0.tmod 10)+1)).toNat<=(⟨#[48,49,50,51,52,53,54,55,56,57]⟩:ByteArray).size/\0<=(n0.tmod 10)/\(n0.tmod 10).toNat<=(IntKind.i64.wrap ((n0.tmod 10)+1)).toNat/\
 Calls prog 154 #[.int .i64 (IntKind.i64.wrap (n0.tdiv 10))] w4 λe w5=>
 ∃ni:ByteArray,e=.returned (.string ni)/\
 ((ni.size+((⟨#[48,49,50,51,52,53,54,55,56,57]⟩:ByteArray).extract ((n0.tmod 10).toNat) ((IntKind.i64.wrap ((n0.tmod 10)+1)).toNat)).size:Nat):Int)<=9223372036854775807/\
 zQb prog ds w5 λw6=>
 R (.returned (.string (ni ++ ((⟨#[48,49,50,51,52,53,54,55,56,57]⟩:ByteArray).extract ((n0.tmod 10).toNat) ((IntKind.i64.wrap ((n0.tmod 10)+1)).toNat))))) w6))
theorem F154_p:Pl prog f154 [iS 0] xWW:=λR=>
 lf
theorem yQB (n0:Int) (w:World) (R:Rt) (h:xWW R n0 [] w):Calls prog 154 #[.int .i64 n0] w R:=
 plC F154_p func154 h
def xKQ(R:Rt)(n0:Int)(ds:Ds)(w:World):Prop:=
 Br (decide (n0<0)) (
 Br (n0 == (-9223372036854775808)) (
 zQb prog ds w λw1=>
 R (.returned (.string (⟨#[45,57,50,50,51,51,55,50,48,51,54,56,53,52,55,55,53,56,48,56]⟩:ByteArray))) w1) (
 Calls prog 134 #[.int .i64 (IntKind.i64.wrap (0 - n0))] w λe w2=>
 ∃s9:ByteArray,e=.returned (.string s9)/\
 (((⟨#[45]⟩:ByteArray).size+s9.size:Nat):Int)<=9223372036854775807/\
 zQb prog ds w2 λw3=>
 R (.returned (.string ((⟨#[45]⟩:ByteArray) ++ s9))) w3)) (
 Br (decide (n0<10)) (
 0<=(IntKind.i64.wrap (n0+1))/\(IntKind.i64.wrap (n0+1)).toNat<=(⟨#[48,49,50,51,52,53,54,55,56,57]⟩:ByteArray).size/\0<=n0/\n0.toNat<=(IntKind.i64.wrap (n0+1)).toNat/\
 zQb prog ds w λw4=>
 R (.returned (.string ((⟨#[48,49,50,51,52,53,54,55,56,57]⟩:ByteArray).extract n0.toNat ((IntKind.i64.wrap (n0+1)).toNat)))) w4) (
 IntKind.i64=IntKind.i64/\(10:Int) ≠ 0/\
 Calls prog 134 #[.int .i64 (IntKind.i64.wrap (n0.tdiv 10))] w λe w5=>
 ∃ni:ByteArray,e=.returned (.string ni)/\
 IntKind.i64=IntKind.i64/\(10:Int) ≠ 0/\
 Calls prog 134 #[.int .i64 (n0.tmod 10)] w5 λe w6=>
 ∃xn:ByteArray,e=.returned (.string xn)/\
 ((ni.size+xn.size:Nat):Int)<=9223372036854775807/\
 zQb prog ds w6 λw7=>
 R (.returned (.string (ni ++ xn))) w7))
theorem F134_p:Pl prog f134 [iS 0] xKQ:=λR=>
 lf
theorem yQt (n0:Int) (w:World) (R:Rt) (h:xKQ R n0 [] w):Calls prog 134 #[.int .i64 n0] w R:=
 plC F134_p func134 h
def yZo(R:Rt)(s0:ByteArray)(n3:Int)(ds:Ds)(w:World):Prop:=
 0<=n3/\n3.toNat<=s0.size/\0<=n3.toNat/\
 zQb prog ds w λw1=>
 R (.returned (.string (s0.extract 0 n3.toNat))) w1
def xJA (R:Rt) (J1:(Int)->World->Prop) (s0:ByteArray) (n3:Int) (ds:Ds) (w:World):Prop:=
 Br (decide (n3 > 0)) (
 ∃cM:UInt8,0<=(IntKind.i64.wrap (n3 - 1))/\s0[(IntKind.i64.wrap (n3 - 1)).toNat]?=some cM/\
 Br ((cM.toNat:Int) == 32) (
 J1 (IntKind.i64.wrap (n3 - 1)) w) (
 yZo R s0 n3 ds w)) (
 yZo R s0 n3 ds w)
def xJY(R:Rt)(s0:ByteArray)(n3:Int)(ds:Ds)(w:World):Prop:=
 zQA (λ(J1:(Int)->World->Prop) (s:Int) (w:World)=>xJA R J1 s0 s ds w) n3 w
def xWe(R:Rt)(s0:ByteArray)(ds:Ds)(w:World):Prop:=
 xJY R s0 (s0.size:Int) ds w
theorem F135_p:Pl prog f135 [sS 0] xWe:=λR=>
 pc 2 (rest [sS 0,iS 3] (xJY R) (bk 0 (rest [sS 0,iS 3] (yZo R) lf) (lp [iS 3] [sS 0,iS 3] (xJA R) zXH λJ1=>lf)))
theorem yVq (s0:ByteArray) (w:World) (R:Rt) (h:xWe R s0 [] w):Calls prog 135 #[.string s0] w R:=
 plC F135_p func135 h
def xYa(R:Rt)(s0:ByteArray)(ds:Ds)(w:World):Prop:=
 alE (.cells #[.int .i64 0,.int .i64 0,.string (⟨#[]⟩:ByteArray)] 73) w λr2 w1=>
 stA prog 73 (⟨r2,0,none⟩:Addr) #[.int .i64 4,.int .i64 0,.string s0] w1 λw2=>
 zQb prog ds w2 λw3=>
 ∃ag,w3.cell? ((⟨r2,0,none⟩:Addr).add 0)=some (.int .i64 ag)/\
 ∃aj,w3.cell? ((⟨r2,0,none⟩:Addr).add 1)=some (.int .i64 aj)/\
 ∃ak,w3.cell? ((⟨r2,0,none⟩:Addr).add 2)=some (.string ak)/\
 R (.returned (.agg #[.int .i64 ag,.int .i64 aj,.string ak])) w3
theorem F177_p:Pl prog f177 [sS 0] xYa:=λR=>
 lf
theorem yV1 (s0:ByteArray) (w:World) (R:Rt) (h:xYa R s0 [] w):Calls prog 177 #[.string s0] w R:=
 plC F177_p func177 h
end Go.Proofs.YtaeecpjhfmcliaaGreatDoor
/- Shallow texts of functions, printed by program, each checked by the kernel against the loaded code. No condition. -/
namespace Go.Proofs.YtaeecpjhfmcliaaGreatDoor
open Go.Sh Tryz
def xKC(R:Rt)(s0:ByteArray)(n1:Int)(ds:Ds)(w:World):Prop:=
 Calls prog 152 #[.string s0,.int .i64 n1] w λe w1=>
 ∃tm:Bool,∃jp:Int,e=.returned (.tuple #[.bool tm,.int .i64 jp])/\
 Br tm (
 zQb prog ds w1 λw2=>
 R (.returned (.bool (jp == 0))) w2) (
 zQb prog ds w1 λw3=>
 R (.returned (.bool false)) w3)
theorem F120_p:Pl prog f120 [sS 0,iS 1] xKC:=λR=>
 lf
theorem yVM (s0:ByteArray) (n1:Int) (w:World) (R:Rt) (h:xKC R s0 n1 [] w):Calls prog 120 #[.string s0,.int .i64 n1] w R:=
 plC F120_p func120 h
def xK6(R:Rt)(ds:Ds)(w:World):Prop:=
 zQb prog ds w λw1=>
 R (.returned (.tuple #[.bool true,.int .i64 0])) w1
def xWZ (R:Rt) (J1:(Int)->World->Prop) (p7:Option Addr) (cJ:SV) (dk i5:Int) (ds:Ds) (w:World):Prop:=
 Br (decide (i5<dk)) (
 ∃a2,cJ.a=some a2/\0<=i5/\i5<(cJ.len:Int)/\
 ∃cr,w.cell? (a2.add (i5.toNat * 1))=some (.int .u8 cr)/\
 zQg p7 λa3=>
 0<=cr/\cr<(256:Int)/\
 ∃oL,w.cell? (a3.add (cr.toNat * 1))=some (.int .i32 oL)/\
 Br (decide (oL<0)) (
 zQb prog ds w λw4=>
 R (.returned (.tuple #[.bool false,.int .i64 0])) w4) (
 J1 (IntKind.i64.wrap (i5+1)) w)) (
 xK6 R ds w)
def xKl(R:Rt)(p7:Option Addr)(cJ:SV)(dk i5:Int)(ds:Ds)(w:World):Prop:=
 zQA (λ(J1:(Int)->World->Prop) (s:Int) (w:World)=>xWZ R J1 p7 cJ dk s ds w) i5 w
def xKE(R:Rt)(s0:ByteArray)(n1:Int)(ds:Ds)(w:World):Prop:=
 alE (.cells #[.string s0] 9) w λm7 w5=>
 Calls prog 195 #[.int .i64 n1,.slice (some ⟨m7,0,none⟩) 1 1] w5 λe w6=>
 ∃dR:Int,e=.returned (.int .i64 dR)/\
 Br (dR != 0) (
 zQb prog ds w6 λw7=>
 R (.returned (.tuple #[.bool false,.int .i64 dR])) w7) (
 Calls prog 196 #[] w6 λe w8=>
 ∃c17:Array Value,c17.size=768/\e=.returned (.agg c17)/\
 ∃c19:Array Value,c19.size=256/\∃w9,(Instr.index 213 (.agg c17) (.int .i64 n1)).run prog w8=.ok (.agg c19) w9/\
 alE (.cells (zc prog 212) 212) w9 λr7 aO=>
 stA prog 212 (⟨r7,0,none⟩:Addr) c19 aO λaR=>
 ∃cJ:SV,∃aM,(convert 9 22 (.string s0)).run prog aR=.ok (cJ.v) aM/\
 xKl R (some (⟨r7,0,none⟩:Addr)) cJ (cJ.len:Int) 0 ds aM)
theorem F152_p:Pl prog f152 [sS 0,iS 1] xKE:=λR=>
 pc 6 (rest [pS 7,lS 21,iS 22,iS 23] (xKl R) (bk 0 (rest [] (xK6 R) lf) (lp [iS 23] [pS 7,lS 21,iS 22,iS 23] (xWZ R) zXH λJ1=>lf)))
theorem yVK (s0:ByteArray) (n1:Int) (w:World) (R:Rt) (h:xKE R s0 n1 [] w):Calls prog 152 #[.string s0,.int .i64 n1] w R:=
 plC F152_p func152 h
def xKW(R:Rt)(n0:Int)(ds:Ds)(w:World):Prop:=
 Br (decide (n0<0)) (
 zQb prog ds w λw1=>
 R (.returned (.int .i64 1)) w1) (
 Br (decide (n0 > 2)) (
 zQb prog ds w λw2=>
 R (.returned (.int .i64 1)) w2) (
 zQb prog ds w λw3=>
 R (.returned (.int .i64 0)) w3))
def xVz (R:Rt) (J1:(Int)->World->Prop) (n0:Int) (l7:SV) (n8 n9:Int) (ds:Ds) (w:World):Prop:=
 Br (decide (n9<n8)) (
 ∃a4,l7.a=some a4/\0<=n9/\n9<(l7.len:Int)/\
 ∃sq,w.cell? (a4.add (n9.toNat * 1))=some (.string sq)/\
 Br (decide ((sq.size:Int) > 2048)) (
 zQb prog ds w λw5=>
 R (.returned (.int .i64 3)) w5) (
 J1 (IntKind.i64.wrap (n9+1)) w)) (
 xKW R n0 ds w)
def xWr(R:Rt)(n0:Int)(l7:SV)(n8 n9:Int)(ds:Ds)(w:World):Prop:=
 zQA (λ(J1:(Int)->World->Prop) (s:Int) (w:World)=>xVz R J1 n0 l7 n8 s ds w) n9 w
def xWV(R:Rt)(n0:Int)(l1:SV)(ds:Ds)(w:World):Prop:=
 xWr R n0 l1 (l1.len:Int) 0 ds w
theorem F195_p:Pl prog f195 [iS 0,lS 1] xWV:=λR=>
 pc 2 (rest [iS 0,lS 7,iS 8,iS 9] (xWr R) (bk 0 (rest [iS 0] (xKW R) lf) (lp [iS 9] [iS 0,lS 7,iS 8,iS 9] (xVz R) zXH λJ1=>lf)))
theorem yKQ (n0:Int) (l1:SV) (w:World) (R:Rt) (h:xWV R n0 l1 [] w):Calls prog 195 #[.int .i64 n0,l1.v] w R:=
 plC F195_p func195 h
def yYB(R:Rt)(p0 p1:Option Addr)(ds:Ds)(w:World):Prop:=
 zQg p1 λa1=>
 ∃c48:Array Value,c48.size=768/\(∀i,i<768->w.cell? (a1.add i)=c48[i]?)/\
 zQg p0 λa2=>
 stA prog 213 a2 c48 w λw3=>
 zQb prog ds w3 λw4=>
 zQg p0 λa5=>
 ∃cR0:Array Value,cR0.size=768/\(∀i,i<768->w4.cell? (a5.add i)=cR0[i]?)/\
 R (.returned (.agg cR0)) w4
def xVa (R:Rt) (J1:(Int)->World->Prop) (p0 p1:Option Addr) (n5:Int) (ds:Ds) (w:World):Prop:=
 Br (decide (n5<=239)) (
 zQg p1 λa6=>
 0<=(2:Int)/\(2:Int)<(3:Int)/\
 0<=n5/\n5<(256:Int)/\
 st1 ((a6.add ((2:Int).toNat * 256)).add (n5.toNat * 1)) (.int .i32 (IntKind.i32.wrap ((1088:Int)+(IntKind.i32.wrap (IntKind.i64.wrap (n5 - 224)))))) w λw7=>
 J1 (IntKind.i64.wrap (n5+1)) w7) (
 yYB R p0 p1 ds w)
def xVw(R:Rt)(p0 p1:Option Addr)(n5:Int)(ds:Ds)(w:World):Prop:=
 zQA (λ(J1:(Int)->World->Prop) (s:Int) (w:World)=>xVa R J1 p0 p1 s ds w) n5 w
def xWM(R:Rt)(p0 p1:Option Addr)(ds:Ds)(w:World):Prop:=
 xVw R p0 p1 224 ds w
def xJX (R:Rt) (J1:(Int)->World->Prop) (p0 p1:Option Addr) (n4:Int) (ds:Ds) (w:World):Prop:=
 Br (decide (n4<=175)) (
 zQg p1 λa8=>
 0<=(2:Int)/\(2:Int)<(3:Int)/\
 0<=n4/\n4<(256:Int)/\
 st1 ((a8.add ((2:Int).toNat * 256)).add (n4.toNat * 1)) (.int .i32 (IntKind.i32.wrap ((1040:Int)+(IntKind.i32.wrap (IntKind.i64.wrap (n4 - 128)))))) w λw9=>
 J1 (IntKind.i64.wrap (n4+1)) w9) (
 xWM R p0 p1 ds w)
def xVP(R:Rt)(p0 p1:Option Addr)(n4:Int)(ds:Ds)(w:World):Prop:=
 zQA (λ(J1:(Int)->World->Prop) (s:Int) (w:World)=>xJX R J1 p0 p1 s ds w) n4 w
def xWd(R:Rt)(p0 p1:Option Addr)(ds:Ds)(w:World):Prop:=
 xVP R p0 p1 128 ds w
def xQW (R:Rt) (J1:(Int)->World->Prop) (p0 p1:Option Addr) (n6:Int) (ds:Ds) (w:World):Prop:=
 Br (decide (n6<256)) (
 zQg p1 λeE=>
 0<=(1:Int)/\(1:Int)<(3:Int)/\
 0<=n6/\n6<(256:Int)/\
 st1 ((eE.add ((1:Int).toNat * 256)).add (n6.toNat * 1)) (.int .i32 (IntKind.i32.wrap n6)) w λaR=>
 Br (decide (n6 >= 128)) (
 zQg p1 λkF=>
 0<=(0:Int)/\(0:Int)<(3:Int)/\
 0<=n6/\n6<(256:Int)/\
 st1 ((kF.add ((0:Int).toNat * 256)).add (n6.toNat * 1)) (.int .i32 (-1)) aR λaH=>
 zQg p1 λga=>
 0<=(2:Int)/\(2:Int)<(3:Int)/\
 0<=n6/\n6<(256:Int)/\
 st1 ((ga.add ((2:Int).toNat * 256)).add (n6.toNat * 1)) (.int .i32 (-1)) aH λbt=>
 J1 (IntKind.i64.wrap (n6+1)) bt) (
 zQg p1 λiJ=>
 0<=(0:Int)/\(0:Int)<(3:Int)/\
 0<=n6/\n6<(256:Int)/\
 st1 ((iJ.add ((0:Int).toNat * 256)).add (n6.toNat * 1)) (.int .i32 (IntKind.i32.wrap n6)) aR λbG=>
 zQg p1 λjq=>
 0<=(2:Int)/\(2:Int)<(3:Int)/\
 0<=n6/\n6<(256:Int)/\
 st1 ((jq.add ((2:Int).toNat * 256)).add (n6.toNat * 1)) (.int .i32 (IntKind.i32.wrap n6)) bG λcE=>
 J1 (IntKind.i64.wrap (n6+1)) cE)) (
 xWd R p0 p1 ds w)
def xXH(R:Rt)(p0 p1:Option Addr)(n6:Int)(ds:Ds)(w:World):Prop:=
 zQA (λ(J1:(Int)->World->Prop) (s:Int) (w:World)=>xQW R J1 p0 p1 s ds w) n6 w
def xX8(R:Rt)(ds:Ds)(w:World):Prop:=
 alE (.cells (zc prog 213) 213) w λr0 bO=>
 alE (.cells (zc prog 213) 213) bO λr1 cq=>
 xXH R (some (⟨r0,0,none⟩:Addr)) (some (⟨r1,0,none⟩:Addr)) 0 ds cq
theorem F196_p:Pl prog f196 [] xX8:=λR=>
 pc 3 (rest [pS 0,pS 1,iS 6] (xXH R) (bk 0 (rest [pS 0,pS 1] (xWd R) (pc 1 (rest [pS 0,pS 1,iS 4] (xVP R) (bk 2 (rest [pS 0,pS 1] (xWM R) (pc 1 (rest [pS 0,pS 1,iS 5] (xVw R) (bk 4 (rest [pS 0,pS 1] (yYB R) lf) (lp [iS 5] [pS 0,pS 1,iS 5] (xVa R) zXH λJ1=>lf))))) (lp [iS 4] [pS 0,pS 1,iS 4] (xJX R) zXH λJ1=>lf))))) (lp [iS 6] [pS 0,pS 1,iS 6] (xQW R) zXH λJ1=>lf)))
theorem yKU  (w:World) (R:Rt) (h:xX8 R [] w):Calls prog 196 #[] w R:=
 plC F196_p func196 h
def xWF(R:Rt)(ds:Ds)(w:World):Prop:=
 zQb prog ds w λw1=>
 R (.returned (.bool true)) w1
def xVH (R:Rt) (J1:(Int)->World->Prop) (s0:ByteArray) (n1 n5:Int) (ds:Ds) (w:World):Prop:=
 Br (decide (n5<(s0.size:Int))) (
 ∃gS:UInt8,0<=n5/\s0[n5.toNat]?=some gS/\
 Calls prog 168 #[.int .u8 (gS.toNat:Int),.int .i64 n1] w λe w2=>
 ∃j4:Bool,e=.returned (.bool j4)/\
 Br (!j4) (
 zQb prog ds w2 λw3=>
 R (.returned (.bool false)) w3) (
 J1 (IntKind.i64.wrap (n5+1)) w2)) (
 xWF R ds w)
def xK7(R:Rt)(s0:ByteArray)(n1 n5:Int)(ds:Ds)(w:World):Prop:=
 zQA (λ(J1:(Int)->World->Prop) (s:Int) (w:World)=>xVH R J1 s0 n1 s ds w) n5 w
def xKZ(R:Rt)(s0:ByteArray)(n1:Int)(ds:Ds)(w:World):Prop:=
 xK7 R s0 n1 0 ds w
theorem F136_p:Pl prog f136 [sS 0,iS 1] xKZ:=λR=>
 pc 2 (rest [sS 0,iS 1,iS 5] (xK7 R) (bk 0 (rest [] (xWF R) lf) (lp [iS 5] [sS 0,iS 1,iS 5] (xVH R) zXH λJ1=>lf)))
theorem yWP (s0:ByteArray) (n1:Int) (w:World) (R:Rt) (h:xKZ R s0 n1 [] w):Calls prog 136 #[.string s0,.int .i64 n1] w R:=
 plC F136_p func136 h
def xW3(R:Rt)(n0 n1:Int)(ds:Ds)(w:World):Prop:=
 Br (n1 == 0) (
 zQb prog ds w λw1=>
 R (.returned (.bool (decide (n0<128)))) w1) (
 Br (n1 == 1) (
 zQb prog ds w λw2=>
 R (.returned (.bool true)) w2) (
 Br (decide (n0<176)) (
 zQb prog ds w λw3=>
 R (.returned (.bool true)) w3) (
 Br (decide (n0 >= 224)) (
 zQb prog ds w λw4=>
 R (.returned (.bool (decide (n0<240)))) w4) (
 zQb prog ds w λw5=>
 R (.returned (.bool false)) w5))))
theorem F168_p:Pl prog f168 [kS .u8 0,iS 1] xW3:=λR=>
 lf
theorem yWn (n0 n1:Int) (w:World) (R:Rt) (h:xW3 R n0 n1 [] w):Calls prog 168 #[.int .u8 n0,.int .i64 n1] w R:=
 plC F168_p func168 h
end Go.Proofs.YtaeecpjhfmcliaaGreatDoor
/- Shallow texts of functions, printed by program, each checked by the kernel against the loaded code. No condition. -/
namespace Go.Proofs.YtaeecpjhfmcliaaGreatDoor
open Go.Sh Tryz
def F83_1(R:Rt)(n1:Int)(p3 p5 p6:Option Addr)(oD:Int)(ds:Ds)(w:World):Prop:=
 Br (oD == 4) (
 zQg p5 λa1=>
 ∃s46,w.cell? (a1.add 2)=some (.string s46)/\
 zQg p5 λa2=>
 ∃s48,w.cell? (a2.add 2)=some (.string s48)/\
 zQg p3 λa3=>
 ∃oM,w.cell? (a3.add 2)=some (.int .i64 oM)/\
 ∃qx:Int,∃w4,(Builtin.min_ #[3,3] 3 #[.int .i64 (s48.size:Int),.int .i64 oM]).run prog w=.ok (.int .i64 qx) w4/\
 0<=qx/\qx.toNat<=s46.size/\0<=qx.toNat/\
 Calls prog 119 #[.string (s46.extract 0 qx.toNat),.string (⟨#[32]⟩:ByteArray)] w4 λe w5=>
 ∃pi:ByteArray,e=.returned (.string pi)/\
 zQg p5 λa6=>
 st1 (a6.add 2) (.string pi) w5 λw7=>
 zQg p5 λa8=>
 ∃x6,w7.cell? (a8.add 2)=some (.string x6)/\
 Calls prog 120 #[.string x6,.int .i64 n1] w7 λe w9=>
 ∃b59:Bool,e=.returned (.bool b59)/\
 Br (!b59) (
 zQg p6 λeE=>
 stA prog 73 eE #[.int .i64 0,.int .i64 0,.string (⟨#[]⟩:ByteArray)] w9 λaR=>
 zQb prog ds aR λaM=>
 zQg p6 λkV=>
 ∃ag,aM.cell? (kV.add 0)=some (.int .i64 ag)/\
 ∃aj,aM.cell? (kV.add 1)=some (.int .i64 aj)/\
 ∃ak,aM.cell? (kV.add 2)=some (.string ak)/\
 R (.returned (.tuple #[.agg #[.int .i64 ag,.int .i64 aj,.string ak],.int .i64 10])) aM) (
 zQg p5 λga=>
 ∃gp,w9.cell? (ga.add 0)=some (.int .i64 gp)/\
 ∃gq,w9.cell? (ga.add 1)=some (.int .i64 gq)/\
 ∃gr,w9.cell? (ga.add 2)=some (.string gr)/\
 zQg p6 λjr=>
 stA prog 73 jr #[.int .i64 gp,.int .i64 gq,.string gr] w9 λbB=>
 zQb prog ds bB λbG=>
 zQg p6 λjq=>
 ∃ag,bG.cell? (jq.add 0)=some (.int .i64 ag)/\
 ∃aj,bG.cell? (jq.add 1)=some (.int .i64 aj)/\
 ∃ak,bG.cell? (jq.add 2)=some (.string ak)/\
 R (.returned (.tuple #[.agg #[.int .i64 ag,.int .i64 aj,.string ak],.int .i64 0])) bG)) (
 Br (oD == 2) (
 zQg p5 λkH=>
 ∃x7,w.cell? (kH.add 1)=some (.int .i64 x7)/\
 zQg p3 λa20=>
 ∃x8,w.cell? (a20.add 2)=some (.int .i64 x8)/\
 Calls prog 121 #[.int .i64 x7,.int .i64 x8] w λe cq=>
 ∃tn:ByteArray,∃tp:Int,e=.returned (.tuple #[.string tn,.int .i64 tp])/\
 Br (tp != 0) (
 zQg p6 λoN=>
 stA prog 73 oN #[.int .i64 0,.int .i64 0,.string (⟨#[]⟩:ByteArray)] cq λdU=>
 zQb prog ds dU λdD=>
 zQg p6 λmK=>
 ∃ag,dD.cell? (mK.add 0)=some (.int .i64 ag)/\
 ∃aj,dD.cell? (mK.add 1)=some (.int .i64 aj)/\
 ∃ak,dD.cell? (mK.add 2)=some (.string ak)/\
 R (.returned (.tuple #[.agg #[.int .i64 ag,.int .i64 aj,.string ak],.int .i64 10])) dD) (
 Calls prog 122 #[.string tn,.string (⟨#[42]⟩:ByteArray)] cq λe fX=>
 ∃b76:Bool,e=.returned (.bool b76)/\
 Br b76 (
 zQg p6 λa27=>
 stA prog 73 a27 #[.int .i64 0,.int .i64 0,.string (⟨#[]⟩:ByteArray)] fX λeg=>
 zQb prog ds eg λgb=>
 zQg p6 λoO=>
 ∃ag,gb.cell? (oO.add 0)=some (.int .i64 ag)/\
 ∃aj,gb.cell? (oO.add 1)=some (.int .i64 aj)/\
 ∃ak,gb.cell? (oO.add 2)=some (.string ak)/\
 R (.returned (.tuple #[.agg #[.int .i64 ag,.int .i64 aj,.string ak],.int .i64 10])) gb) (
 zQg p5 λsr=>
 ∃gp,fX.cell? (sr.add 0)=some (.int .i64 gp)/\
 ∃gq,fX.cell? (sr.add 1)=some (.int .i64 gq)/\
 ∃gr,fX.cell? (sr.add 2)=some (.string gr)/\
 zQg p6 λwi=>
 stA prog 73 wi #[.int .i64 gp,.int .i64 gq,.string gr] fX λgk=>
 zQb prog ds gk λgd=>
 zQg p6 λss=>
 ∃ag,gd.cell? (ss.add 0)=some (.int .i64 ag)/\
 ∃aj,gd.cell? (ss.add 1)=some (.int .i64 aj)/\
 ∃ak,gd.cell? (ss.add 2)=some (.string ak)/\
 R (.returned (.tuple #[.agg #[.int .i64 ag,.int .i64 aj,.string ak],.int .i64 0])) gd))) (
 Br (oD == 5) (
 zQg p5 λqy=>
 ∃n82,w.cell? (qy.add 1)=some (.int .i64 n82)/\
 Br (decide (n82<0)) (
 zQg p6 λa37=>
 stA prog 73 a37 #[.int .i64 0,.int .i64 0,.string (⟨#[]⟩:ByteArray)] w λoP=>
 zQb prog ds oP λkI=>
 zQg p6 λsu=>
 ∃ag,kI.cell? (su.add 0)=some (.int .i64 ag)/\
 ∃aj,kI.cell? (su.add 1)=some (.int .i64 aj)/\
 ∃ak,kI.cell? (su.add 2)=some (.string ak)/\
 R (.returned (.tuple #[.agg #[.int .i64 ag,.int .i64 aj,.string ak],.int .i64 10])) kI) (
 zQg p5 λx9=>
 ∃n86,w.cell? (x9.add 1)=some (.int .i64 n86)/\
 Br (decide (n86 > 99999999)) (
 zQg p6 λsv=>
 stA prog 73 sv #[.int .i64 0,.int .i64 0,.string (⟨#[]⟩:ByteArray)] w λqO=>
 zQb prog ds qO λmL=>
 zQg p6 λwj=>
 ∃ag,mL.cell? (wj.add 0)=some (.int .i64 ag)/\
 ∃aj,mL.cell? (wj.add 1)=some (.int .i64 aj)/\
 ∃ak,mL.cell? (wj.add 2)=some (.string ak)/\
 R (.returned (.tuple #[.agg #[.int .i64 ag,.int .i64 aj,.string ak],.int .i64 10])) mL) (
 zQg p5 λa46=>
 ∃gp,w.cell? (a46.add 0)=some (.int .i64 gp)/\
 ∃gq,w.cell? (a46.add 1)=some (.int .i64 gq)/\
 ∃gr,w.cell? (a46.add 2)=some (.string gr)/\
 zQg p6 λya=>
 stA prog 73 ya #[.int .i64 gp,.int .i64 gq,.string gr] w λmM=>
 zQb prog ds mM λxo=>
 zQg p6 λwk=>
 ∃ag,xo.cell? (wk.add 0)=some (.int .i64 ag)/\
 ∃aj,xo.cell? (wk.add 1)=some (.int .i64 aj)/\
 ∃ak,xo.cell? (wk.add 2)=some (.string ak)/\
 R (.returned (.tuple #[.agg #[.int .i64 ag,.int .i64 aj,.string ak],.int .i64 0])) xo))) (
 zQg p5 λa51=>
 ∃gp,w.cell? (a51.add 0)=some (.int .i64 gp)/\
 ∃gq,w.cell? (a51.add 1)=some (.int .i64 gq)/\
 ∃gr,w.cell? (a51.add 2)=some (.string gr)/\
 zQg p6 λwm=>
 stA prog 73 wm #[.int .i64 gp,.int .i64 gq,.string gr] w λtq=>
 zQb prog ds tq λxp=>
 zQg p6 λa55=>
 ∃ag,xp.cell? (a55.add 0)=some (.int .i64 ag)/\
 ∃aj,xp.cell? (a55.add 1)=some (.int .i64 aj)/\
 ∃ak,xp.cell? (a55.add 2)=some (.string ak)/\
 R (.returned (.tuple #[.agg #[.int .i64 ag,.int .i64 aj,.string ak],.int .i64 0])) xp)))
def F83_2(R:Rt)(aW:ByteArray)(aJ aX:Int)(aY:Bool)(n1 dp ei:Int)(eo:ByteArray)(ds:Ds)(w:World):Prop:=
 alE (.cells #[.string aW,.int .i64 aJ,.int .i64 aX,.bool aY] 129) w λr3 w56=>
 alE (.cells #[.int .i64 dp,.int .i64 ei,.string eo] 73) w56 λr5 yb=>
 alE (.cells #[.int .i64 0,.int .i64 0,.string (⟨#[]⟩:ByteArray)] 73) yb λr6 sb=>
 ∃js,sb.cell? ((⟨r3,0,none⟩:Addr).add 0)=some (.string js)/\
 ∃dZ,sb.cell? ((⟨r3,0,none⟩:Addr).add 1)=some (.int .i64 dZ)/\
 ∃jt,sb.cell? ((⟨r3,0,none⟩:Addr).add 2)=some (.int .i64 jt)/\
 ∃ju,sb.cell? ((⟨r3,0,none⟩:Addr).add 3)=some (.bool ju)/\
 Calls prog 115 #[.agg #[.string js,.int .i64 dZ,.int .i64 jt,.bool ju]] sb λe oQ=>
 ∃cM:Bool,e=.returned (.bool cM)/\
 Br (!cM) (
 stA prog 73 (⟨r6,0,none⟩:Addr) #[.int .i64 0,.int .i64 0,.string (⟨#[]⟩:ByteArray)] oQ λpj=>
 zQb prog ds pj λpZ=>
 ∃ag,pZ.cell? ((⟨r6,0,none⟩:Addr).add 0)=some (.int .i64 ag)/\
 ∃aj,pZ.cell? ((⟨r6,0,none⟩:Addr).add 1)=some (.int .i64 aj)/\
 ∃ak,pZ.cell? ((⟨r6,0,none⟩:Addr).add 2)=some (.string ak)/\
 R (.returned (.tuple #[.agg #[.int .i64 ag,.int .i64 aj,.string ak],.int .i64 1])) pZ) (
 Calls prog 116 #[.int .i64 n1] oQ λe qP=>
 ∃j4:Bool,e=.returned (.bool j4)/\
 Br (!j4) (
 stA prog 73 (⟨r6,0,none⟩:Addr) #[.int .i64 0,.int .i64 0,.string (⟨#[]⟩:ByteArray)] qP λoE=>
 zQb prog ds oE λoF=>
 ∃ag,oF.cell? ((⟨r6,0,none⟩:Addr).add 0)=some (.int .i64 ag)/\
 ∃aj,oF.cell? ((⟨r6,0,none⟩:Addr).add 1)=some (.int .i64 aj)/\
 ∃ak,oF.cell? ((⟨r6,0,none⟩:Addr).add 2)=some (.string ak)/\
 R (.returned (.tuple #[.agg #[.int .i64 ag,.int .i64 aj,.string ak],.int .i64 1])) oF) (
 ∃eL,qP.cell? ((⟨r5,0,none⟩:Addr).add 0)=some (.int .i64 eL)/\
 ∃eM,qP.cell? ((⟨r5,0,none⟩:Addr).add 1)=some (.int .i64 eM)/\
 ∃gt,qP.cell? ((⟨r5,0,none⟩:Addr).add 2)=some (.string gt)/\
 Calls prog 117 #[.agg #[.int .i64 eL,.int .i64 eM,.string gt]] qP λe oR=>
 ∃kE:Int,e=.returned (.int .i64 kE)/\
 Br (kE != 0) (
 stA prog 73 (⟨r6,0,none⟩:Addr) #[.int .i64 0,.int .i64 0,.string (⟨#[]⟩:ByteArray)] oR λpk=>
 zQb prog ds pk λw67=>
 ∃ag,w67.cell? ((⟨r6,0,none⟩:Addr).add 0)=some (.int .i64 ag)/\
 ∃aj,w67.cell? ((⟨r6,0,none⟩:Addr).add 1)=some (.int .i64 aj)/\
 ∃ak,w67.cell? ((⟨r6,0,none⟩:Addr).add 2)=some (.string ak)/\
 R (.returned (.tuple #[.agg #[.int .i64 ag,.int .i64 aj,.string ak],.int .i64 kE])) w67) (
 ∃gn,oR.cell? (⟨r5,0,none⟩:Addr)=some (.int .i64 gn)/\
 Br (gn == 0) (
 ∃tr,oR.cell? ((⟨r3,0,none⟩:Addr).add 3)=some (.bool tr)/\
 Br (!tr) (
 stA prog 73 (⟨r6,0,none⟩:Addr) #[.int .i64 0,.int .i64 0,.string (⟨#[]⟩:ByteArray)] oR λyc=>
 zQb prog ds yc λsw=>
 ∃ag,sw.cell? ((⟨r6,0,none⟩:Addr).add 0)=some (.int .i64 ag)/\
 ∃aj,sw.cell? ((⟨r6,0,none⟩:Addr).add 1)=some (.int .i64 aj)/\
 ∃ak,sw.cell? ((⟨r6,0,none⟩:Addr).add 2)=some (.string ak)/\
 R (.returned (.tuple #[.agg #[.int .i64 ag,.int .i64 aj,.string ak],.int .i64 7])) sw) (
 ∃nj,oR.cell? ((⟨r5,0,none⟩:Addr).add 0)=some (.int .i64 nj)/\
 ∃nl,oR.cell? ((⟨r5,0,none⟩:Addr).add 1)=some (.int .i64 nl)/\
 ∃nn,oR.cell? ((⟨r5,0,none⟩:Addr).add 2)=some (.string nn)/\
 stA prog 73 (⟨r6,0,none⟩:Addr) #[.int .i64 nj,.int .i64 nl,.string nn] oR λyd=>
 zQb prog ds yd λqz=>
 ∃ag,qz.cell? ((⟨r6,0,none⟩:Addr).add 0)=some (.int .i64 ag)/\
 ∃aj,qz.cell? ((⟨r6,0,none⟩:Addr).add 1)=some (.int .i64 aj)/\
 ∃ak,qz.cell? ((⟨r6,0,none⟩:Addr).add 2)=some (.string ak)/\
 R (.returned (.tuple #[.agg #[.int .i64 ag,.int .i64 aj,.string ak],.int .i64 0])) qz)) (
 dwE oR λye=>
 ∃S1:World->Prop,S1 ye/\
 ∃tj,(∀w',S1 w'->w'.cell? (⟨r5,0,none⟩:Addr)=some (.int .i64 tj))/\
 ∃tt,(∀w',S1 w'->w'.cell? ((⟨r3,0,none⟩:Addr).add 0)=some (.string tt))/\
 ∃tu,(∀w',S1 w'->w'.cell? ((⟨r3,0,none⟩:Addr).add 1)=some (.int .i64 tu))/\
 ∃tv,(∀w',S1 w'->w'.cell? ((⟨r3,0,none⟩:Addr).add 2)=some (.int .i64 tv))/\
 ∃tw,(∀w',S1 w'->w'.cell? ((⟨r3,0,none⟩:Addr).add 3)=some (.bool tw))/\
 Calls prog 118 #[.agg #[.string tt,.int .i64 tu,.int .i64 tv,.bool tw]] ye λe tx=>
 ∃gu:Int,∃yf:Int,∃yg:ByteArray,e=.returned (.agg #[.int .i64 gu,.int .i64 yf,.string yg])/\
 S1 tx/\
 Br (tj != gu) (
 stA prog 73 (⟨r6,0,none⟩:Addr) #[.int .i64 0,.int .i64 0,.string (⟨#[]⟩:ByteArray)] tx λwq=>
 zQb prog ds wq λoS=>
 ∃ag,oS.cell? ((⟨r6,0,none⟩:Addr).add 0)=some (.int .i64 ag)/\
 ∃aj,oS.cell? ((⟨r6,0,none⟩:Addr).add 1)=some (.int .i64 aj)/\
 ∃ak,oS.cell? ((⟨r6,0,none⟩:Addr).add 2)=some (.string ak)/\
 R (.returned (.tuple #[.agg #[.int .i64 ag,.int .i64 aj,.string ak],.int .i64 6])) oS) (
 ∃oD,tx.cell? ((⟨r3,0,none⟩:Addr).add 1)=some (.int .i64 oD)/\
 F83_1 R n1 (some (⟨r3,0,none⟩:Addr)) (some (⟨r5,0,none⟩:Addr)) (some (⟨r6,0,none⟩:Addr)) oD ds tx)))))
theorem F83_p:Pl prog f83 [aS 0 [.str,.int .i64,.int .i64,.bool],iS 1,aS 2 [.int .i64,.int .i64,.str]] F83_2:=λR=>
 pc 11 (rest [iS 1,pS 3,pS 5,pS 6,iS 42] (F83_1 R) lf)
theorem xQC (aW:ByteArray) (aJ aX:Int) (aY:Bool) (n1 dp ei:Int) (eo:ByteArray) (w:World) (R:Rt) (h:F83_2 R aW aJ aX aY n1 dp ei eo [] w):Calls prog 83 #[.agg #[.string aW,.int .i64 aJ,.int .i64 aX,.bool aY],.int .i64 n1,.agg #[.int .i64 dp,.int .i64 ei,.string eo]] w R:=
 plC F83_p func83 h
def xKd(R:Rt)(aW:ByteArray)(aJ aX:Int)(aY:Bool)(n1 dp ei:Int)(eo:ByteArray)(ds:Ds)(w:World):Prop:=
 alE (.cells #[.string aW,.int .i64 aJ,.int .i64 aX,.bool aY] 129) w λr3 w1=>
 alE (.cells #[.int .i64 dp,.int .i64 ei,.string eo] 73) w1 λr5 w2=>
 alE (.cells #[.int .i64 0,.int .i64 0,.string (⟨#[]⟩:ByteArray)] 73) w2 λr6 w3=>
 ∃yh,w3.cell? ((⟨r3,0,none⟩:Addr).add 0)=some (.string yh)/\
 ∃eu,w3.cell? ((⟨r3,0,none⟩:Addr).add 1)=some (.int .i64 eu)/\
 ∃qQ,w3.cell? ((⟨r3,0,none⟩:Addr).add 2)=some (.int .i64 qQ)/\
 ∃yi,w3.cell? ((⟨r3,0,none⟩:Addr).add 3)=some (.bool yi)/\
 Calls prog 91 #[.agg #[.string yh,.int .i64 eu,.int .i64 qQ,.bool yi]] w3 λe w4=>
 ∃dS:Bool,e=.returned (.bool dS)/\
 Br (!dS) (
 stA prog 73 (⟨r6,0,none⟩:Addr) #[.int .i64 0,.int .i64 0,.string (⟨#[]⟩:ByteArray)] w4 λw5=>
 zQb prog ds w5 λw6=>
 ∃ag,w6.cell? ((⟨r6,0,none⟩:Addr).add 0)=some (.int .i64 ag)/\
 ∃aj,w6.cell? ((⟨r6,0,none⟩:Addr).add 1)=some (.int .i64 aj)/\
 ∃ak,w6.cell? ((⟨r6,0,none⟩:Addr).add 2)=some (.string ak)/\
 R (.returned (.tuple #[.agg #[.int .i64 ag,.int .i64 aj,.string ak],.int .i64 1])) w6) (
 Calls prog 52 #[.int .i64 n1] w4 λe w7=>
 ∃gS:Bool,e=.returned (.bool gS)/\
 Br (!gS) (
 stA prog 73 (⟨r6,0,none⟩:Addr) #[.int .i64 0,.int .i64 0,.string (⟨#[]⟩:ByteArray)] w7 λw8=>
 zQb prog ds w8 λw9=>
 ∃ag,w9.cell? ((⟨r6,0,none⟩:Addr).add 0)=some (.int .i64 ag)/\
 ∃aj,w9.cell? ((⟨r6,0,none⟩:Addr).add 1)=some (.int .i64 aj)/\
 ∃ak,w9.cell? ((⟨r6,0,none⟩:Addr).add 2)=some (.string ak)/\
 R (.returned (.tuple #[.agg #[.int .i64 ag,.int .i64 aj,.string ak],.int .i64 1])) w9) (
 ∃gv,w7.cell? ((⟨r5,0,none⟩:Addr).add 0)=some (.int .i64 gv)/\
 ∃gf,w7.cell? ((⟨r5,0,none⟩:Addr).add 1)=some (.int .i64 gf)/\
 ∃tz,w7.cell? ((⟨r5,0,none⟩:Addr).add 2)=some (.string tz)/\
 Calls prog 132 #[.agg #[.int .i64 gv,.int .i64 gf,.string tz]] w7 λe aO=>
 ∃jb:Int,e=.returned (.int .i64 jb)/\
 Br (jb != 0) (
 stA prog 73 (⟨r6,0,none⟩:Addr) #[.int .i64 0,.int .i64 0,.string (⟨#[]⟩:ByteArray)] aO λaR=>
 zQb prog ds aR λaM=>
 ∃ag,aM.cell? ((⟨r6,0,none⟩:Addr).add 0)=some (.int .i64 ag)/\
 ∃aj,aM.cell? ((⟨r6,0,none⟩:Addr).add 1)=some (.int .i64 aj)/\
 ∃ak,aM.cell? ((⟨r6,0,none⟩:Addr).add 2)=some (.string ak)/\
 R (.returned (.tuple #[.agg #[.int .i64 ag,.int .i64 aj,.string ak],.int .i64 jb])) aM) (
 ∃np,aO.cell? ((⟨r3,0,none⟩:Addr).add 0)=some (.string np)/\
 ∃jv,aO.cell? ((⟨r3,0,none⟩:Addr).add 1)=some (.int .i64 jv)/\
 ∃nq,aO.cell? ((⟨r3,0,none⟩:Addr).add 2)=some (.int .i64 nq)/\
 ∃nr,aO.cell? ((⟨r3,0,none⟩:Addr).add 3)=some (.bool nr)/\
 ∃eO,aO.cell? ((⟨r5,0,none⟩:Addr).add 0)=some (.int .i64 eO)/\
 ∃fm,aO.cell? ((⟨r5,0,none⟩:Addr).add 1)=some (.int .i64 fm)/\
 ∃tA,aO.cell? ((⟨r5,0,none⟩:Addr).add 2)=some (.string tA)/\
 Calls prog 139 #[.agg #[.string np,.int .i64 jv,.int .i64 nq,.bool nr],.int .i64 n1,.agg #[.int .i64 eO,.int .i64 fm,.string tA]] aO λe aH=>
 ∃pm:Int,∃pn:Int,∃po:ByteArray,∃tB:Int,e=.returned (.tuple #[.agg #[.int .i64 pm,.int .i64 pn,.string po],.int .i64 tB])/\
 stA prog 73 (⟨r6,0,none⟩:Addr) #[.int .i64 pm,.int .i64 pn,.string po] aH λbo=>
 zQb prog ds bo λbt=>
 ∃ag,bt.cell? ((⟨r6,0,none⟩:Addr).add 0)=some (.int .i64 ag)/\
 ∃aj,bt.cell? ((⟨r6,0,none⟩:Addr).add 1)=some (.int .i64 aj)/\
 ∃ak,bt.cell? ((⟨r6,0,none⟩:Addr).add 2)=some (.string ak)/\
 R (.returned (.tuple #[.agg #[.int .i64 ag,.int .i64 aj,.string ak],.int .i64 tB])) bt)))
theorem F104_p:Pl prog f104 [aS 0 [.str,.int .i64,.int .i64,.bool],iS 1,aS 2 [.int .i64,.int .i64,.str]] xKd:=λR=>
 lf
theorem yVA (aW:ByteArray) (aJ aX:Int) (aY:Bool) (n1 dp ei:Int) (eo:ByteArray) (w:World) (R:Rt) (h:xKd R aW aJ aX aY n1 dp ei eo [] w):Calls prog 104 #[.agg #[.string aW,.int .i64 aJ,.int .i64 aX,.bool aY],.int .i64 n1,.agg #[.int .i64 dp,.int .i64 ei,.string eo]] w R:=
 plC F104_p func104 h
def xVC(R:Rt)(aW:ByteArray)(aJ aX:Int)(aY:Bool)(n1 dp ei:Int)(eo:ByteArray)(ds:Ds)(w:World):Prop:=
 alE (.cells #[.string aW,.int .i64 aJ,.int .i64 aX,.bool aY] 129) w λr3 w1=>
 alE (.cells #[.int .i64 dp,.int .i64 ei,.string eo] 73) w1 λr5 w2=>
 alE (.cells #[.int .i64 0,.int .i64 0,.string (⟨#[]⟩:ByteArray)] 73) w2 λr6 w3=>
 ∃cF,w3.cell? (⟨r5,0,none⟩:Addr)=some (.int .i64 cF)/\
 Br (cF == 0) (
 ∃gS,w3.cell? ((⟨r3,0,none⟩:Addr).add 3)=some (.bool gS)/\
 Br (!gS) (
 stA prog 73 (⟨r6,0,none⟩:Addr) #[.int .i64 0,.int .i64 0,.string (⟨#[]⟩:ByteArray)] w3 λw4=>
 zQb prog ds w4 λw5=>
 ∃ag,w5.cell? ((⟨r6,0,none⟩:Addr).add 0)=some (.int .i64 ag)/\
 ∃aj,w5.cell? ((⟨r6,0,none⟩:Addr).add 1)=some (.int .i64 aj)/\
 ∃ak,w5.cell? ((⟨r6,0,none⟩:Addr).add 2)=some (.string ak)/\
 R (.returned (.tuple #[.agg #[.int .i64 ag,.int .i64 aj,.string ak],.int .i64 7])) w5) (
 ∃gw,w3.cell? ((⟨r5,0,none⟩:Addr).add 0)=some (.int .i64 gw)/\
 ∃iw,w3.cell? ((⟨r5,0,none⟩:Addr).add 1)=some (.int .i64 iw)/\
 ∃tC,w3.cell? ((⟨r5,0,none⟩:Addr).add 2)=some (.string tC)/\
 stA prog 73 (⟨r6,0,none⟩:Addr) #[.int .i64 gw,.int .i64 iw,.string tC] w3 λw6=>
 zQb prog ds w6 λw7=>
 ∃ag,w7.cell? ((⟨r6,0,none⟩:Addr).add 0)=some (.int .i64 ag)/\
 ∃aj,w7.cell? ((⟨r6,0,none⟩:Addr).add 1)=some (.int .i64 aj)/\
 ∃ak,w7.cell? ((⟨r6,0,none⟩:Addr).add 2)=some (.string ak)/\
 R (.returned (.tuple #[.agg #[.int .i64 ag,.int .i64 aj,.string ak],.int .i64 0])) w7)) (
 ∃jb,w3.cell? ((⟨r3,0,none⟩:Addr).add 1)=some (.int .i64 jb)/\
 Br (jb == 5) (
 ∃i5,w3.cell? (⟨r5,0,none⟩:Addr)=some (.int .i64 i5)/\
 Br (i5 != 2) (
 stA prog 73 (⟨r6,0,none⟩:Addr) #[.int .i64 0,.int .i64 0,.string (⟨#[]⟩:ByteArray)] w3 λw8=>
 zQb prog ds w8 λw9=>
 ∃ag,w9.cell? ((⟨r6,0,none⟩:Addr).add 0)=some (.int .i64 ag)/\
 ∃aj,w9.cell? ((⟨r6,0,none⟩:Addr).add 1)=some (.int .i64 aj)/\
 ∃ak,w9.cell? ((⟨r6,0,none⟩:Addr).add 2)=some (.string ak)/\
 R (.returned (.tuple #[.agg #[.int .i64 ag,.int .i64 aj,.string ak],.int .i64 6])) w9) (
 ∃kD,w3.cell? ((⟨r3,0,none⟩:Addr).add 1)=some (.int .i64 kD)/\
 Br (kD == 4) (
 ∃qR,w3.cell? ((⟨r5,0,none⟩:Addr).add 2)=some (.string qR)/\
 ∃tD,w3.cell? ((⟨r5,0,none⟩:Addr).add 2)=some (.string tD)/\
 ∃i6,w3.cell? ((⟨r3,0,none⟩:Addr).add 2)=some (.int .i64 i6)/\
 ∃iv:Int,∃aO,(Builtin.min_ #[3,3] 3 #[.int .i64 (tD.size:Int),.int .i64 i6]).run prog w3=.ok (.int .i64 iv) aO/\
 0<=iv/\iv.toNat<=qR.size/\0<=iv.toNat/\
 Calls prog 135 #[.string (qR.extract 0 iv.toNat)] aO λe aR=>
 ∃qS:ByteArray,e=.returned (.string qS)/\
 Calls prog 136 #[.string qS,.int .i64 n1] aR λe aM=>
 ∃qM:Bool,e=.returned (.bool qM)/\
 Br (!qM) (
 stA prog 73 (⟨r6,0,none⟩:Addr) #[.int .i64 0,.int .i64 0,.string (⟨#[]⟩:ByteArray)] aM λaH=>
 zQb prog ds aH λbo=>
 ∃ag,bo.cell? ((⟨r6,0,none⟩:Addr).add 0)=some (.int .i64 ag)/\
 ∃aj,bo.cell? ((⟨r6,0,none⟩:Addr).add 1)=some (.int .i64 aj)/\
 ∃ak,bo.cell? ((⟨r6,0,none⟩:Addr).add 2)=some (.string ak)/\
 R (.returned (.tuple #[.agg #[.int .i64 ag,.int .i64 aj,.string ak],.int .i64 10])) bo) (
 Calls prog 177 #[.string qS] aM λe bt=>
 ∃gg:Int,∃gh:Int,∃gi:ByteArray,e=.returned (.agg #[.int .i64 gg,.int .i64 gh,.string gi])/\
 stA prog 73 (⟨r6,0,none⟩:Addr) #[.int .i64 gg,.int .i64 gh,.string gi] bt λbB=>
 zQb prog ds bB λbG=>
 ∃ag,bG.cell? ((⟨r6,0,none⟩:Addr).add 0)=some (.int .i64 ag)/\
 ∃aj,bG.cell? ((⟨r6,0,none⟩:Addr).add 1)=some (.int .i64 aj)/\
 ∃ak,bG.cell? ((⟨r6,0,none⟩:Addr).add 2)=some (.string ak)/\
 R (.returned (.tuple #[.agg #[.int .i64 ag,.int .i64 aj,.string ak],.int .i64 0])) bG)) (
 ∃jw,w3.cell? ((⟨r3,0,none⟩:Addr).add 0)=some (.string jw)/\
 ∃cG,w3.cell? ((⟨r3,0,none⟩:Addr).add 1)=some (.int .i64 cG)/\
 ∃jx,w3.cell? ((⟨r3,0,none⟩:Addr).add 2)=some (.int .i64 jx)/\
 ∃jy,w3.cell? ((⟨r3,0,none⟩:Addr).add 3)=some (.bool jy)/\
 ∃gx,w3.cell? ((⟨r5,0,none⟩:Addr).add 0)=some (.int .i64 gx)/\
 ∃jz,w3.cell? ((⟨r5,0,none⟩:Addr).add 1)=some (.int .i64 jz)/\
 ∃jA,w3.cell? ((⟨r5,0,none⟩:Addr).add 2)=some (.string jA)/\
 Calls prog 93 #[.agg #[.string jw,.int .i64 cG,.int .i64 jx,.bool jy],.int .i64 n1,.agg #[.int .i64 gx,.int .i64 jz,.string jA]] w3 λe bI=>
 ∃tE:Bool,e=.returned (.bool tE)/\
 Br (!tE) (
 stA prog 73 (⟨r6,0,none⟩:Addr) #[.int .i64 0,.int .i64 0,.string (⟨#[]⟩:ByteArray)] bI λcE=>
 zQb prog ds cE λbO=>
 ∃ag,bO.cell? ((⟨r6,0,none⟩:Addr).add 0)=some (.int .i64 ag)/\
 ∃aj,bO.cell? ((⟨r6,0,none⟩:Addr).add 1)=some (.int .i64 aj)/\
 ∃ak,bO.cell? ((⟨r6,0,none⟩:Addr).add 2)=some (.string ak)/\
 R (.returned (.tuple #[.agg #[.int .i64 ag,.int .i64 aj,.string ak],.int .i64 10])) bO) (
 ∃eQ,bI.cell? ((⟨r5,0,none⟩:Addr).add 0)=some (.int .i64 eQ)/\
 ∃eR,bI.cell? ((⟨r5,0,none⟩:Addr).add 1)=some (.int .i64 eR)/\
 ∃jB,bI.cell? ((⟨r5,0,none⟩:Addr).add 2)=some (.string jB)/\
 stA prog 73 (⟨r6,0,none⟩:Addr) #[.int .i64 eQ,.int .i64 eR,.string jB] bI λcq=>
 zQb prog ds cq λd7=>
 ∃ag,d7.cell? ((⟨r6,0,none⟩:Addr).add 0)=some (.int .i64 ag)/\
 ∃aj,d7.cell? ((⟨r6,0,none⟩:Addr).add 1)=some (.int .i64 aj)/\
 ∃ak,d7.cell? ((⟨r6,0,none⟩:Addr).add 2)=some (.string ak)/\
 R (.returned (.tuple #[.agg #[.int .i64 ag,.int .i64 aj,.string ak],.int .i64 0])) d7)))) (
 ∃i5,w3.cell? (⟨r5,0,none⟩:Addr)=some (.int .i64 i5)/\
 Br (i5 != jb) (
 stA prog 73 (⟨r6,0,none⟩:Addr) #[.int .i64 0,.int .i64 0,.string (⟨#[]⟩:ByteArray)] w3 λdU=>
 zQb prog ds dU λdD=>
 ∃ag,dD.cell? ((⟨r6,0,none⟩:Addr).add 0)=some (.int .i64 ag)/\
 ∃aj,dD.cell? ((⟨r6,0,none⟩:Addr).add 1)=some (.int .i64 aj)/\
 ∃ak,dD.cell? ((⟨r6,0,none⟩:Addr).add 2)=some (.string ak)/\
 R (.returned (.tuple #[.agg #[.int .i64 ag,.int .i64 aj,.string ak],.int .i64 6])) dD) (
 ∃kD,w3.cell? ((⟨r3,0,none⟩:Addr).add 1)=some (.int .i64 kD)/\
 Br (kD == 4) (
 ∃qR,w3.cell? ((⟨r5,0,none⟩:Addr).add 2)=some (.string qR)/\
 ∃tD,w3.cell? ((⟨r5,0,none⟩:Addr).add 2)=some (.string tD)/\
 ∃i6,w3.cell? ((⟨r3,0,none⟩:Addr).add 2)=some (.int .i64 i6)/\
 ∃iv:Int,∃gy,(Builtin.min_ #[3,3] 3 #[.int .i64 (tD.size:Int),.int .i64 i6]).run prog w3=.ok (.int .i64 iv) gy/\
 0<=iv/\iv.toNat<=qR.size/\0<=iv.toNat/\
 Calls prog 135 #[.string (qR.extract 0 iv.toNat)] gy λe fX=>
 ∃qS:ByteArray,e=.returned (.string qS)/\
 Calls prog 136 #[.string qS,.int .i64 n1] fX λe iy=>
 ∃qM:Bool,e=.returned (.bool qM)/\
 Br (!qM) (
 stA prog 73 (⟨r6,0,none⟩:Addr) #[.int .i64 0,.int .i64 0,.string (⟨#[]⟩:ByteArray)] iy λeg=>
 zQb prog ds eg λgb=>
 ∃ag,gb.cell? ((⟨r6,0,none⟩:Addr).add 0)=some (.int .i64 ag)/\
 ∃aj,gb.cell? ((⟨r6,0,none⟩:Addr).add 1)=some (.int .i64 aj)/\
 ∃ak,gb.cell? ((⟨r6,0,none⟩:Addr).add 2)=some (.string ak)/\
 R (.returned (.tuple #[.agg #[.int .i64 ag,.int .i64 aj,.string ak],.int .i64 10])) gb) (
 Calls prog 177 #[.string qS] iy λe iK=>
 ∃gg:Int,∃gh:Int,∃gi:ByteArray,e=.returned (.agg #[.int .i64 gg,.int .i64 gh,.string gi])/\
 stA prog 73 (⟨r6,0,none⟩:Addr) #[.int .i64 gg,.int .i64 gh,.string gi] iK λil=>
 zQb prog ds il λgz=>
 ∃ag,gz.cell? ((⟨r6,0,none⟩:Addr).add 0)=some (.int .i64 ag)/\
 ∃aj,gz.cell? ((⟨r6,0,none⟩:Addr).add 1)=some (.int .i64 aj)/\
 ∃ak,gz.cell? ((⟨r6,0,none⟩:Addr).add 2)=some (.string ak)/\
 R (.returned (.tuple #[.agg #[.int .i64 ag,.int .i64 aj,.string ak],.int .i64 0])) gz)) (
 ∃jw,w3.cell? ((⟨r3,0,none⟩:Addr).add 0)=some (.string jw)/\
 ∃cG,w3.cell? ((⟨r3,0,none⟩:Addr).add 1)=some (.int .i64 cG)/\
 ∃jx,w3.cell? ((⟨r3,0,none⟩:Addr).add 2)=some (.int .i64 jx)/\
 ∃jy,w3.cell? ((⟨r3,0,none⟩:Addr).add 3)=some (.bool jy)/\
 ∃gx,w3.cell? ((⟨r5,0,none⟩:Addr).add 0)=some (.int .i64 gx)/\
 ∃jz,w3.cell? ((⟨r5,0,none⟩:Addr).add 1)=some (.int .i64 jz)/\
 ∃jA,w3.cell? ((⟨r5,0,none⟩:Addr).add 2)=some (.string jA)/\
 Calls prog 93 #[.agg #[.string jw,.int .i64 cG,.int .i64 jx,.bool jy],.int .i64 n1,.agg #[.int .i64 gx,.int .i64 jz,.string jA]] w3 λe gk=>
 ∃tE:Bool,e=.returned (.bool tE)/\
 Br (!tE) (
 stA prog 73 (⟨r6,0,none⟩:Addr) #[.int .i64 0,.int .i64 0,.string (⟨#[]⟩:ByteArray)] gk λgd=>
 zQb prog ds gd λjV=>
 ∃ag,jV.cell? ((⟨r6,0,none⟩:Addr).add 0)=some (.int .i64 ag)/\
 ∃aj,jV.cell? ((⟨r6,0,none⟩:Addr).add 1)=some (.int .i64 aj)/\
 ∃ak,jV.cell? ((⟨r6,0,none⟩:Addr).add 2)=some (.string ak)/\
 R (.returned (.tuple #[.agg #[.int .i64 ag,.int .i64 aj,.string ak],.int .i64 10])) jV) (
 ∃eQ,gk.cell? ((⟨r5,0,none⟩:Addr).add 0)=some (.int .i64 eQ)/\
 ∃eR,gk.cell? ((⟨r5,0,none⟩:Addr).add 1)=some (.int .i64 eR)/\
 ∃jB,gk.cell? ((⟨r5,0,none⟩:Addr).add 2)=some (.string jB)/\
 stA prog 73 (⟨r6,0,none⟩:Addr) #[.int .i64 eQ,.int .i64 eR,.string jB] gk λsA=>
 zQb prog ds sA λoT=>
 ∃ag,oT.cell? ((⟨r6,0,none⟩:Addr).add 0)=some (.int .i64 ag)/\
 ∃aj,oT.cell? ((⟨r6,0,none⟩:Addr).add 1)=some (.int .i64 aj)/\
 ∃ak,oT.cell? ((⟨r6,0,none⟩:Addr).add 2)=some (.string ak)/\
 R (.returned (.tuple #[.agg #[.int .i64 ag,.int .i64 aj,.string ak],.int .i64 0])) oT)))))
theorem F139_p:Pl prog f139 [aS 0 [.str,.int .i64,.int .i64,.bool],iS 1,aS 2 [.int .i64,.int .i64,.str]] xVC:=λR=>
 lf
theorem yWF (aW:ByteArray) (aJ aX:Int) (aY:Bool) (n1 dp ei:Int) (eo:ByteArray) (w:World) (R:Rt) (h:xVC R aW aJ aX aY n1 dp ei eo [] w):Calls prog 139 #[.agg #[.string aW,.int .i64 aJ,.int .i64 aX,.bool aY],.int .i64 n1,.agg #[.int .i64 dp,.int .i64 ei,.string eo]] w R:=
 plC F139_p func139 h
def F93_1(R:Rt)(aW:ByteArray)(aJ aX:Int)(aY:Bool)(n1 dp ei:Int)(eo:ByteArray)(ds:Ds)(w:World):Prop:=
 alE (.cells #[.string aW,.int .i64 aJ,.int .i64 aX,.bool aY] 129) w λr3 w1=>
 alE (.cells #[.int .i64 dp,.int .i64 ei,.string eo] 73) w1 λr5 w2=>
 ∃eH,w2.cell? ((⟨r5,0,none⟩:Addr).add 0)=some (.int .i64 eH)/\
 ∃dE,w2.cell? ((⟨r5,0,none⟩:Addr).add 1)=some (.int .i64 dE)/\
 ∃qK,w2.cell? ((⟨r5,0,none⟩:Addr).add 2)=some (.string qK)/\
 Calls prog 132 #[.agg #[.int .i64 eH,.int .i64 dE,.string qK]] w2 λe w3=>
 ∃n8:Int,e=.returned (.int .i64 n8)/\
 Br (n8 != 0) (
 zQb prog ds w3 λw4=>
 R (.returned (.bool false)) w4) (
 ∃dy,w3.cell? (⟨r5,0,none⟩:Addr)=some (.int .i64 dy)/\
 Br (dy == 0) (
 ∃jW,w3.cell? ((⟨r3,0,none⟩:Addr).add 3)=some (.bool jW)/\
 zQb prog ds w3 λw5=>
 R (.returned (.bool jW)) w5) (
 ∃iI,w3.cell? ((⟨r3,0,none⟩:Addr).add 1)=some (.int .i64 iI)/\
 Br (iI == 5) (
 ∃kE,w3.cell? (⟨r5,0,none⟩:Addr)=some (.int .i64 kE)/\
 Br (kE == 2) (
 ∃ck,w3.cell? ((⟨r5,0,none⟩:Addr).add 1)=some (.int .i64 ck)/\
 Calls prog 133 #[.int .i64 ck] w3 λe w6=>
 ∃qA:Bool,e=.returned (.bool qA)/\
 zQb prog ds w6 λw7=>
 R (.returned (.bool qA)) w7) (
 zQb prog ds w3 λw8=>
 R (.returned (.bool false)) w8)) (
 ∃qT,w3.cell? (⟨r5,0,none⟩:Addr)=some (.int .i64 qT)/\
 ∃pq,w3.cell? ((⟨r3,0,none⟩:Addr).add 1)=some (.int .i64 pq)/\
 Br (qT != pq) (
 zQb prog ds w3 λw9=>
 R (.returned (.bool false)) w9) (
 ∃i6,w3.cell? ((⟨r3,0,none⟩:Addr).add 1)=some (.int .i64 i6)/\
 Br (i6 == 2) (
 dwE w3 λaO=>
 ∃S1:World->Prop,S1 aO/\
 ∃e7,(∀w',S1 w'->w'.cell? ((⟨r5,0,none⟩:Addr).add 1)=some (.int .i64 e7))/\
 ∃eF,(∀w',S1 w'->w'.cell? ((⟨r3,0,none⟩:Addr).add 2)=some (.int .i64 eF))/\
 Calls prog 134 #[.int .i64 e7] aO λe aR=>
 ∃s40:ByteArray,e=.returned (.string s40)/\
 S1 aR/\
 zQb prog ds aR λaM=>
 R (.returned (.bool (decide ((s40.size:Int)<=eF)))) aM) (
 ∃n47,w3.cell? ((⟨r3,0,none⟩:Addr).add 1)=some (.int .i64 n47)/\
 Br (n47 == 4) (
 dwE w3 λaH=>
 ∃S2:World->Prop,S2 aH/\
 ∃s50,(∀w',S2 w'->w'.cell? ((⟨r5,0,none⟩:Addr).add 2)=some (.string s50))/\
 ∃i7,(∀w',S2 w'->w'.cell? ((⟨r3,0,none⟩:Addr).add 2)=some (.int .i64 i7))/\
 Br (decide ((s50.size:Int)<=i7)) (
 ∃x6,(∀w',S2 w'->w'.cell? ((⟨r5,0,none⟩:Addr).add 2)=some (.string x6))/\
 ∃s60,(∀w',S2 w'->w'.cell? ((⟨r5,0,none⟩:Addr).add 2)=some (.string s60))/\
 Calls prog 135 #[.string x6] aH λe bo=>
 ∃s58:ByteArray,e=.returned (.string s58)/\
 S2 bo/\
 Br (s58.toList == s60.toList) (
 ∃s65,(∀w',S2 w'->w'.cell? ((⟨r5,0,none⟩:Addr).add 2)=some (.string s65))/\
 Calls prog 136 #[.string s65,.int .i64 n1] bo λe bt=>
 ∃qU:Bool,e=.returned (.bool qU)/\
 zQb prog ds bt λbB=>
 R (.returned (.bool qU)) bB) (
 zQb prog ds bo λbG=>
 R (.returned (.bool false)) bG)) (
 zQb prog ds aH λbI=>
 R (.returned (.bool false)) bI)) (
 zQb prog ds w3 λcE=>
 R (.returned (.bool true)) cE))))))
theorem F93_p:Pl prog f93 [aS 0 [.str,.int .i64,.int .i64,.bool],iS 1,aS 2 [.int .i64,.int .i64,.str]] F93_1:=λR=>
 lf
theorem yYz (aW:ByteArray) (aJ aX:Int) (aY:Bool) (n1 dp ei:Int) (eo:ByteArray) (w:World) (R:Rt) (h:F93_1 R aW aJ aX aY n1 dp ei eo [] w):Calls prog 93 #[.agg #[.string aW,.int .i64 aJ,.int .i64 aX,.bool aY],.int .i64 n1,.agg #[.int .i64 dp,.int .i64 ei,.string eo]] w R:=
 plC F93_p func93 h
def xW0(R:Rt)(n0:Int)(ds:Ds)(w:World):Prop:=
 Br (decide (n0 >= 0)) (
 zQb prog ds w λw1=>
 R (.returned (.bool (decide (n0<=99999999)))) w1) (
 zQb prog ds w λw2=>
 R (.returned (.bool false)) w2)
theorem F133_p:Pl prog f133 [iS 0] xW0:=λR=>
 lf
theorem yVF (n0:Int) (w:World) (R:Rt) (h:xW0 R n0 [] w):Calls prog 133 #[.int .i64 n0] w R:=
 plC F133_p func133 h
end Go.Proofs.YtaeecpjhfmcliaaGreatDoor
/- Shallow texts of functions, printed by program, each checked by the kernel against the loaded code. No condition. -/
namespace Go.Proofs.YtaeecpjhfmcliaaGreatDoor
open Go.Sh Tryz
def xVu(R:Rt)(l0:SV)(ds:Ds)(w:World):Prop:=
 Br (decide ((l0.len:Int) > 16)) (
 zQb prog ds w λw1=>
 R (.returned (.int .i64 3)) w1) (
 Calls prog 161 #[l0.v] w λe w2=>
 ∃oK:Int,e=.returned (.int .i64 oK)/\
 Br (decide (oK > 2000)) (
 zQb prog ds w2 λw3=>
 R (.returned (.int .i64 3)) w3) (
 zQb prog ds w2 λw4=>
 R (.returned (.int .i64 0)) w4))
def xKX (R:Rt) (J1:(Int)->World->Prop) (l0:SV) (m3:Option Nat) (bP:SV) (kJ n16:Int) (ds:Ds) (w:World):Prop:=
 Br (decide (n16<kJ)) (
 ∃a5,bP.a=some a5/\0<=n16/\n16<(bP.len:Int)/\
 ∃jC,w.cell? ((a5.add (n16.toNat * 4)).add 0)=some (.string jC)/\
 ∃bQ,w.cell? ((a5.add (n16.toNat * 4)).add 1)=some (.int .i64 bQ)/\
 ∃jD,w.cell? ((a5.add (n16.toNat * 4)).add 2)=some (.int .i64 jD)/\
 ∃gA,w.cell? ((a5.add (n16.toNat * 4)).add 3)=some (.bool gA)/\
 alE (.cells #[.string (⟨#[]⟩:ByteArray),.int .i64 0,.int .i64 0,.bool false] 129) w λr5 w6=>
 stA prog 129 (⟨r5,0,none⟩:Addr) #[.string jC,.int .i64 bQ,.int .i64 jD,.bool gA] w6 λw7=>
 ∃xn,w7.cell? (⟨r5,0,none⟩:Addr)=some (.string xn)/\
 ∃qa:Bool,∃w8,(Instr.lookup 206 (.map m3) (.string xn) false).run prog w7=.ok (.bool qa) w8/\
 Br qa (
 zQb prog ds w8 λw9=>
 R (.returned (.int .i64 5)) w9) (
 ∃s26,w8.cell? (⟨r5,0,none⟩:Addr)=some (.string s26)/\
 doE prog (Instr.mapUpdate 206 (.map m3) (.string s26) (.bool true)) w8 λaO=>
 J1 (IntKind.i64.wrap (n16+1)) aO)) (
 xVu R l0 ds w)
def xKv(R:Rt)(l0:SV)(m3:Option Nat)(bP:SV)(kJ n16:Int)(ds:Ds)(w:World):Prop:=
 zQA (λ(J1:(Int)->World->Prop) (s:Int) (w:World)=>xKX R J1 l0 m3 bP kJ s ds w) n16 w
def xVZ(R:Rt)(l0:SV)(ds:Ds)(w:World):Prop:=
 Br ((l0.len:Int) == 0) (
 zQb prog ds w λaR=>
 R (.returned (.int .i64 1)) aR) (
 Calls prog 178 #[l0.v,.func (.func 179) #[] #[]] w λe aM=>
 ∃qb:Bool,e=.returned (.bool qb)/\
 Br qb (
 zQb prog ds aM λaH=>
 R (.returned (.int .i64 1)) aH) (
 alE (.map #[] 0) aM λnt bo=>
 xKv R l0 (some nt) l0 (l0.len:Int) 0 ds bo))
theorem F141_p:Pl prog f141 [lS 0] xVZ:=λR=>
 pc 5 (rest [lS 0,mS 3,lS 14,iS 15,iS 16] (xKv R) (bk 0 (rest [lS 0] (xVu R) lf) (lp [iS 16] [lS 0,mS 3,lS 14,iS 15,iS 16] (xKX R) zXH λJ1=>lf)))
theorem yVQ (l0:SV) (w:World) (R:Rt) (h:xVZ R l0 [] w):Calls prog 141 #[l0.v] w R:=
 plC F141_p func141 h
def xKR(R:Rt)(l0:SV)(v1:Value)(ds:Ds)(w:World):Prop:=
 Calls prog 113 #[l0.v,v1] w λe w1=>
 ∃n7:Int,e=.returned (.int .i64 n7)/\
 zQb prog ds w1 λw2=>
 R (.returned (.bool (decide (n7 >= 0)))) w2
theorem F178_p:Pl prog f178 [lS 0,vS 1] xKR:=λR=>
 lf
theorem yKR (l0:SV) (v1:Value) (w:World) (R:Rt) (h:xKR R l0 v1 [] w):Calls prog 178 #[l0.v,v1] w R:=
 plC F178_p func178 h
def xW2(R:Rt)(aW:ByteArray)(aJ aX:Int)(aY:Bool)(ds:Ds)(w:World):Prop:=
 alE (.cells #[.string aW,.int .i64 aJ,.int .i64 aX,.bool aY] 129) w λr1 w1=>
 ∃yj,w1.cell? ((⟨r1,0,none⟩:Addr).add 0)=some (.string yj)/\
 ∃gB,w1.cell? ((⟨r1,0,none⟩:Addr).add 1)=some (.int .i64 gB)/\
 ∃oU,w1.cell? ((⟨r1,0,none⟩:Addr).add 2)=some (.int .i64 oU)/\
 ∃yk,w1.cell? ((⟨r1,0,none⟩:Addr).add 3)=some (.bool yk)/\
 Calls prog 115 #[.agg #[.string yj,.int .i64 gB,.int .i64 oU,.bool yk]] w1 λe w2=>
 ∃b4:Bool,e=.returned (.bool b4)/\
 zQb prog ds w2 λw3=>
 R (.returned (.bool (!b4))) w3
theorem F179_p:Pl prog f179 [aS 0 [.str,.int .i64,.int .i64,.bool]] xW2:=λR=>
 lf
theorem yV0 (aW:ByteArray) (aJ aX:Int) (aY:Bool) (w:World) (R:Rt) (h:xW2 R aW aJ aX aY [] w):Calls prog 179 #[.agg #[.string aW,.int .i64 aJ,.int .i64 aX,.bool aY]] w R:=
 plC F179_p func179 h
def xWa(R:Rt)(n3:Int)(ds:Ds)(w:World):Prop:=
 zQb prog ds w λw1=>
 R (.returned (.int .i64 n3)) w1
def xWG (R:Rt) (J1:(Int × Int)->World->Prop) (n3:Int) (l9:SV) (fY cF:Int) (ds:Ds) (w:World):Prop:=
 Br (decide (cF<fY)) (
 ∃a2,l9.a=some a2/\0<=cF/\cF<(l9.len:Int)/\
 ∃tF,w.cell? ((a2.add (cF.toNat * 4)).add 0)=some (.string tF)/\
 ∃tG,w.cell? ((a2.add (cF.toNat * 4)).add 1)=some (.int .i64 tG)/\
 ∃tH,w.cell? ((a2.add (cF.toNat * 4)).add 2)=some (.int .i64 tH)/\
 ∃tI,w.cell? ((a2.add (cF.toNat * 4)).add 3)=some (.bool tI)/\
 alE (.cells #[.string (⟨#[]⟩:ByteArray),.int .i64 0,.int .i64 0,.bool false] 129) w λr5 w3=>
 stA prog 129 (⟨r5,0,none⟩:Addr) #[.string tF,.int .i64 tG,.int .i64 tH,.bool tI] w3 λw4=>
 ∃m4,w4.cell? ((⟨r5,0,none⟩:Addr).add 2)=some (.int .i64 m4)/\
 J1 ((IntKind.i64.wrap (n3+m4)),(IntKind.i64.wrap (cF+1))) w4) (
 xWa R n3 ds w)
def xVF(R:Rt)(n3:Int)(l9:SV)(fY cF:Int)(ds:Ds)(w:World):Prop:=
 zQA (λ(J1:(Int × Int)->World->Prop) (s:Int × Int) (w:World)=>xWG R J1 s.1 l9 fY s.2 ds w) (n3,cF) w
def xWL(R:Rt)(l0:SV)(ds:Ds)(w:World):Prop:=
 Calls prog 203 #[l0.v] w λe w5=>
 ∃n7:Int,e=.returned (.int .i64 n7)/\
 xVF R (IntKind.i64.wrap ((1:Int)+n7)) l0 (l0.len:Int) 0 ds w5
theorem F161_p:Pl prog f161 [lS 0] xWL:=λR=>
 pc 3 (rest [iS 3,lS 9,iS 10,iS 11] (xVF R) (bk 0 (rest [iS 3] (xWa R) lf) (lp [iS 3,iS 11] [iS 3,lS 9,iS 10,iS 11] (xWG R) zXH λJ1=>lf)))
theorem yVp (l0:SV) (w:World) (R:Rt) (h:xWL R l0 [] w):Calls prog 161 #[l0.v] w R:=
 plC F161_p func161 h
def xVb(R:Rt)(n3:Int)(ds:Ds)(w:World):Prop:=
 IntKind.i64=IntKind.i64/\(8:Int) ≠ 0/\
 zQb prog ds w λw1=>
 R (.returned (.int .i64 (IntKind.i64.wrap ((IntKind.i64.wrap (n3+7)).tdiv 8)))) w1
def xKx (R:Rt) (J1:(Int × Int)->World->Prop) (n3:Int) (l6:SV) (n7 n8:Int) (ds:Ds) (w:World):Prop:=
 Br (decide (n8<n7)) (
 ∃a2,l6.a=some a2/\0<=n8/\n8<(l6.len:Int)/\
 ∃js,w.cell? ((a2.add (n8.toNat * 4)).add 0)=some (.string js)/\
 ∃dZ,w.cell? ((a2.add (n8.toNat * 4)).add 1)=some (.int .i64 dZ)/\
 ∃jt,w.cell? ((a2.add (n8.toNat * 4)).add 2)=some (.int .i64 jt)/\
 ∃ju,w.cell? ((a2.add (n8.toNat * 4)).add 3)=some (.bool ju)/\
 alE (.cells #[.string (⟨#[]⟩:ByteArray),.int .i64 0,.int .i64 0,.bool false] 129) w λr5 w3=>
 stA prog 129 (⟨r5,0,none⟩:Addr) #[.string js,.int .i64 dZ,.int .i64 jt,.bool ju] w3 λw4=>
 ∃jX,w4.cell? ((⟨r5,0,none⟩:Addr).add 3)=some (.bool jX)/\
 Br jX (
 J1 ((IntKind.i64.wrap (n3+1)),(IntKind.i64.wrap (n8+1))) w4) (
 J1 (n3,(IntKind.i64.wrap (n8+1))) w4)) (
 xVb R n3 ds w)
def xKn(R:Rt)(n3:Int)(l6:SV)(n7 n8:Int)(ds:Ds)(w:World):Prop:=
 zQA (λ(J1:(Int × Int)->World->Prop) (s:Int × Int) (w:World)=>xKx R J1 s.1 l6 n7 s.2 ds w) (n3,n8) w
def xWU(R:Rt)(l0:SV)(ds:Ds)(w:World):Prop:=
 xKn R 0 l0 (l0.len:Int) 0 ds w
theorem F203_p:Pl prog f203 [lS 0] xWU:=λR=>
 pc 3 (rest [iS 3,lS 6,iS 7,iS 8] (xKn R) (bk 0 (rest [iS 3] (xVb R) lf) (lp [iS 3,iS 8] [iS 3,lS 6,iS 7,iS 8] (xKx R) zXH λJ1=>lf)))
theorem yVl (l0:SV) (w:World) (R:Rt) (h:xWU R l0 [] w):Calls prog 203 #[l0.v] w R:=
 plC F203_p func203 h
def F53_1(R:Rt)(l0:SV)(ds:Ds)(w:World):Prop:=
 Br (decide ((l0.len:Int) > 16)) (
 zQb prog ds w λw1=>
 R (.returned (.int .i64 3)) w1) (
 Calls prog 92 #[l0.v] w λe w2=>
 ∃dq:Int,e=.returned (.int .i64 dq)/\
 Br (decide (dq > 2000)) (
 zQb prog ds w2 λw3=>
 R (.returned (.int .i64 3)) w3) (
 zQb prog ds w2 λw4=>
 R (.returned (.int .i64 0)) w4))
def F53_2 (R:Rt) (J1:(Int)->World->Prop) (l0:SV) (n4:Int) (ds:Ds) (w:World):Prop:=
 J1 (IntKind.i64.wrap (n4+1)) w
def F53_3 (R:Rt) (J1:(Int)->World->Prop) (J2:(Int)->World->Prop) (l0:SV) (n4 n5:Int) (ds:Ds) (w:World):Prop:=
 Br (decide (n5<n4)) (
 dwE w λw5=>
 ∃a6,l0.a=some a6/\0<=n4/\n4<(l0.len:Int)/\
 ∃s36,w5.cell? (a6.add (n4.toNat * 4))=some (.string s36)/\
 ∃a7,l0.a=some a7/\0<=n5/\n5<(l0.len:Int)/\
 ∃s41,w5.cell? (a7.add (n5.toNat * 4))=some (.string s41)/\
 Br (s36.toList == s41.toList) (
 zQb prog ds w5 λw8=>
 R (.returned (.int .i64 5)) w8) (
 J2 (IntKind.i64.wrap (n5+1)) w5)) (
 F53_2 R J1 l0 n4 ds w)
def F53_4 (R:Rt) (J1:(Int)->World->Prop) (l0:SV) (n4 n5:Int) (ds:Ds) (w:World):Prop:=
 zQA (λ(J2:(Int)->World->Prop) (s:Int) (w:World)=>F53_3 R J1 J2 l0 n4 s ds w) n5 w
def F53_6 (R:Rt) (J1:(Int)->World->Prop) (l0:SV) (n4:Int) (ds:Ds) (w:World):Prop:=
 F53_4 R J1 l0 n4 0 ds w
def F53_8 (R:Rt) (J1:(Int)->World->Prop) (l0:SV) (n4:Int) (ds:Ds) (w:World):Prop:=
 Br (decide (n4<(l0.len:Int))) (
 F53_6 R J1 l0 n4 ds w) (
 F53_1 R l0 ds w)
def F53_9(R:Rt)(l0:SV)(n4:Int)(ds:Ds)(w:World):Prop:=
 zQA (λ(J1:(Int)->World->Prop) (s:Int) (w:World)=>F53_8 R J1 l0 s ds w) n4 w
def xKb(R:Rt)(l0:SV)(ds:Ds)(w:World):Prop:=
 F53_9 R l0 0 ds w
def xWA (R:Rt) (J1:(Int)->World->Prop) (l0:SV) (n3:Int) (ds:Ds) (w:World):Prop:=
 Br (decide (n3<(l0.len:Int))) (
 ∃a9,l0.a=some a9/\0<=n3/\n3<(l0.len:Int)/\
 ∃tJ,w.cell? ((a9.add (n3.toNat * 4)).add 0)=some (.string tJ)/\
 ∃gf,w.cell? ((a9.add (n3.toNat * 4)).add 1)=some (.int .i64 gf)/\
 ∃tK,w.cell? ((a9.add (n3.toNat * 4)).add 2)=some (.int .i64 tK)/\
 ∃tL,w.cell? ((a9.add (n3.toNat * 4)).add 3)=some (.bool tL)/\
 Calls prog 91 #[.agg #[.string tJ,.int .i64 gf,.int .i64 tK,.bool tL]] w λe aO=>
 ∃b19:Bool,e=.returned (.bool b19)/\
 Br (!b19) (
 zQb prog ds aO λaR=>
 R (.returned (.int .i64 1)) aR) (
 J1 (IntKind.i64.wrap (n3+1)) aO)) (
 xKb R l0 ds w)
def xVY(R:Rt)(l0:SV)(n3:Int)(ds:Ds)(w:World):Prop:=
 zQA (λ(J1:(Int)->World->Prop) (s:Int) (w:World)=>xWA R J1 l0 s ds w) n3 w
def xVm(R:Rt)(l0:SV)(ds:Ds)(w:World):Prop:=
 Br ((l0.len:Int) == 0) (
 zQb prog ds w λaM=>
 R (.returned (.int .i64 1)) aM) (
 xVY R l0 0 ds w)
theorem F53_p:Pl prog f53 [lS 0] xVm:=λR=>
 pc 4 (rest [lS 0,iS 3] (xVY R) (bk 0 (rest [lS 0] (xKb R) (pc 1 (rest [lS 0,iS 4] (F53_9 R) (bk 2 (rest [lS 0] (F53_1 R) lf) (lp [iS 4] [lS 0,iS 4] (F53_8 R) zXH λJ1=>pc 2 (rest [lS 0,iS 4] (F53_6 R J1) (bk 3 (rest [lS 0,iS 4] (F53_2 R J1) lf) (pc 1 (rest [lS 0,iS 4,iS 5] (F53_4 R J1) (bk 4 zXH (lp [iS 5] [lS 0,iS 4,iS 5] (F53_3 R J1) zXH λJ2=>lf))))))))))) (lp [iS 3] [lS 0,iS 3] (xWA R) zXH λJ1=>lf)))
theorem xXf (l0:SV) (w:World) (R:Rt) (h:xVm R l0 [] w):Calls prog 53 #[l0.v] w R:=
 plC F53_p func53 h
def F92_1(R:Rt)(n3:Int)(ds:Ds)(w:World):Prop:=
 zQb prog ds w λw1=>
 R (.returned (.int .i64 n3)) w1
def F92_2 (R:Rt) (J1:(Int × Int)->World->Prop) (l0:SV) (n3 n4:Int) (ds:Ds) (w:World):Prop:=
 Br (decide (n4<(l0.len:Int))) (
 ∃a2,l0.a=some a2/\0<=n4/\n4<(l0.len:Int)/\
 ∃jb,w.cell? ((a2.add (n4.toNat * 4)).add 2)=some (.int .i64 jb)/\
 J1 ((IntKind.i64.wrap (n3+jb)),(IntKind.i64.wrap (n4+1))) w) (
 F92_1 R n3 ds w)
def F92_3(R:Rt)(l0:SV)(n3 n4:Int)(ds:Ds)(w:World):Prop:=
 zQA (λ(J1:(Int × Int)->World->Prop) (s:Int × Int) (w:World)=>F92_2 R J1 l0 s.1 s.2 ds w) (n3,n4) w
def F92_5(R:Rt)(l0:SV)(ds:Ds)(w:World):Prop:=
 Calls prog 131 #[l0.v] w λe w3=>
 ∃n6:Int,e=.returned (.int .i64 n6)/\
 F92_3 R l0 (IntKind.i64.wrap ((1:Int)+n6)) 0 ds w3
theorem F92_p:Pl prog f92 [lS 0] F92_5:=λR=>
 pc 3 (rest [lS 0,iS 3,iS 4] (F92_3 R) (bk 0 (rest [iS 3] (F92_1 R) lf) (lp [iS 3,iS 4] [lS 0,iS 3,iS 4] (F92_2 R) zXH λJ1=>lf)))
theorem yY0 (l0:SV) (w:World) (R:Rt) (h:F92_5 R l0 [] w):Calls prog 92 #[l0.v] w R:=
 plC F92_p func92 h
def xKa(R:Rt)(n3:Int)(ds:Ds)(w:World):Prop:=
 IntKind.i64=IntKind.i64/\(8:Int) ≠ 0/\
 zQb prog ds w λw1=>
 R (.returned (.int .i64 (IntKind.i64.wrap ((IntKind.i64.wrap (n3+7)).tdiv 8)))) w1
def xW8 (R:Rt) (J1:(Int × Int)->World->Prop) (l0:SV) (n3 n4:Int) (ds:Ds) (w:World):Prop:=
 Br (decide (n4<(l0.len:Int))) (
 ∃a2,l0.a=some a2/\0<=n4/\n4<(l0.len:Int)/\
 ∃jW,w.cell? ((a2.add (n4.toNat * 4)).add 3)=some (.bool jW)/\
 Br jW (
 J1 ((IntKind.i64.wrap (n3+1)),(IntKind.i64.wrap (n4+1))) w) (
 J1 (n3,(IntKind.i64.wrap (n4+1))) w)) (
 xKa R n3 ds w)
def xK1(R:Rt)(l0:SV)(n3 n4:Int)(ds:Ds)(w:World):Prop:=
 zQA (λ(J1:(Int × Int)->World->Prop) (s:Int × Int) (w:World)=>xW8 R J1 l0 s.1 s.2 ds w) (n3,n4) w
def xK3(R:Rt)(l0:SV)(ds:Ds)(w:World):Prop:=
 xK1 R l0 0 0 ds w
theorem F131_p:Pl prog f131 [lS 0] xK3:=λR=>
 pc 3 (rest [lS 0,iS 3,iS 4] (xK1 R) (bk 0 (rest [iS 3] (xKa R) lf) (lp [iS 3,iS 4] [lS 0,iS 3,iS 4] (xW8 R) zXH λJ1=>lf)))
theorem yVf (l0:SV) (w:World) (R:Rt) (h:xK3 R l0 [] w):Calls prog 131 #[l0.v] w R:=
 plC F131_p func131 h
end Go.Proofs.YtaeecpjhfmcliaaGreatDoor
/- Shallow texts of functions, printed by program, each checked by the kernel against the loaded code. No condition. -/
namespace Go.Proofs.YtaeecpjhfmcliaaGreatDoor
open Go.Sh Tryz
def xWQ(R:Rt)(ds:Ds)(w:World):Prop:=
 zQb prog ds w λw1=>
 R (.returned (.int .i64 (-1))) w1
def xVt (R:Rt) (J1:(Int)->World->Prop) (l0:SV) (v1:Value) (n7 n8:Int) (ds:Ds) (w:World):Prop:=
 Br (decide (n8<n7)) (
 ∃a2,l0.a=some a2/\0<=n8/\n8<(l0.len:Int)/\
 ∃tM,w.cell? ((a2.add (n8.toNat * 4)).add 0)=some (.string tM)/\
 ∃gC,w.cell? ((a2.add (n8.toNat * 4)).add 1)=some (.int .i64 gC)/\
 ∃tO,w.cell? ((a2.add (n8.toNat * 4)).add 2)=some (.int .i64 tO)/\
 ∃tP,w.cell? ((a2.add (n8.toNat * 4)).add 3)=some (.bool tP)/\
 fnE v1 λf16 first16 ym=>
 zQ5 prog f16=true/\Calls prog f16 (first16.toList ++ (([.agg #[.string tM,.int .i64 gC,.int .i64 tO,.bool tP]]:List Value) ++ ym.toList)).toArray w λe w3=>
 ∃j4:Bool,e=.returned (.bool j4)/\
 Br j4 (
 zQb prog ds w3 λw4=>
 R (.returned (.int .i64 n8)) w4) (
 J1 (IntKind.i64.wrap (n8+1)) w3)) (
 xWQ R ds w)
def xVc(R:Rt)(l0:SV)(v1:Value)(n7 n8:Int)(ds:Ds)(w:World):Prop:=
 zQA (λ(J1:(Int)->World->Prop) (s:Int) (w:World)=>xVt R J1 l0 v1 n7 s ds w) n8 w
def xVW(R:Rt)(l0:SV)(v1:Value)(ds:Ds)(w:World):Prop:=
 xVc R l0 (v1) (l0.len:Int) 0 ds w
theorem F113_p:Pl prog f113 [lS 0,vS 1] xVW:=λR=>
 pc 2 (rest [lS 0,vS 1,iS 7,iS 8] (xVc R) (bk 0 (rest [] (xWQ R) lf) (lp [iS 8] [lS 0,vS 1,iS 7,iS 8] (xVt R) zXH λJ1=>lf)))
theorem yKZ (l0:SV) (v1:Value) (w:World) (R:Rt) (h:xVW R l0 v1 [] w):Calls prog 113 #[l0.v,v1] w R:=
 plC F113_p func113 h
def xWY(R:Rt)(aW:ByteArray)(aJ aX:Int)(aY:Bool)(v1:Value)(ds:Ds)(w:World):Prop:=
 alE (.cells #[.string aW,.int .i64 aJ,.int .i64 aX,.bool aY] 129) w λr2 w1=>
 ∃s5,w1.cell? (⟨r2,0,none⟩:Addr)=some (.string s5)/\
 zVa v1 λa2=>
 ∃s6,w1.cell? a2=some (.string s6)/\
 zQb prog ds w1 λw3=>
 R (.returned (.bool (s5.toList == s6.toList))) w3
theorem F114_p:Pl prog f114 [aS 0 [.str,.int .i64,.int .i64,.bool],vS 1] xWY:=λR=>
 lf
theorem yWG (aW:ByteArray) (aJ aX:Int) (aY:Bool) (v1:Value) (w:World) (R:Rt) (h:xWY R aW aJ aX aY v1 [] w):Calls prog 114 #[.agg #[.string aW,.int .i64 aJ,.int .i64 aX,.bool aY],v1] w R:=
 plC F114_p func114 h
def F82_1(R:Rt)(l0:SV)(s1:ByteArray)(ds:Ds)(w:World):Prop:=
 alE (.cells #[.string s1] 9) w λr3 w1=>
 Calls prog 113 #[l0.v,.func (.func 114) #[] #[.pointer (some (⟨r3,0,none⟩:Addr))]] w1 λe w2=>
 ∃n9:Int,e=.returned (.int .i64 n9)/\
 ∃cF:Int,∃w3,(Builtin.max_ #[3,3] 3 #[.int .i64 n9,.int .i64 0]).run prog w2=.ok (.int .i64 cF) w3/\
 zQb prog ds w3 λw4=>
 R (.returned (.tuple #[.int .i64 cF,.bool (decide (n9 >= 0))])) w4
theorem F82_p:Pl prog f82 [lS 0,sS 1] F82_1:=λR=>
 lf
theorem xQ5 (l0:SV) (s1:ByteArray) (w:World) (R:Rt) (h:F82_1 R l0 s1 [] w):Calls prog 82 #[l0.v,.string s1] w R:=
 plC F82_p func82 h
def xJZ(R:Rt)(ds:Ds)(w:World):Prop:=
 zQb prog ds w λw1=>
 R (.returned (.tuple #[.int .i64 0,.bool false])) w1
def xJH (R:Rt) (J1:(Int)->World->Prop) (l0:SV) (s1:ByteArray) (n6:Int) (ds:Ds) (w:World):Prop:=
 Br (decide (n6<(l0.len:Int))) (
 ∃a2,l0.a=some a2/\0<=n6/\n6<(l0.len:Int)/\
 ∃ws,w.cell? (a2.add (n6.toNat * 4))=some (.string ws)/\
 Br (ws.toList == s1.toList) (
 zQb prog ds w λw3=>
 R (.returned (.tuple #[.int .i64 n6,.bool true])) w3) (
 J1 (IntKind.i64.wrap (n6+1)) w)) (
 xJZ R ds w)
def xV4(R:Rt)(l0:SV)(s1:ByteArray)(n6:Int)(ds:Ds)(w:World):Prop:=
 zQA (λ(J1:(Int)->World->Prop) (s:Int) (w:World)=>xJH R J1 l0 s1 s ds w) n6 w
def xWl(R:Rt)(l0:SV)(s1:ByteArray)(ds:Ds)(w:World):Prop:=
 xV4 R l0 s1 0 ds w
theorem F103_p:Pl prog f103 [lS 0,sS 1] xWl:=λR=>
 pc 2 (rest [lS 0,sS 1,iS 6] (xV4 R) (bk 0 (rest [] (xJZ R) lf) (lp [iS 6] [lS 0,sS 1,iS 6] (xJH R) zXH λJ1=>lf)))
theorem yW9 (l0:SV) (s1:ByteArray) (w:World) (R:Rt) (h:xWl R l0 s1 [] w):Calls prog 103 #[l0.v,.string s1] w R:=
 plC F103_p func103 h
end Go.Proofs.YtaeecpjhfmcliaaGreatDoor
/- Shallow texts of functions, printed by program, each checked by the kernel against the loaded code. No condition. -/
namespace Go.Proofs.YtaeecpjhfmcliaaGreatDoor
open Go.Sh Tryz
def xW6(R:Rt)(ds:Ds)(w:World):Prop:=
 zQb prog ds w λw1=>
 R (.returned (.int .i64 0)) w1
def xQN (R:Rt) (J1:(Int)->World->Prop) (p1:Option Addr) (gl:SV) (qc ck:Int) (ds:Ds) (w:World):Prop:=
 J1 (IntKind.i64.wrap (ck+1)) w
def xJL (R:Rt) (J1:(Int)->World->Prop) (J2:(Int)->World->Prop) (p1 p5:Option Addr) (gl:SV) (qc ck:Int) (eV:SV) (sd e7:Int) (ds:Ds) (w:World):Prop:=
 Br (decide (e7<sd)) (
 ∃a2,eV.a=some a2/\0<=e7/\e7<(eV.len:Int)/\
 ∃tQ,w.cell? ((a2.add (e7.toNat * 4)).add 0)=some (.string tQ)/\
 ∃tR,w.cell? ((a2.add (e7.toNat * 4)).add 1)=some (.int .i64 tR)/\
 ∃tS,w.cell? ((a2.add (e7.toNat * 4)).add 2)=some (.int .i64 tS)/\
 ∃tT,w.cell? ((a2.add (e7.toNat * 4)).add 3)=some (.bool tT)/\
 alE (.cells #[.string (⟨#[]⟩:ByteArray),.int .i64 0,.int .i64 0,.bool false] 129) w λr7 w3=>
 stA prog 129 (⟨r7,0,none⟩:Addr) #[.string tQ,.int .i64 tR,.int .i64 tS,.bool tT] w3 λw4=>
 dwE w4 λw5=>
 ∃tU,w5.cell? ((⟨r7,0,none⟩:Addr).add 0)=some (.string tU)/\
 ∃nu,w5.cell? ((⟨r7,0,none⟩:Addr).add 1)=some (.int .i64 nu)/\
 ∃tV,w5.cell? ((⟨r7,0,none⟩:Addr).add 2)=some (.int .i64 tV)/\
 ∃tW,w5.cell? ((⟨r7,0,none⟩:Addr).add 3)=some (.bool tW)/\
 zQg p1 λa6=>
 ∃kC,w5.cell? a6=some (.int .i64 kC)/\
 zQg p5 λa7=>
 ∃nw:SV,w5.cell? (a7.add 1)=some (nw.v)/\
 ∃a8,nw.a=some a8/\0<=e7/\e7<(nw.len:Int)/\
 ∃tX,w5.cell? ((a8.add (e7.toNat * 3)).add 0)=some (.int .i64 tX)/\
 ∃nx,w5.cell? ((a8.add (e7.toNat * 3)).add 1)=some (.int .i64 nx)/\
 ∃tY,w5.cell? ((a8.add (e7.toNat * 3)).add 2)=some (.string tY)/\
 Calls prog 142 #[.agg #[.string tU,.int .i64 nu,.int .i64 tV,.bool tW],.int .i64 kC,.agg #[.int .i64 tX,.int .i64 nx,.string tY]] w5 λe w9=>
 ∃b52:Bool,e=.returned (.bool b52)/\
 Br (!b52) (
 zQb prog ds w9 λaO=>
 R (.returned (.int .i64 1)) aO) (
 J2 (IntKind.i64.wrap (e7+1)) w9)) (
 xQN R J1 p1 gl qc ck ds w)
def xKy (R:Rt) (J1:(Int)->World->Prop) (p1 p5:Option Addr) (gl:SV) (qc ck:Int) (eV:SV) (sd e7:Int) (ds:Ds) (w:World):Prop:=
 zQA (λ(J2:(Int)->World->Prop) (s:Int) (w:World)=>xJL R J1 J2 p1 p5 gl qc ck eV sd s ds w) e7 w
def xWu (R:Rt) (J1:(Int)->World->Prop) (p1:Option Addr) (gl:SV) (qc ck:Int) (ds:Ds) (w:World):Prop:=
 ∃dV,gl.a=some dV/\0<=ck/\ck<(gl.len:Int)/\
 ∃dF,w.cell? ((dV.add (ck.toNat * 2)).add 0)=some (.bool dF)/\
 ∃be:SV,w.cell? ((dV.add (ck.toNat * 2)).add 1)=some (be.v)/\
 alE (.cells #[.bool false,.slice none 0 0] 67) w λr5 aM=>
 stA prog 67 (⟨r5,0,none⟩:Addr) #[.bool dF,be.v] aM λaH=>
 ∃oG:SV,aH.cell? ((⟨r5,0,none⟩:Addr).add 1)=some (oG.v)/\
 zQg p1 λga=>
 ∃iL:SV,aH.cell? (ga.add 1)=some (iL.v)/\
 Br ((oG.len:Int) != (iL.len:Int)) (
 zQb prog ds aH λbt=>
 R (.returned (.int .i64 10)) bt) (
 zQg p1 λiJ=>
 ∃eV:SV,aH.cell? (iJ.add 1)=some (eV.v)/\
 xKy R J1 p1 (some (⟨r5,0,none⟩:Addr)) gl qc ck eV (eV.len:Int) 0 ds aH)
def xWk (R:Rt) (J1:(Int)->World->Prop) (p1:Option Addr) (gl:SV) (qc ck:Int) (ds:Ds) (w:World):Prop:=
 Br (decide (ck<qc)) (
 xWu R J1 p1 gl qc ck ds w) (
 xW6 R ds w)
def xK2(R:Rt)(p1:Option Addr)(gl:SV)(qc ck:Int)(ds:Ds)(w:World):Prop:=
 zQA (λ(J1:(Int)->World->Prop) (s:Int) (w:World)=>xWk R J1 p1 gl qc s ds w) ck w
def xQu(R:Rt)(au:Int)(ah ai:SV)(ds:Ds)(w:World):Prop:=
 alE (.cells #[.int .i64 au,ah.v,ai.v] 35) w λr1 bG=>
 ∃n9,bG.cell? (⟨r1,0,none⟩:Addr)=some (.int .i64 n9)/\
 Calls prog 116 #[.int .i64 n9] bG λe bI=>
 ∃dS:Bool,e=.returned (.bool dS)/\
 Br (!dS) (
 zQb prog ds bI λcE=>
 R (.returned (.int .i64 1)) cE) (
 ∃cy:SV,bI.cell? ((⟨r1,0,none⟩:Addr).add 1)=some (cy.v)/\
 Calls prog 141 #[cy.v] bI λe bO=>
 ∃kG:Int,e=.returned (.int .i64 kG)/\
 Br (kG != 0) (
 zQb prog ds bO λcq=>
 R (.returned (.int .i64 kG)) cq) (
 ∃dm:SV,bO.cell? ((⟨r1,0,none⟩:Addr).add 2)=some (dm.v)/\
 Br (decide ((dm.len:Int) > 300)) (
 zQb prog ds bO λd7=>
 R (.returned (.int .i64 3)) d7) (
 ∃gl:SV,bO.cell? ((⟨r1,0,none⟩:Addr).add 2)=some (gl.v)/\
 xK2 R (some (⟨r1,0,none⟩:Addr)) gl (gl.len:Int) 0 ds bO)))
theorem F106_p:Pl prog f106 [aS 0 [.int .i64,.slice,.slice]] xQu:=λR=>
 pc 9 (rest [pS 1,lS 23,iS 24,iS 25] (xK2 R) (bk 0 (rest [] (xW6 R) lf) (lp [iS 25] [pS 1,lS 23,iS 24,iS 25] (xWk R) zXH λJ1=>pc 2 (rest [pS 1,lS 23,iS 24,iS 25] (xWu R J1) (bk 1 (rest [pS 1,lS 23,iS 24,iS 25] (xQN R J1) lf) (pc 4 (rest [pS 1,pS 5,lS 23,iS 24,iS 25,lS 37,iS 38,iS 39] (xKy R J1) (bk 2 zXH (lp [iS 39] [pS 1,pS 5,lS 23,iS 24,iS 25,lS 37,iS 38,iS 39] (xJL R J1) zXH λJ2=>lf)))))))))
theorem yKT (au:Int) (ah ai:SV) (w:World) (R:Rt) (h:xQu R au ah ai [] w):Calls prog 106 #[.agg #[.int .i64 au,ah.v,ai.v]] w R:=
 plC F106_p func106 h
def xVV(R:Rt)(aW:ByteArray)(aJ aX:Int)(aY:Bool)(n1 dp ei:Int)(eo:ByteArray)(ds:Ds)(w:World):Prop:=
 alE (.cells #[.string aW,.int .i64 aJ,.int .i64 aX,.bool aY] 129) w λr3 w1=>
 alE (.cells #[.int .i64 dp,.int .i64 ei,.string eo] 73) w1 λr5 w2=>
 ∃fY,w2.cell? (⟨r5,0,none⟩:Addr)=some (.int .i64 fY)/\
 Br (fY == 0) (
 ∃jX,w2.cell? ((⟨r3,0,none⟩:Addr).add 3)=some (.bool jX)/\
 Br jX (
 ∃nA,w2.cell? ((⟨r5,0,none⟩:Addr).add 0)=some (.int .i64 nA)/\
 ∃gC,w2.cell? ((⟨r5,0,none⟩:Addr).add 1)=some (.int .i64 gC)/\
 ∃tZ,w2.cell? ((⟨r5,0,none⟩:Addr).add 2)=some (.string tZ)/\
 ∃qw:Bool,∃w3,(eqS .eql 73 (.tmp 15) (.tmp 16) (.agg #[.int .i64 nA,.int .i64 gC,.string tZ]) (.agg #[.int .i64 0,.int .i64 0,.string (⟨#[]⟩:ByteArray)])).run prog w2=.ok (.bool qw) w3/\
 zQb prog ds w3 λw4=>
 R (.returned (.bool qw)) w4) (
 zQb prog ds w2 λw5=>
 R (.returned (.bool false)) w5)) (
 ∃dG,w2.cell? ((⟨r5,0,none⟩:Addr).add 0)=some (.int .i64 dG)/\
 ∃bQ,w2.cell? ((⟨r5,0,none⟩:Addr).add 1)=some (.int .i64 bQ)/\
 ∃jE,w2.cell? ((⟨r5,0,none⟩:Addr).add 2)=some (.string jE)/\
 Calls prog 117 #[.agg #[.int .i64 dG,.int .i64 bQ,.string jE]] w2 λe w6=>
 ∃j9:Int,e=.returned (.int .i64 j9)/\
 Br (j9 != 0) (
 zQb prog ds w6 λw7=>
 R (.returned (.bool false)) w7) (
 ∃jF,w6.cell? ((⟨r3,0,none⟩:Addr).add 0)=some (.string jF)/\
 ∃d8,w6.cell? ((⟨r3,0,none⟩:Addr).add 1)=some (.int .i64 d8)/\
 ∃jG,w6.cell? ((⟨r3,0,none⟩:Addr).add 2)=some (.int .i64 jG)/\
 ∃jH,w6.cell? ((⟨r3,0,none⟩:Addr).add 3)=some (.bool jH)/\
 ∃pr,w6.cell? ((⟨r5,0,none⟩:Addr).add 0)=some (.int .i64 pr)/\
 ∃pv,w6.cell? ((⟨r5,0,none⟩:Addr).add 1)=some (.int .i64 pv)/\
 ∃t6,w6.cell? ((⟨r5,0,none⟩:Addr).add 2)=some (.string t6)/\
 Calls prog 83 #[.agg #[.string jF,.int .i64 d8,.int .i64 jG,.bool jH],.int .i64 n1,.agg #[.int .i64 pr,.int .i64 pv,.string t6]] w6 λe w8=>
 ∃pw:Int,∃py:Int,∃pz:ByteArray,∃fm:Int,e=.returned (.tuple #[.agg #[.int .i64 pw,.int .i64 py,.string pz],.int .i64 fm])/\
 alE (.cells #[.int .i64 0,.int .i64 0,.string (⟨#[]⟩:ByteArray)] 73) w8 λr7 w9=>
 stA prog 73 (⟨r7,0,none⟩:Addr) #[.int .i64 pw,.int .i64 py,.string pz] w9 λaO=>
 Br (fm == 0) (
 ∃jI,aO.cell? ((⟨r7,0,none⟩:Addr).add 0)=some (.int .i64 jI)/\
 ∃nB,aO.cell? ((⟨r7,0,none⟩:Addr).add 1)=some (.int .i64 nB)/\
 ∃t7,aO.cell? ((⟨r7,0,none⟩:Addr).add 2)=some (.string t7)/\
 ∃nj,aO.cell? ((⟨r5,0,none⟩:Addr).add 0)=some (.int .i64 nj)/\
 ∃nl,aO.cell? ((⟨r5,0,none⟩:Addr).add 1)=some (.int .i64 nl)/\
 ∃nn,aO.cell? ((⟨r5,0,none⟩:Addr).add 2)=some (.string nn)/\
 ∃b34:Bool,∃aR,(eqS .eql 73 (.tmp 32) (.tmp 33) (.agg #[.int .i64 jI,.int .i64 nB,.string t7]) (.agg #[.int .i64 nj,.int .i64 nl,.string nn])).run prog aO=.ok (.bool b34) aR/\
 zQb prog ds aR λaM=>
 R (.returned (.bool b34)) aM) (
 zQb prog ds aO λaH=>
 R (.returned (.bool false)) aH)))
theorem F142_p:Pl prog f142 [aS 0 [.str,.int .i64,.int .i64,.bool],iS 1,aS 2 [.int .i64,.int .i64,.str]] xVV:=λR=>
 lf
theorem yWd (aW:ByteArray) (aJ aX:Int) (aY:Bool) (n1 dp ei:Int) (eo:ByteArray) (w:World) (R:Rt) (h:xVV R aW aJ aX aY n1 dp ei eo [] w):Calls prog 142 #[.agg #[.string aW,.int .i64 aJ,.int .i64 aX,.bool aY],.int .i64 n1,.agg #[.int .i64 dp,.int .i64 ei,.string eo]] w R:=
 plC F142_p func142 h
def F13_1(R:Rt)(ds:Ds)(w:World):Prop:=
 zQb prog ds w λw1=>
 R (.returned (.int .i64 0)) w1
def F13_2 (R:Rt) (J1:(Int)->World->Prop) (p1:Option Addr) (n4:Int) (ds:Ds) (w:World):Prop:=
 zQg p1 λa2=>
 ∃dw:SV,w.cell? (a2.add 2)=some (dw.v)/\
 Br (decide (n4<(dw.len:Int))) (
 dwE w λw3=>
 zQg p1 λa4=>
 ∃ez:SV,w3.cell? (a4.add 1)=some (ez.v)/\
 zQg p1 λa5=>
 ∃qT,w3.cell? a5=some (.int .i64 qT)/\
 zQg p1 λa6=>
 ∃im:SV,w3.cell? (a6.add 2)=some (im.v)/\
 ∃a7,im.a=some a7/\0<=n4/\n4<(im.len:Int)/\
 ∃t8,w3.cell? ((a7.add (n4.toNat * 2)).add 0)=some (.bool t8)/\
 ∃fo:SV,w3.cell? ((a7.add (n4.toNat * 2)).add 1)=some (fo.v)/\
 Calls prog 54 #[ez.v,.int .i64 qT,.agg #[.bool t8,fo.v]] w3 λe w8=>
 ∃i6:Int,e=.returned (.int .i64 i6)/\
 Br (i6 != 0) (
 zQb prog ds w8 λw9=>
 R (.returned (.int .i64 i6)) w9) (
 J1 (IntKind.i64.wrap (n4+1)) w8)) (
 F13_1 R ds w)
def F13_3(R:Rt)(p1:Option Addr)(n4:Int)(ds:Ds)(w:World):Prop:=
 zQA (λ(J1:(Int)->World->Prop) (s:Int) (w:World)=>F13_2 R J1 p1 s ds w) n4 w
def F13_5(R:Rt)(au:Int)(ah ai:SV)(ds:Ds)(w:World):Prop:=
 alE (.cells #[.int .i64 au,ah.v,ai.v] 35) w λr1 aO=>
 ∃n7,aO.cell? (⟨r1,0,none⟩:Addr)=some (.int .i64 n7)/\
 Calls prog 52 #[.int .i64 n7] aO λe aR=>
 ∃b8:Bool,e=.returned (.bool b8)/\
 Br (!b8) (
 zQb prog ds aR λaM=>
 R (.returned (.int .i64 1)) aM) (
 ∃ct:SV,aR.cell? ((⟨r1,0,none⟩:Addr).add 1)=some (ct.v)/\
 Calls prog 53 #[ct.v] aR λe aH=>
 ∃dy:Int,e=.returned (.int .i64 dy)/\
 Br (dy != 0) (
 zQb prog ds aH λbo=>
 R (.returned (.int .i64 dy)) bo) (
 ∃dH:SV,aH.cell? ((⟨r1,0,none⟩:Addr).add 2)=some (dH.v)/\
 Br (decide ((dH.len:Int) > 300)) (
 zQb prog ds aH λbt=>
 R (.returned (.int .i64 3)) bt) (
 F13_3 R (some (⟨r1,0,none⟩:Addr)) 0 ds aH)))
theorem F13_p:Pl prog f13 [aS 0 [.int .i64,.slice,.slice]] F13_5:=λR=>
 pc 9 (rest [pS 1,iS 4] (F13_3 R) (bk 0 (rest [] (F13_1 R) lf) (lp [iS 4] [pS 1,iS 4] (F13_2 R) zXH λJ1=>lf)))
theorem yYR (au:Int) (ah ai:SV) (w:World) (R:Rt) (h:F13_5 R au ah ai [] w):Calls prog 13 #[.agg #[.int .i64 au,ah.v,ai.v]] w R:=
 plC F13_p func13 h
def F54_1(R:Rt)(ds:Ds)(w:World):Prop:=
 zQb prog ds w λw1=>
 R (.returned (.int .i64 0)) w1
def F54_2 (R:Rt) (J1:(Int)->World->Prop) (l0:SV) (n1:Int) (p5:Option Addr) (n7:Int) (ds:Ds) (w:World):Prop:=
 Br (decide (n7<(l0.len:Int))) (
 dwE w λw2=>
 ∃a3,l0.a=some a3/\0<=n7/\n7<(l0.len:Int)/\
 ∃jF,w2.cell? ((a3.add (n7.toNat * 4)).add 0)=some (.string jF)/\
 ∃d8,w2.cell? ((a3.add (n7.toNat * 4)).add 1)=some (.int .i64 d8)/\
 ∃jG,w2.cell? ((a3.add (n7.toNat * 4)).add 2)=some (.int .i64 jG)/\
 ∃jH,w2.cell? ((a3.add (n7.toNat * 4)).add 3)=some (.bool jH)/\
 zQg p5 λa4=>
 ∃dT:SV,w2.cell? (a4.add 1)=some (dT.v)/\
 ∃a5,dT.a=some a5/\0<=n7/\n7<(dT.len:Int)/\
 ∃cN,w2.cell? ((a5.add (n7.toNat * 3)).add 0)=some (.int .i64 cN)/\
 ∃jJ,w2.cell? ((a5.add (n7.toNat * 3)).add 1)=some (.int .i64 jJ)/\
 ∃ua,w2.cell? ((a5.add (n7.toNat * 3)).add 2)=some (.string ua)/\
 Calls prog 93 #[.agg #[.string jF,.int .i64 d8,.int .i64 jG,.bool jH],.int .i64 n1,.agg #[.int .i64 cN,.int .i64 jJ,.string ua]] w2 λe w6=>
 ∃tr:Bool,e=.returned (.bool tr)/\
 Br (!tr) (
 zQb prog ds w6 λw7=>
 R (.returned (.int .i64 1)) w7) (
 J1 (IntKind.i64.wrap (n7+1)) w6)) (
 F54_1 R ds w)
def F54_3(R:Rt)(l0:SV)(n1:Int)(p5:Option Addr)(n7:Int)(ds:Ds)(w:World):Prop:=
 zQA (λ(J1:(Int)->World->Prop) (s:Int) (w:World)=>F54_2 R J1 l0 n1 p5 s ds w) n7 w
def F54_5(R:Rt)(l0:SV)(n1:Int)(gc:Bool)(bJ:SV)(ds:Ds)(w:World):Prop:=
 alE (.cells #[.bool gc,bJ.v] 67) w λr5 w8=>
 ∃l9:SV,w8.cell? ((⟨r5,0,none⟩:Addr).add 1)=some (l9.v)/\
 Br ((l9.len:Int) != (l0.len:Int)) (
 zQb prog ds w8 λw9=>
 R (.returned (.int .i64 10)) w9) (
 F54_3 R l0 n1 (some (⟨r5,0,none⟩:Addr)) 0 ds w8)
theorem F54_p:Pl prog f54 [lS 0,iS 1,aS 2 [.bool,.slice]] F54_5:=λR=>
 pc 4 (rest [lS 0,iS 1,pS 5,iS 7] (F54_3 R) (bk 0 (rest [] (F54_1 R) lf) (lp [iS 7] [lS 0,iS 1,pS 5,iS 7] (F54_2 R) zXH λJ1=>lf)))
theorem yYN (l0:SV) (n1:Int) (gc:Bool) (bJ:SV) (w:World) (R:Rt) (h:F54_5 R l0 n1 gc bJ [] w):Calls prog 54 #[l0.v,.int .i64 n1,.agg #[.bool gc,bJ.v]] w R:=
 plC F54_p func54 h
end Go.Proofs.YtaeecpjhfmcliaaGreatDoor
/- Shallow texts of functions, printed by program, each checked by the kernel against the loaded code. No condition. -/
namespace Go.Proofs.YtaeecpjhfmcliaaGreatDoor
open Go.Sh Tryz
def xJC(R:Rt)(au:Int)(ah ai:SV)(ds:Ds)(w:World):Prop:=
 alE (.cells #[.int .i64 au,ah.v,ai.v] 35) w λr1 w1=>
 ∃iO,w1.cell? ((⟨r1,0,none⟩:Addr).add 0)=some (.int .i64 iO)/\
 ∃dz:SV,w1.cell? ((⟨r1,0,none⟩:Addr).add 1)=some (dz.v)/\
 ∃cz:SV,w1.cell? ((⟨r1,0,none⟩:Addr).add 2)=some (cz.v)/\
 Calls prog 106 #[.agg #[.int .i64 iO,dz.v,cz.v]] w1 λe w2=>
 ∃n6:Int,e=.returned (.int .i64 n6)/\
 Br (n6 != 0) (
 zQb prog ds w2 λw3=>
 R (.returned (.tuple #[.slice none 0 0,.int .i64 n6])) w3) (
 ∃eW,w2.cell? ((⟨r1,0,none⟩:Addr).add 0)=some (.int .i64 eW)/\
 ∃bv:SV,w2.cell? ((⟨r1,0,none⟩:Addr).add 1)=some (bv.v)/\
 ∃bw:SV,w2.cell? ((⟨r1,0,none⟩:Addr).add 2)=some (bw.v)/\
 Calls prog 157 #[.agg #[.int .i64 eW,bv.v,bw.v]] w2 λe w4=>
 ∃ct:SV,e=.returned (ct.v)/\
 zQb prog ds w4 λw5=>
 R (.returned (.tuple #[ct.v,.int .i64 0])) w5)
theorem F165_p:Pl prog f165 [aS 0 [.int .i64,.slice,.slice]] xJC:=λR=>
 lf
theorem yW1 (au:Int) (ah ai:SV) (w:World) (R:Rt) (h:xJC R au ah ai [] w):Calls prog 165 #[.agg #[.int .i64 au,ah.v,ai.v]] w R:=
 plC F165_p func165 h
def xVl(R:Rt)(l3:SV)(ds:Ds)(w:World):Prop:=
 alE (.cells #[.int .u8 13] 5) w λr65 w1=>
 ∃xq:SV,∃w2,(Builtin.append_ #[22,22] 22 #[l3.v,.slice (some ⟨r65,0,none⟩) 1 1]).run prog w1=.ok (xq.v) w2/\
 zQb prog ds w2 λw3=>
 R (.returned (xq.v)) w3
def xV6 (R:Rt) (J1:(SV × Int)->World->Prop) (l3 eV:SV) (sd e7:Int) (ds:Ds) (w:World):Prop:=
 Br (decide (e7<sd)) (
 ∃a4,eV.a=some a4/\0<=e7/\e7<(eV.len:Int)/\
 ∃ub,w.cell? ((a4.add (e7.toNat * 4)).add 0)=some (.string ub)/\
 ∃uc,w.cell? ((a4.add (e7.toNat * 4)).add 1)=some (.int .i64 uc)/\
 ∃nC,w.cell? ((a4.add (e7.toNat * 4)).add 2)=some (.int .i64 nC)/\
 ∃ud,w.cell? ((a4.add (e7.toNat * 4)).add 3)=some (.bool ud)/\
 alE (.cells #[.string (⟨#[]⟩:ByteArray),.int .i64 0,.int .i64 0,.bool false] 129) w λr5 w5=>
 stA prog 129 (⟨r5,0,none⟩:Addr) #[.string ub,.int .i64 uc,.int .i64 nC,.bool ud] w5 λw6=>
 alE (.cells #[.int .u8 0,.int .u8 0,.int .u8 0,.int .u8 0,.int .u8 0,.int .u8 0,.int .u8 0,.int .u8 0,.int .u8 0,.int .u8 0,.int .u8 0,.int .u8 0,.int .u8 0,.int .u8 0,.int .u8 0,.int .u8 0] 227) w6 λr6 w7=>
 dwE w7 λw8=>
 ∃S1:World->Prop,S1 w8/\
 ∃s45,(∀w',S1 w'->w'.cell? (⟨r5,0,none⟩:Addr)=some (.string s45))/\
 ∃m8:SV,∃w9,(Instr.sliceAt 227 (.pointer (some (⟨r6,0,none⟩:Addr))) none (some (.int .i64 10)) (some (.int .i64 10))).run prog w8=.ok (m8.v) w9/\
 S1 w9/\
 ∃kC:Int,∃aO,(Builtin.copy_ #[22,9] 3 #[m8.v,.string s45]).run prog w9=.ok (.int .i64 kC) aO/\
 dwE aO λaR=>
 ∃S2:World->Prop,S2 aR/\
 ∃qu,(∀w',S2 w'->w'.cell? ((⟨r5,0,none⟩:Addr).add 1)=some (.int .i64 qu))/\
 ∃i7,(∀w',S2 w'->w'.cell? ((⟨r5,0,none⟩:Addr).add 2)=some (.int .i64 i7))/\
 Calls prog 145 #[] aR λe aM=>
 ∃m47:Option Nat,e=.returned (.map m47)/\
 ∃S3:World->Prop,S3 aM/\(∀u,S3 u->S2 u)/\
 ∃kW:Int,∃yn:Int,∃yo:Int,∃yp:Value,∃yq:Value,(∀w',S3 w'->(Instr.lookup 176 (.map m47) (.int .i64 qu) false).run prog w'=.ok (.agg #[.int .u8 kW,.int .i64 yn,.int .i64 yo,yp,yq]) w')/\
 0<=(10:Int)/\(10:Int)<(16:Int)/\
 st1 ((⟨r6,0,none⟩:Addr).add ((10:Int).toNat * 1)) (.int .u8 kW) aM λaH=>
 ∃S4:World->Prop,S4 aH/\(∀u,S4 u->S3 u)/\
 0<=(11:Int)/\(11:Int)<(16:Int)/\
 st1 ((⟨r6,0,none⟩:Addr).add ((11:Int).toNat * 1)) (.int .u8 (IntKind.u8.wrap i7)) aH λbo=>
 ∃b58,bo.cell? ((⟨r5,0,none⟩:Addr).add 3)=some (.bool b58)/\
 Br b58 (
 0<=(12:Int)/\(12:Int)<(16:Int)/\
 st1 ((⟨r6,0,none⟩:Addr).add ((12:Int).toNat * 1)) (.int .u8 1) bo λbt=>
 16<=16/\0<=16/\
 ∃jK:SV,∃bB,(Builtin.append_ #[22,22] 22 #[l3.v,.slice (some (if 16=0 then(⟨r6,0,none⟩:Addr)else(⟨r6,0,none⟩:Addr).add (0 * 1))) (16 - 0) (16 - 0)]).run prog bt=.ok (jK.v) bB/\
 J1 (jK,(IntKind.i64.wrap (e7+1))) bB) (
 16<=16/\0<=16/\
 ∃jK:SV,∃bG,(Builtin.append_ #[22,22] 22 #[l3.v,.slice (some (if 16=0 then(⟨r6,0,none⟩:Addr)else(⟨r6,0,none⟩:Addr).add (0 * 1))) (16 - 0) (16 - 0)]).run prog bo=.ok (jK.v) bG/\
 J1 (jK,(IntKind.i64.wrap (e7+1))) bG)) (
 xVl R l3 ds w)
def yZI(R:Rt)(l3 eV:SV)(sd e7:Int)(ds:Ds)(w:World):Prop:=
 zQA (λ(J1:(SV × Int)->World->Prop) (s:SV × Int) (w:World)=>xV6 R J1 s.1 eV sd s.2 ds w) (l3,e7) w
def xKj(R:Rt)(au:Int)(ah ai:SV)(ds:Ds)(w:World):Prop:=
 alE (.cells #[.int .i64 au,ah.v,ai.v] 35) w λr1 bI=>
 dwE bI λcE=>
 ∃S5:World->Prop,S5 cE/\
 ∃n8,(∀w',S5 w'->w'.cell? (⟨r1,0,none⟩:Addr)=some (.int .i64 n8))/\
 ∃io:SV,(∀w',S5 w'->w'.cell? ((⟨r1,0,none⟩:Addr).add 2)=some (io.v))/\
 (
 alE (.cells #[.int .u8 67,.int .u8 (IntKind.u8.wrap n8)] 5) cE λdI bO=>
 S5 bO/\
 Calls prog 202 #[.int .i64 (io.len:Int),.int .i64 4] bO λe cq=>
 ∃bP:SV,e=.returned (bP.v)/\
 S5 cq/\
 ∃fe:SV,∃d7,(Builtin.append_ #[22,22] 22 #[.slice (some ⟨dI,0,none⟩) 2 2,bP.v]).run prog cq=.ok (fe.v) d7/\
 ∃du:SV,d7.cell? ((⟨r1,0,none⟩:Addr).add 1)=some (du.v)/\
 Calls prog 159 #[.int .i64 (du.len:Int)] d7 λe dU=>
 ∃j9:Int,e=.returned (.int .i64 j9)/\
 Calls prog 202 #[.int .i64 j9,.int .i64 2] dU λe dD=>
 ∃cJ:SV,e=.returned (cJ.v)/\
 ∃dw:SV,∃gy,(Builtin.append_ #[22,22] 22 #[fe.v,cJ.v]).run prog dD=.ok (dw.v) gy/\
 ∃eb:SV,gy.cell? ((⟨r1,0,none⟩:Addr).add 1)=some (eb.v)/\
 Calls prog 161 #[eb.v] gy λe fX=>
 ∃cr:Int,e=.returned (.int .i64 cr)/\
 Calls prog 202 #[.int .i64 cr,.int .i64 2] fX λe iy=>
 ∃bR:SV,e=.returned (bR.v)/\
 ∃ez:SV,∃eg,(Builtin.append_ #[22,22] 22 #[dw.v,bR.v]).run prog iy=.ok (ez.v) eg/\
 ∃iP:SV,eg.cell? ((⟨r1,0,none⟩:Addr).add 1)=some (iP.v)/\
 alE (.cells #[.int .u8 (IntKind.u8.wrap (iP.len:Int)),.int .u8 0] 5) eg λyr gb=>
 ∃iz:SV,∃iK,(Builtin.append_ #[22,22] 22 #[ez.v,.slice (some ⟨yr,0,none⟩) 2 2]).run prog gb=.ok (iz.v) iK/\
 ∃eV:SV,iK.cell? ((⟨r1,0,none⟩:Addr).add 1)=some (eV.v)/\
 yZI R iz eV (eV.len:Int) 0 ds iK)/\(
 Calls prog 202 #[.int .i64 (io.len:Int),.int .i64 4] cE λe il=>
 ∃bP:SV,e=.returned (bP.v)/\
 S5 il/\
 alE (.cells #[.int .u8 67,.int .u8 (IntKind.u8.wrap n8)] 5) il λdI gz=>
 S5 gz/\
 ∃fe:SV,∃gk,(Builtin.append_ #[22,22] 22 #[.slice (some ⟨dI,0,none⟩) 2 2,bP.v]).run prog gz=.ok (fe.v) gk/\
 ∃du:SV,gk.cell? ((⟨r1,0,none⟩:Addr).add 1)=some (du.v)/\
 Calls prog 159 #[.int .i64 (du.len:Int)] gk λe gd=>
 ∃j9:Int,e=.returned (.int .i64 j9)/\
 Calls prog 202 #[.int .i64 j9,.int .i64 2] gd λe jV=>
 ∃cJ:SV,e=.returned (cJ.v)/\
 ∃dw:SV,∃sA,(Builtin.append_ #[22,22] 22 #[fe.v,cJ.v]).run prog jV=.ok (dw.v) sA/\
 ∃eb:SV,sA.cell? ((⟨r1,0,none⟩:Addr).add 1)=some (eb.v)/\
 Calls prog 161 #[eb.v] sA λe oT=>
 ∃cr:Int,e=.returned (.int .i64 cr)/\
 Calls prog 202 #[.int .i64 cr,.int .i64 2] oT λe oP=>
 ∃bR:SV,e=.returned (bR.v)/\
 ∃ez:SV,∃kI,(Builtin.append_ #[22,22] 22 #[dw.v,bR.v]).run prog oP=.ok (ez.v) kI/\
 ∃iP:SV,kI.cell? ((⟨r1,0,none⟩:Addr).add 1)=some (iP.v)/\
 alE (.cells #[.int .u8 (IntKind.u8.wrap (iP.len:Int)),.int .u8 0] 5) kI λyr sB=>
 ∃iz:SV,∃se,(Builtin.append_ #[22,22] 22 #[ez.v,.slice (some ⟨yr,0,none⟩) 2 2]).run prog sB=.ok (iz.v) se/\
 ∃eV:SV,se.cell? ((⟨r1,0,none⟩:Addr).add 1)=some (eV.v)/\
 yZI R iz eV (eV.len:Int) 0 ds se)
theorem F157_p:Pl prog f157 [aS 0 [.int .i64,.slice,.slice]] xKj:=λR=>
 pc 6 (rest [lS 3,lS 37,iS 38,iS 39] (yZI R) (bk 0 (rest [lS 3] (xVl R) lf) (lp [lS 3,iS 39] [lS 3,lS 37,iS 38,iS 39] (xV6 R) zXH λJ1=>lf)))
theorem yWg (au:Int) (ah ai:SV) (w:World) (R:Rt) (h:xKj R au ah ai [] w):Calls prog 157 #[.agg #[.int .i64 au,ah.v,ai.v]] w R:=
 plC F157_p func157 h
def xVj(R:Rt)(l5:SV)(ds:Ds)(w:World):Prop:=
 zQb prog ds w λw1=>
 R (.returned (l5.v)) w1
def xVy (R:Rt) (J1:(Int × SV × Int)->World->Prop) (n0:Int) (l5:SV) (n6 n7:Int) (ds:Ds) (w:World):Prop:=
 Br (decide (n7<n6)) (
 alE (.cells #[.int .u8 (IntKind.u8.wrap n0)] 5) w λm7 w2=>
 ∃cy:SV,∃w3,(Builtin.append_ #[22,22] 22 #[l5.v,.slice (some ⟨m7,0,none⟩) 1 1]).run prog w2=.ok (cy.v) w3/\
 0<=(8:Int)/\
 J1 ((n0.fdiv (2 ^ 8)),cy,(IntKind.i64.wrap (n7+1))) w3) (
 xVj R l5 ds w)
def xKs(R:Rt)(n0:Int)(l5:SV)(n6 n7:Int)(ds:Ds)(w:World):Prop:=
 zQA (λ(J1:(Int × SV × Int)->World->Prop) (s:Int × SV × Int) (w:World)=>xVy R J1 s.1 s.2.1 n6 s.2.2 ds w) (n0,l5,n7) w
def xK8(R:Rt)(n0 n1:Int)(ds:Ds)(w:World):Prop:=
 xKs R n0 ⟨none,0,0⟩ n1 0 ds w
theorem F202_p:Pl prog f202 [iS 0,iS 1] xK8:=λR=>
 pc 3 (rest [iS 0,lS 5,iS 6,iS 7] (xKs R) (bk 0 (rest [lS 5] (xVj R) lf) (lp [iS 0,lS 5,iS 7] [iS 0,lS 5,iS 6,iS 7] (xVy R) zXH λJ1=>lf)))
theorem yV6 (n0 n1:Int) (w:World) (R:Rt) (h:xK8 R n0 n1 [] w):Calls prog 202 #[.int .i64 n0,.int .i64 n1] w R:=
 plC F202_p func202 h
def xWX(R:Rt)(n0:Int)(ds:Ds)(w:World):Prop:=
 zQb prog ds w λw1=>
 R (.returned (.int .i64 (IntKind.i64.wrap ((13:Int)+(IntKind.i64.wrap ((16:Int) * n0)))))) w1
theorem F159_p:Pl prog f159 [iS 0] xWX:=λR=>
 lf
theorem yWH (n0:Int) (w:World) (R:Rt) (h:xWX R n0 [] w):Calls prog 159 #[.int .i64 n0] w R:=
 plC F159_p func159 h
end Go.Proofs.YtaeecpjhfmcliaaGreatDoor
/- Shallow texts of functions, printed by program, each checked by the kernel against the loaded code. No condition. -/
namespace Go.Proofs.YtaeecpjhfmcliaaGreatDoor
open Go.Sh Tryz
def xKN(R:Rt)(au:Int)(ah ai:SV)(n1:Int)(ds:Ds)(w:World):Prop:=
 alE (.cells #[.int .i64 au,ah.v,ai.v] 35) w λr2 w1=>
 ∃eH,w1.cell? ((⟨r2,0,none⟩:Addr).add 0)=some (.int .i64 eH)/\
 ∃cA:SV,w1.cell? ((⟨r2,0,none⟩:Addr).add 1)=some (cA.v)/\
 ∃bT:SV,w1.cell? ((⟨r2,0,none⟩:Addr).add 2)=some (bT.v)/\
 Calls prog 106 #[.agg #[.int .i64 eH,cA.v,bT.v]] w1 λe w2=>
 ∃n8:Int,e=.returned (.int .i64 n8)/\
 Br (n8 != 0) (
 zQb prog ds w2 λw3=>
 R (.returned (.tuple #[.slice none 0 0,.int .i64 n8])) w3) (
 Br (decide (n1<1)) (
 zQb prog ds w2 λw4=>
 R (.returned (.tuple #[.slice none 0 0,.int .i64 4])) w4) (
 ∃dH:SV,w2.cell? ((⟨r2,0,none⟩:Addr).add 2)=some (dH.v)/\
 Br (decide (n1 > (dH.len:Int))) (
 zQb prog ds w2 λw5=>
 R (.returned (.tuple #[.slice none 0 0,.int .i64 4])) w5) (
 dwE w2 λw6=>
 ∃dw:SV,w6.cell? ((⟨r2,0,none⟩:Addr).add 1)=some (dw.v)/\
 ∃bU:SV,w6.cell? ((⟨r2,0,none⟩:Addr).add 2)=some (bU.v)/\
 ∃a7,bU.a=some a7/\0<=(IntKind.i64.wrap (n1 - 1))/\(IntKind.i64.wrap (n1 - 1))<(bU.len:Int)/\
 ∃dF,w6.cell? ((a7.add ((IntKind.i64.wrap (n1 - 1)).toNat * 2)).add 0)=some (.bool dF)/\
 ∃be:SV,w6.cell? ((a7.add ((IntKind.i64.wrap (n1 - 1)).toNat * 2)).add 1)=some (be.v)/\
 Calls prog 158 #[dw.v,.agg #[.bool dF,be.v]] w6 λe w8=>
 ∃i8:SV,e=.returned (i8.v)/\
 zQb prog ds w8 λw9=>
 R (.returned (.tuple #[i8.v,.int .i64 0])) w9)))
theorem F144_p:Pl prog f144 [aS 0 [.int .i64,.slice,.slice],iS 1] xKN:=λR=>
 lf
theorem yWs (au:Int) (ah ai:SV) (n1:Int) (w:World) (R:Rt) (h:xKN R au ah ai n1 [] w):Calls prog 144 #[.agg #[.int .i64 au,ah.v,ai.v],.int .i64 n1] w R:=
 plC F144_p func144 h
def xKK(R:Rt)(l5 l6:SV)(p7:Option Addr)(ds:Ds)(w:World):Prop:=
 ∃oV:SV,∃w1,(Builtin.append_ #[22,22] 22 #[l5.v,l6.v]).run prog w=.ok (oV.v) w1/\
 Calls prog 201 #[.pointer p7] w1 λe w2=>
 ∃s69:ByteArray,e=.returned (.string s69)/\
 ∃mN:SV,∃w3,(Builtin.append_ #[22,9] 22 #[oV.v,.string s69]).run prog w2=.ok (mN.v) w3/\
 zQb prog ds w3 λw4=>
 R (.returned (mN.v)) w4
def xVq (R:Rt) (J1:(Int × Int)->World->Prop) (p3:Option Addr) (l5 l6:SV) (p7:Option Addr) (n8:Int) (dW:SV) (kE dk:Int) (ds:Ds) (w:World):Prop:=
 Br (decide (dk<kE)) (
 ∃a5,dW.a=some a5/\0<=dk/\dk<(dW.len:Int)/\
 ∃ue,w.cell? ((a5.add (dk.toNat * 4)).add 0)=some (.string ue)/\
 ∃fm,w.cell? ((a5.add (dk.toNat * 4)).add 1)=some (.int .i64 fm)/\
 ∃uf,w.cell? ((a5.add (dk.toNat * 4)).add 2)=some (.int .i64 uf)/\
 ∃ug,w.cell? ((a5.add (dk.toNat * 4)).add 3)=some (.bool ug)/\
 alE (.cells #[.string (⟨#[]⟩:ByteArray),.int .i64 0,.int .i64 0,.bool false] 129) w λdI w6=>
 stA prog 129 (⟨dI,0,none⟩:Addr) #[.string ue,.int .i64 fm,.int .i64 uf,.bool ug] w6 λw7=>
 zQg p3 λa8=>
 ∃ez:SV,w7.cell? (a8.add 1)=some (ez.v)/\
 ∃a9,ez.a=some a9/\0<=dk/\dk<(ez.len:Int)/\
 ∃bK,w7.cell? ((a9.add (dk.toNat * 3)).add 0)=some (.int .i64 bK)/\
 ∃gD,w7.cell? ((a9.add (dk.toNat * 3)).add 1)=some (.int .i64 gD)/\
 ∃nD,w7.cell? ((a9.add (dk.toNat * 3)).add 2)=some (.string nD)/\
 alE (.cells #[.int .i64 0,.int .i64 0,.string (⟨#[]⟩:ByteArray)] 73) w7 λcn aO=>
 stA prog 73 (⟨cn,0,none⟩:Addr) #[.int .i64 bK,.int .i64 gD,.string nD] aO λaR=>
 ∃b33,aR.cell? ((⟨dI,0,none⟩:Addr).add 3)=some (.bool b33)/\
 Br b33 (
 ∃tj,aR.cell? (⟨cn,0,none⟩:Addr)=some (.int .i64 tj)/\
 Br (tj == 0) (
 dwE aR λaM=>
 IntKind.i64=IntKind.i64/\(8:Int) ≠ 0/\
 ∃kV,l6.a=some kV/\0<=(IntKind.i64.wrap (n8.tdiv 8))/\(IntKind.i64.wrap (n8.tdiv 8))<(l6.len:Int)/\
 ∃nh,aM.cell? (kV.add ((IntKind.i64.wrap (n8.tdiv 8)).toNat * 1))=some (.int .u8 nh)/\
 IntKind.i64=IntKind.i64/\(8:Int) ≠ 0/\
 0<=(n8.tmod 8)/\
 ∃ga,l6.a=some ga/\0<=(IntKind.i64.wrap (n8.tdiv 8))/\(IntKind.i64.wrap (n8.tdiv 8))<(l6.len:Int)/\
 st1 (ga.add ((IntKind.i64.wrap (n8.tdiv 8)).toNat * 1)) (.int .u8 (IntKind.u8.wrap ((BitVec.ofInt 8 nh ||| BitVec.ofInt 8 (IntKind.u8.wrap ((1:Int) * 2 ^ (min (n8.tmod 8).toNat 8)))).toNat:Nat))) aM λbt=>
 ∃iE,bt.cell? (⟨cn,0,none⟩:Addr)=some (.int .i64 iE)/\
 Br (iE == 0) (
 ∃i7,bt.cell? ((⟨dI,0,none⟩:Addr).add 2)=some (.int .i64 i7)/\
 Calls prog 155 #[.string (⟨#[32]⟩:ByteArray),.int .i64 i7] bt λe bB=>
 ∃pi:ByteArray,e=.returned (.string pi)/\
 Calls prog 199 #[.pointer p7,.string pi] bB λe bG=>
 ∃iA:Int,∃kh:Value,e=.returned (.tuple #[.int .i64 iA,kh])/\
 J1 ((IntKind.i64.wrap (n8+1)),(IntKind.i64.wrap (dk+1))) bG) (
 dwE bt λbI=>
 ∃S2:World->Prop,S2 bI/\
 ∃qV,(∀w',S2 w'->w'.cell? ((⟨dI,0,none⟩:Addr).add 1)=some (.int .i64 qV))/\
 ∃gE,(∀w',S2 w'->w'.cell? ((⟨dI,0,none⟩:Addr).add 0)=some (.string gE))/\
 ∃gF,(∀w',S2 w'->w'.cell? ((⟨dI,0,none⟩:Addr).add 1)=some (.int .i64 gF))/\
 ∃gG,(∀w',S2 w'->w'.cell? ((⟨dI,0,none⟩:Addr).add 2)=some (.int .i64 gG))/\
 ∃gH,(∀w',S2 w'->w'.cell? ((⟨dI,0,none⟩:Addr).add 3)=some (.bool gH))/\
 ∃dJ,(∀w',S2 w'->w'.cell? ((⟨cn,0,none⟩:Addr).add 0)=some (.int .i64 dJ))/\
 ∃gI,(∀w',S2 w'->w'.cell? ((⟨cn,0,none⟩:Addr).add 1)=some (.int .i64 gI))/\
 ∃gJ,(∀w',S2 w'->w'.cell? ((⟨cn,0,none⟩:Addr).add 2)=some (.string gJ))/\
 Calls prog 145 #[] bI λe cE=>
 ∃qW:Option Nat,e=.returned (.map qW)/\
 ∃S3:World->Prop,S3 cE/\(∀u,S3 u->S2 u)/\
 ∃iB:Int,∃iC:Int,∃iD:Int,∃gK:Value,∃ki:Value,(∀w',S3 w'->(Instr.lookup 176 (.map qW) (.int .i64 qV) false).run prog w'=.ok (.agg #[.int .u8 iB,.int .i64 iC,.int .i64 iD,gK,ki]) w')/\
 fnE gK λf63 first63 kj=>
 zQ5 prog f63=true/\Calls prog f63 (first63.toList ++ (([.agg #[.string gE,.int .i64 gF,.int .i64 gG,.bool gH],.agg #[.int .i64 dJ,.int .i64 gI,.string gJ]]:List Value) ++ kj.toList)).toArray cE λe bO=>
 ∃qX:ByteArray,e=.returned (.string qX)/\
 Calls prog 199 #[.pointer p7,.string qX] bO λe cq=>
 ∃km:Int,∃ko:Value,e=.returned (.tuple #[.int .i64 km,ko])/\
 J1 ((IntKind.i64.wrap (n8+1)),(IntKind.i64.wrap (dk+1))) cq)) (
 ∃iE,aR.cell? (⟨cn,0,none⟩:Addr)=some (.int .i64 iE)/\
 Br (iE == 0) (
 ∃i7,aR.cell? ((⟨dI,0,none⟩:Addr).add 2)=some (.int .i64 i7)/\
 Calls prog 155 #[.string (⟨#[32]⟩:ByteArray),.int .i64 i7] aR λe d7=>
 ∃pi:ByteArray,e=.returned (.string pi)/\
 Calls prog 199 #[.pointer p7,.string pi] d7 λe dU=>
 ∃iA:Int,∃kh:Value,e=.returned (.tuple #[.int .i64 iA,kh])/\
 J1 ((IntKind.i64.wrap (n8+1)),(IntKind.i64.wrap (dk+1))) dU) (
 dwE aR λdD=>
 ∃S4:World->Prop,S4 dD/\
 ∃qV,(∀w',S4 w'->w'.cell? ((⟨dI,0,none⟩:Addr).add 1)=some (.int .i64 qV))/\
 ∃gE,(∀w',S4 w'->w'.cell? ((⟨dI,0,none⟩:Addr).add 0)=some (.string gE))/\
 ∃gF,(∀w',S4 w'->w'.cell? ((⟨dI,0,none⟩:Addr).add 1)=some (.int .i64 gF))/\
 ∃gG,(∀w',S4 w'->w'.cell? ((⟨dI,0,none⟩:Addr).add 2)=some (.int .i64 gG))/\
 ∃gH,(∀w',S4 w'->w'.cell? ((⟨dI,0,none⟩:Addr).add 3)=some (.bool gH))/\
 ∃dJ,(∀w',S4 w'->w'.cell? ((⟨cn,0,none⟩:Addr).add 0)=some (.int .i64 dJ))/\
 ∃gI,(∀w',S4 w'->w'.cell? ((⟨cn,0,none⟩:Addr).add 1)=some (.int .i64 gI))/\
 ∃gJ,(∀w',S4 w'->w'.cell? ((⟨cn,0,none⟩:Addr).add 2)=some (.string gJ))/\
 Calls prog 145 #[] dD λe gy=>
 ∃qW:Option Nat,e=.returned (.map qW)/\
 ∃S5:World->Prop,S5 gy/\(∀u,S5 u->S4 u)/\
 ∃iB:Int,∃iC:Int,∃iD:Int,∃gK:Value,∃ki:Value,(∀w',S5 w'->(Instr.lookup 176 (.map qW) (.int .i64 qV) false).run prog w'=.ok (.agg #[.int .u8 iB,.int .i64 iC,.int .i64 iD,gK,ki]) w')/\
 fnE gK λf63 first63 kj=>
 zQ5 prog f63=true/\Calls prog f63 (first63.toList ++ (([.agg #[.string gE,.int .i64 gF,.int .i64 gG,.bool gH],.agg #[.int .i64 dJ,.int .i64 gI,.string gJ]]:List Value) ++ kj.toList)).toArray gy λe fX=>
 ∃qX:ByteArray,e=.returned (.string qX)/\
 Calls prog 199 #[.pointer p7,.string qX] fX λe iy=>
 ∃km:Int,∃ko:Value,e=.returned (.tuple #[.int .i64 km,ko])/\
 J1 ((IntKind.i64.wrap (n8+1)),(IntKind.i64.wrap (dk+1))) iy))) (
 ∃iE,aR.cell? (⟨cn,0,none⟩:Addr)=some (.int .i64 iE)/\
 Br (iE == 0) (
 ∃i7,aR.cell? ((⟨dI,0,none⟩:Addr).add 2)=some (.int .i64 i7)/\
 Calls prog 155 #[.string (⟨#[32]⟩:ByteArray),.int .i64 i7] aR λe eg=>
 ∃pi:ByteArray,e=.returned (.string pi)/\
 Calls prog 199 #[.pointer p7,.string pi] eg λe gb=>
 ∃iA:Int,∃kh:Value,e=.returned (.tuple #[.int .i64 iA,kh])/\
 J1 (n8,(IntKind.i64.wrap (dk+1))) gb) (
 dwE aR λiK=>
 ∃S6:World->Prop,S6 iK/\
 ∃qV,(∀w',S6 w'->w'.cell? ((⟨dI,0,none⟩:Addr).add 1)=some (.int .i64 qV))/\
 ∃gE,(∀w',S6 w'->w'.cell? ((⟨dI,0,none⟩:Addr).add 0)=some (.string gE))/\
 ∃gF,(∀w',S6 w'->w'.cell? ((⟨dI,0,none⟩:Addr).add 1)=some (.int .i64 gF))/\
 ∃gG,(∀w',S6 w'->w'.cell? ((⟨dI,0,none⟩:Addr).add 2)=some (.int .i64 gG))/\
 ∃gH,(∀w',S6 w'->w'.cell? ((⟨dI,0,none⟩:Addr).add 3)=some (.bool gH))/\
 ∃dJ,(∀w',S6 w'->w'.cell? ((⟨cn,0,none⟩:Addr).add 0)=some (.int .i64 dJ))/\
 ∃gI,(∀w',S6 w'->w'.cell? ((⟨cn,0,none⟩:Addr).add 1)=some (.int .i64 gI))/\
 ∃gJ,(∀w',S6 w'->w'.cell? ((⟨cn,0,none⟩:Addr).add 2)=some (.string gJ))/\
 Calls prog 145 #[] iK λe il=>
 ∃qW:Option Nat,e=.returned (.map qW)/\
 ∃S7:World->Prop,S7 il/\(∀u,S7 u->S6 u)/\
 ∃iB:Int,∃iC:Int,∃iD:Int,∃gK:Value,∃ki:Value,(∀w',S7 w'->(Instr.lookup 176 (.map qW) (.int .i64 qV) false).run prog w'=.ok (.agg #[.int .u8 iB,.int .i64 iC,.int .i64 iD,gK,ki]) w')/\
 fnE gK λf63 first63 kj=>
 zQ5 prog f63=true/\Calls prog f63 (first63.toList ++ (([.agg #[.string gE,.int .i64 gF,.int .i64 gG,.bool gH],.agg #[.int .i64 dJ,.int .i64 gI,.string gJ]]:List Value) ++ kj.toList)).toArray il λe gz=>
 ∃qX:ByteArray,e=.returned (.string qX)/\
 Calls prog 199 #[.pointer p7,.string qX] gz λe gk=>
 ∃km:Int,∃ko:Value,e=.returned (.tuple #[.int .i64 km,ko])/\
 J1 (n8,(IntKind.i64.wrap (dk+1))) gk))) (
 xKK R l5 l6 p7 ds w)
def yJY(R:Rt)(p3:Option Addr)(l5 l6:SV)(p7:Option Addr)(n8:Int)(dW:SV)(kE dk:Int)(ds:Ds)(w:World):Prop:=
 zQA (λ(J1:(Int × Int)->World->Prop) (s:Int × Int) (w:World)=>xVq R J1 p3 l5 l6 p7 s.1 dW kE s.2 ds w) (n8,dk) w
def xJK(R:Rt)(l0:SV)(eD:Bool)(bg:SV)(ds:Ds)(w:World):Prop:=
 alE (.cells #[.bool eD,bg.v] 67) w λr3 gd=>
 alE (.cells #[.int .u8 32] 5) gd λm7 jV=>
 ∃gS,jV.cell? (⟨r3,0,none⟩:Addr)=some (.bool gS)/\
 Br gS (
 ∃qy:Addr,(some ⟨m7,0,none⟩)=some qy/\0<=(0:Int)/\(0:Int)<(1:Int)/\
 st1 (qy.add ((0:Int).toNat * 1)) (.int .u8 42) jV λoT=>
 Calls prog 203 #[l0.v] oT λe oP=>
 ∃iI:Int,e=.returned (.int .i64 iI)/\
 ∃dm:SV,∃kI,(Instr.makeSlice 22 (.int .i64 iI) (.int .i64 iI)).run prog oP=.ok (dm.v) kI/\
 alE (.cells #[.pointer none,.slice none 0 0] 220) kI λr7 sB=>
 yJY R (some (⟨r3,0,none⟩:Addr)) ⟨(some ⟨m7,0,none⟩),1,1⟩ dm (some (⟨r7,0,none⟩:Addr)) 0 l0 (l0.len:Int) 0 ds sB) (
 Calls prog 203 #[l0.v] jV λe se=>
 ∃iI:Int,e=.returned (.int .i64 iI)/\
 ∃dm:SV,∃yt,(Instr.makeSlice 22 (.int .i64 iI) (.int .i64 iI)).run prog se=.ok (dm.v) yt/\
 alE (.cells #[.pointer none,.slice none 0 0] 220) yt λr7 qO=>
 yJY R (some (⟨r3,0,none⟩:Addr)) ⟨(some ⟨m7,0,none⟩),1,1⟩ dm (some (⟨r7,0,none⟩:Addr)) 0 l0 (l0.len:Int) 0 ds qO)
theorem F158_p:Pl prog f158 [lS 0,aS 1 [.bool,.slice]] xJK:=λR=>
 pc 8 (rest [pS 3,lS 5,lS 6,pS 7,iS 8,lS 20,iS 21,iS 22] (yJY R) (bk 0 (rest [lS 5,lS 6,pS 7] (xKK R) lf) (lp [iS 8,iS 22] [pS 3,lS 5,lS 6,pS 7,iS 8,lS 20,iS 21,iS 22] (xVq R) zXH λJ1=>lf)))
theorem yWf (l0:SV) (eD:Bool) (bg:SV) (w:World) (R:Rt) (h:xJK R l0 eD bg [] w):Calls prog 158 #[l0.v,.agg #[.bool eD,bg.v]] w R:=
 plC F158_p func158 h
def xWt(R:Rt)(aW:ByteArray)(aJ aX:Int)(aY:Bool)(bD co:Int)(dr:ByteArray)(ds:Ds)(w:World):Prop:=
 alE (.cells #[.string aW,.int .i64 aJ,.int .i64 aX,.bool aY] 129) w λr2 w1=>
 alE (.cells #[.int .i64 bD,.int .i64 co,.string dr] 73) w1 λr3 w2=>
 dwE w2 λw3=>
 ∃S1:World->Prop,S1 w3/\
 ∃s6,(∀w',S1 w'->w'.cell? ((⟨r3,0,none⟩:Addr).add 2)=some (.string s6))/\
 ∃n8,(∀w',S1 w'->w'.cell? ((⟨r2,0,none⟩:Addr).add 2)=some (.int .i64 n8))/\
 ∃uh,(∀w',S1 w'->w'.cell? ((⟨r3,0,none⟩:Addr).add 2)=some (.string uh))/\
 Calls prog 155 #[.string (⟨#[32]⟩:ByteArray),.int .i64 (IntKind.i64.wrap (n8 - (uh.size:Int)))] w3 λe w4=>
 ∃qB:ByteArray,e=.returned (.string qB)/\
 S1 w4/\
 ((s6.size+qB.size:Nat):Int)<=9223372036854775807/\
 zQb prog ds w4 λw5=>
 R (.returned (.string (s6 ++ qB))) w5
theorem F186_p:Pl prog f186 [aS 0 [.str,.int .i64,.int .i64,.bool],aS 1 [.int .i64,.int .i64,.str]] xWt:=λR=>
 lf
theorem yVB (aW:ByteArray) (aJ aX:Int) (aY:Bool) (bD co:Int) (dr:ByteArray) (w:World) (R:Rt) (h:xWt R aW aJ aX aY bD co dr [] w):Calls prog 186 #[.agg #[.string aW,.int .i64 aJ,.int .i64 aX,.bool aY],.agg #[.int .i64 bD,.int .i64 co,.string dr]] w R:=
 plC F186_p func186 h
end Go.Proofs.YtaeecpjhfmcliaaGreatDoor
/- Shallow texts of functions, printed by program, each checked by the kernel against the loaded code. No condition. -/
namespace Go.Proofs.YtaeecpjhfmcliaaGreatDoor
open Go.Sh Tryz
def xJI(R:Rt)(p0:Option Addr)(ds:Ds)(w:World):Prop:=
 dwE w λw1=>
 ∃S1:World->Prop,S1 w1/\
 zQg p0 λa2=>
 ∃l6:SV,(∀w',S1 w'->w'.cell? (a2.add 1)=some (l6.v))/\
 zQg p0 λa3=>
 ∃ct:SV,(∀w',S1 w'->w'.cell? (a3.add 1)=some (ct.v))/\
 ∃p7:Option Addr,∃w4,(Builtin.unsafeSliceData_ #[22] 243 #[l6.v]).run prog w1=.ok (.pointer p7) w4/\
 S1 w4/\
 ∃qB:ByteArray,∃w5,(Builtin.unsafeString_ #[243,3] 9 #[.pointer p7,.int .i64 (ct.len:Int)]).run prog w4=.ok (.string qB) w5/\
 zQb prog ds w5 λw6=>
 R (.returned (.string qB)) w6
theorem F201_p:Pl prog f201 [pS 0] xJI:=λR=>
 lf
theorem yKV (p0:Option Addr) (w:World) (R:Rt) (h:xJI R p0 [] w):Calls prog 201 #[.pointer p0] w R:=
 plC F201_p func201 h
end Go.Proofs.YtaeecpjhfmcliaaGreatDoor
/- Shallow texts of functions, printed by program, each checked by the kernel against the loaded code. No condition. -/
namespace Go.Proofs.YtaeecpjhfmcliaaGreatDoor
open Go.Sh Tryz
def xJ9(R:Rt)(au aJ:Int)(f7:ByteArray)(bD co:Int)(dr:ByteArray)(ds:Ds)(w:World):Prop:=
 alE (.cells #[.int .i64 au,.int .i64 aJ,.string f7] 73) w λr2 w1=>
 alE (.cells #[.int .i64 bD,.int .i64 co,.string dr] 73) w1 λr3 w2=>
 ∃n6,w2.cell? (⟨r2,0,none⟩:Addr)=some (.int .i64 n6)/\
 ∃n8,w2.cell? (⟨r3,0,none⟩:Addr)=some (.int .i64 n8)/\
 Br (n6 == n8) (
 ∃dy,w2.cell? ((⟨r2,0,none⟩:Addr).add 1)=some (.int .i64 dy)/\
 ∃kG,w2.cell? ((⟨r3,0,none⟩:Addr).add 1)=some (.int .i64 kG)/\
 Br (dy == kG) (
 ∃ni,w2.cell? ((⟨r2,0,none⟩:Addr).add 2)=some (.string ni)/\
 ∃s21,w2.cell? ((⟨r3,0,none⟩:Addr).add 2)=some (.string s21)/\
 zQb prog ds w2 λw3=>
 R (.returned (.bool (ni.toList == s21.toList))) w3) (
 zQb prog ds w2 λw4=>
 R (.returned (.bool false)) w4)) (
 zQb prog ds w2 λw5=>
 R (.returned (.bool false)) w5)
theorem F140_p:Pl prog f140 [aS 0 [.int .i64,.int .i64,.str],aS 1 [.int .i64,.int .i64,.str]] xJ9:=λR=>
 lf
theorem yWe (au aJ:Int) (f7:ByteArray) (bD co:Int) (dr:ByteArray) (w:World) (R:Rt) (h:xJ9 R au aJ f7 bD co dr [] w):Calls prog 140 #[.agg #[.int .i64 au,.int .i64 aJ,.string f7],.agg #[.int .i64 bD,.int .i64 co,.string dr]] w R:=
 plC F140_p func140 h
end Go.Proofs.YtaeecpjhfmcliaaGreatDoor
/- Shallow texts of functions, printed by program, each checked by the kernel against the loaded code. No condition. -/
namespace Go.Proofs.YtaeecpjhfmcliaaGreatDoor
open Go.Sh Tryz
def xVg(R:Rt)(l0:SV)(ds:Ds)(w:World):Prop:=
 Calls prog 141 #[l0.v] w λe w1=>
 ∃n6:Int,e=.returned (.int .i64 n6)/\
 Br (n6 != 0) (
 zQb prog ds w1 λw2=>
 R (.returned (.tuple #[.int .i64 0,.int .i64 n6])) w2) (
 Calls prog 161 #[l0.v] w1 λe w3=>
 ∃cF:Int,e=.returned (.int .i64 cF)/\
 zQb prog ds w3 λw4=>
 R (.returned (.tuple #[.int .i64 cF,.int .i64 0])) w4)
theorem F128_p:Pl prog f128 [lS 0] xVg:=λR=>
 lf
theorem yVj (l0:SV) (w:World) (R:Rt) (h:xVg R l0 [] w):Calls prog 128 #[l0.v] w R:=
 plC F128_p func128 h
end Go.Proofs.YtaeecpjhfmcliaaGreatDoor
/- Shallow texts of functions, printed by program, each checked by the kernel against the loaded code. No condition. -/
namespace Go.Proofs.YtaeecpjhfmcliaaGreatDoor
open Go.Sh Tryz
def F57_1(R:Rt)(n3:Int)(ds:Ds)(w:World):Prop:=
 zQb prog ds w λw1=>
 R (.returned (.int .i64 n3)) w1
def F57_2 (R:Rt) (J1:(Int × Int)->World->Prop) (p1:Option Addr) (n3 n5:Int) (ds:Ds) (w:World):Prop:=
 zQg p1 λa2=>
 ∃ez:SV,w.cell? (a2.add 2)=some (ez.v)/\
 Br (decide (n5<(ez.len:Int))) (
 zQg p1 λa3=>
 ∃iz:SV,w.cell? (a3.add 2)=some (iz.v)/\
 ∃a4,iz.a=some a4/\0<=n5/\n5<(iz.len:Int)/\
 ∃iM:SV,w.cell? ((a4.add (n5.toNat * 2)).add 1)=some (iM.v)/\
 Calls prog 58 #[iM.v] w λe w5=>
 ∃gj:Int,e=.returned (.int .i64 gj)/\
 J1 ((IntKind.i64.wrap (n3+(IntKind.i64.wrap ((8:Int)+gj)))),(IntKind.i64.wrap (n5+1))) w5) (
 F57_1 R n3 ds w)
def F57_3(R:Rt)(p1:Option Addr)(n3 n5:Int)(ds:Ds)(w:World):Prop:=
 zQA (λ(J1:(Int × Int)->World->Prop) (s:Int × Int) (w:World)=>F57_2 R J1 p1 s.1 s.2 ds w) (n3,n5) w
def F57_5(R:Rt)(p1:Option Addr)(n3:Int)(ds:Ds)(w:World):Prop:=
 F57_3 R p1 n3 0 ds w
def F57_6 (R:Rt) (J1:(Int × Int)->World->Prop) (p1:Option Addr) (n3 n4:Int) (ds:Ds) (w:World):Prop:=
 zQg p1 λa6=>
 ∃io:SV,w.cell? (a6.add 1)=some (io.v)/\
 Br (decide (n4<(io.len:Int))) (
 zQg p1 λa7=>
 ∃dm:SV,w.cell? (a7.add 1)=some (dm.v)/\
 ∃a8,dm.a=some a8/\0<=n4/\n4<(dm.len:Int)/\
 ∃s23,w.cell? (a8.add (n4.toNat * 4))=some (.string s23)/\
 J1 ((IntKind.i64.wrap (n3+(s23.size:Int))),(IntKind.i64.wrap (n4+1))) w) (
 F57_5 R p1 n3 ds w)
def F57_7(R:Rt)(p1:Option Addr)(n3 n4:Int)(ds:Ds)(w:World):Prop:=
 zQA (λ(J1:(Int × Int)->World->Prop) (s:Int × Int) (w:World)=>F57_6 R J1 p1 s.1 s.2 ds w) (n3,n4) w
def F57_9(R:Rt)(au:Int)(ah ai:SV)(ds:Ds)(w:World):Prop:=
 alE (.cells #[.int .i64 au,ah.v,ai.v] 35) w λr1 w9=>
 ∃l7:SV,w9.cell? ((⟨r1,0,none⟩:Addr).add 1)=some (l7.v)/\
 F57_7 R (some (⟨r1,0,none⟩:Addr)) (IntKind.i64.wrap ((16:Int) * (l7.len:Int))) 0 ds w9
theorem F57_p:Pl prog f57 [aS 0 [.int .i64,.slice,.slice]] F57_9:=λR=>
 pc 3 (rest [pS 1,iS 3,iS 4] (F57_7 R) (bk 0 (rest [pS 1,iS 3] (F57_5 R) (pc 1 (rest [pS 1,iS 3,iS 5] (F57_3 R) (bk 2 (rest [iS 3] (F57_1 R) lf) (lp [iS 3,iS 5] [pS 1,iS 3,iS 5] (F57_2 R) zXH λJ1=>lf))))) (lp [iS 3,iS 4] [pS 1,iS 3,iS 4] (F57_6 R) zXH λJ1=>lf)))
theorem yYo (au:Int) (ah ai:SV) (w:World) (R:Rt) (h:F57_9 R au ah ai [] w):Calls prog 57 #[.agg #[.int .i64 au,ah.v,ai.v]] w R:=
 plC F57_p func57 h
def F58_1(R:Rt)(n3:Int)(ds:Ds)(w:World):Prop:=
 zQb prog ds w λw1=>
 R (.returned (.int .i64 n3)) w1
def F58_2 (R:Rt) (J1:(Int × Int)->World->Prop) (l0:SV) (n3 n4:Int) (ds:Ds) (w:World):Prop:=
 Br (decide (n4<(l0.len:Int))) (
 ∃a2,l0.a=some a2/\0<=n4/\n4<(l0.len:Int)/\
 ∃ni,w.cell? ((a2.add (n4.toNat * 3)).add 2)=some (.string ni)/\
 J1 ((IntKind.i64.wrap (n3+(ni.size:Int))),(IntKind.i64.wrap (n4+1))) w) (
 F58_1 R n3 ds w)
def F58_3(R:Rt)(l0:SV)(n3 n4:Int)(ds:Ds)(w:World):Prop:=
 zQA (λ(J1:(Int × Int)->World->Prop) (s:Int × Int) (w:World)=>F58_2 R J1 l0 s.1 s.2 ds w) (n3,n4) w
def F58_5(R:Rt)(l0:SV)(ds:Ds)(w:World):Prop:=
 F58_3 R l0 (IntKind.i64.wrap ((8:Int) * (l0.len:Int))) 0 ds w
theorem F58_p:Pl prog f58 [lS 0] F58_5:=λR=>
 pc 3 (rest [lS 0,iS 3,iS 4] (F58_3 R) (bk 0 (rest [iS 3] (F58_1 R) lf) (lp [iS 3,iS 4] [lS 0,iS 3,iS 4] (F58_2 R) zXH λJ1=>lf)))
theorem yYY (l0:SV) (w:World) (R:Rt) (h:F58_5 R l0 [] w):Calls prog 58 #[l0.v] w R:=
 plC F58_p func58 h
end Go.Proofs.YtaeecpjhfmcliaaGreatDoor
/- Shallow texts of functions, printed by program, each checked by the kernel against the loaded code. No condition. -/
namespace Go.Proofs.YtaeecpjhfmcliaaGreatDoor
open Go.Sh Tryz
def xVL(R:Rt)(p2 p5:Option Addr)(ds:Ds)(w:World):Prop:=
 zQg p5 λa1=>
 ∃dF,w.cell? (a1.add 0)=some (.bool dF)/\
 ∃be:SV,w.cell? (a1.add 1)=some (be.v)/\
 zQg p2 λa2=>
 stA prog 67 a2 #[.bool dF,be.v] w λw3=>
 zQb prog ds w3 λw4=>
 zQg p2 λa5=>
 ∃bL,w4.cell? (a5.add 0)=some (.bool bL)/\
 ∃ab:SV,w4.cell? (a5.add 1)=some (ab.v)/\
 R (.returned (.tuple #[.agg #[.bool bL,ab.v],.int .i64 0])) w4
def xVe (R:Rt) (J1:(Int)->World->Prop) (p2 p5:Option Addr) (bP:SV) (kJ n16:Int) (ds:Ds) (w:World):Prop:=
 Br (decide (n16<kJ)) (
 ∃a6,bP.a=some a6/\0<=n16/\n16<(bP.len:Int)/\
 ∃jC,w.cell? ((a6.add (n16.toNat * 4)).add 0)=some (.string jC)/\
 ∃bQ,w.cell? ((a6.add (n16.toNat * 4)).add 1)=some (.int .i64 bQ)/\
 ∃jD,w.cell? ((a6.add (n16.toNat * 4)).add 2)=some (.int .i64 jD)/\
 ∃gA,w.cell? ((a6.add (n16.toNat * 4)).add 3)=some (.bool gA)/\
 alE (.cells #[.string (⟨#[]⟩:ByteArray),.int .i64 0,.int .i64 0,.bool false] 129) w λr7 w7=>
 stA prog 129 (⟨r7,0,none⟩:Addr) #[.string jC,.int .i64 bQ,.int .i64 jD,.bool gA] w7 λw8=>
 dwE w8 λw9=>
 ∃S1:World->Prop,S1 w9/\
 zQg p5 λeE=>
 ∃cJ:SV,(∀w',S1 w'->w'.cell? (eE.add 1)=some (cJ.v))/\
 ∃ui,(∀w',S1 w'->w'.cell? ((⟨r7,0,none⟩:Addr).add 0)=some (.string ui))/\
 ∃uj,(∀w',S1 w'->w'.cell? ((⟨r7,0,none⟩:Addr).add 1)=some (.int .i64 uj))/\
 ∃uk,(∀w',S1 w'->w'.cell? ((⟨r7,0,none⟩:Addr).add 2)=some (.int .i64 uk))/\
 ∃ul,(∀w',S1 w'->w'.cell? ((⟨r7,0,none⟩:Addr).add 3)=some (.bool ul))/\
 Calls prog 118 #[.agg #[.string ui,.int .i64 uj,.int .i64 uk,.bool ul]] w9 λe aR=>
 ∃nE:Int,∃d8:Int,∃nF:ByteArray,e=.returned (.agg #[.int .i64 nE,.int .i64 d8,.string nF])/\
 S1 aR/\
 alE (.cells #[.int .i64 nE,.int .i64 d8,.string nF] 73) aR λr24 aM=>
 S1 aM/\
 ∃eb:SV,∃aH,(Builtin.append_ #[38,38] 38 #[cJ.v,.slice (some ⟨r24,0,none⟩) 1 1]).run prog aM=.ok (eb.v) aH/\
 zQg p5 λga=>
 st1 (ga.add 1) (eb.v) aH λbt=>
 J1 (IntKind.i64.wrap (n16+1)) bt) (
 xVL R p2 p5 ds w)
def xW1(R:Rt)(p2 p5:Option Addr)(bP:SV)(kJ n16:Int)(ds:Ds)(w:World):Prop:=
 zQA (λ(J1:(Int)->World->Prop) (s:Int) (w:World)=>xVe R J1 p2 p5 bP kJ s ds w) n16 w
def xKq(R:Rt)(l0:SV)(ds:Ds)(w:World):Prop:=
 alE (.cells #[.bool false,.slice none 0 0] 67) w λr2 bB=>
 Calls prog 141 #[l0.v] bB λe bG=>
 ∃n9:Int,e=.returned (.int .i64 n9)/\
 Br (n9 != 0) (
 stA prog 67 (⟨r2,0,none⟩:Addr) #[.bool false,.slice none 0 0] bG λbI=>
 zQb prog ds bI λcE=>
 ∃bL,cE.cell? ((⟨r2,0,none⟩:Addr).add 0)=some (.bool bL)/\
 ∃ab:SV,cE.cell? ((⟨r2,0,none⟩:Addr).add 1)=some (ab.v)/\
 R (.returned (.tuple #[.agg #[.bool bL,ab.v],.int .i64 n9])) cE) (
 alE (.cells #[.bool false,.slice none 0 0] 67) bG λr5 bO=>
 xW1 R (some (⟨r2,0,none⟩:Addr)) (some (⟨r5,0,none⟩:Addr)) l0 (l0.len:Int) 0 ds bO)
theorem F164_p:Pl prog f164 [lS 0] xKq:=λR=>
 pc 6 (rest [pS 2,pS 5,lS 14,iS 15,iS 16] (xW1 R) (bk 0 (rest [pS 2,pS 5] (xVL R) lf) (lp [iS 16] [pS 2,pS 5,lS 14,iS 15,iS 16] (xVe R) zXH λJ1=>lf)))
theorem yVd (l0:SV) (w:World) (R:Rt) (h:xKq R l0 [] w):Calls prog 164 #[l0.v] w R:=
 plC F164_p func164 h
def F70_1(R:Rt)(mO:Bool)(ah:SV)(eD:Bool)(bg:SV)(ds:Ds)(w:World):Prop:=
 alE (.cells #[.bool mO,ah.v] 67) w λr2 w1=>
 alE (.cells #[.bool eD,bg.v] 67) w1 λr3 w2=>
 ∃b6,w2.cell? (⟨r2,0,none⟩:Addr)=some (.bool b6)/\
 ∃b8,w2.cell? (⟨r3,0,none⟩:Addr)=some (.bool b8)/\
 Br (b6 == b8) (
 ∃io:SV,w2.cell? ((⟨r2,0,none⟩:Addr).add 1)=some (io.v)/\
 ∃bP:SV,w2.cell? ((⟨r3,0,none⟩:Addr).add 1)=some (bP.v)/\
 Calls prog 105 #[io.v,bP.v] w2 λe w3=>
 ∃jW:Bool,e=.returned (.bool jW)/\
 zQb prog ds w3 λw4=>
 R (.returned (.bool jW)) w4) (
 zQb prog ds w2 λw5=>
 R (.returned (.bool false)) w5)
theorem F70_p:Pl prog f70 [aS 0 [.bool,.slice],aS 1 [.bool,.slice]] F70_1:=λR=>
 lf
theorem xXC (mO:Bool) (ah:SV) (eD:Bool) (bg:SV) (w:World) (R:Rt) (h:F70_1 R mO ah eD bg [] w):Calls prog 70 #[.agg #[.bool mO,ah.v],.agg #[.bool eD,bg.v]] w R:=
 plC F70_p func70 h
def xVo(R:Rt)(ds:Ds)(w:World):Prop:=
 zQb prog ds w λw1=>
 R (.returned (.bool true)) w1
def xKz (R:Rt) (J1:(Int)->World->Prop) (l0 l1:SV) (n5:Int) (ds:Ds) (w:World):Prop:=
 Br (decide (n5<(l0.len:Int))) (
 dwE w λw2=>
 ∃a3,l0.a=some a3/\0<=n5/\n5<(l0.len:Int)/\
 ∃eL,w2.cell? ((a3.add (n5.toNat * 3)).add 0)=some (.int .i64 eL)/\
 ∃eM,w2.cell? ((a3.add (n5.toNat * 3)).add 1)=some (.int .i64 eM)/\
 ∃gt,w2.cell? ((a3.add (n5.toNat * 3)).add 2)=some (.string gt)/\
 ∃a4,l1.a=some a4/\0<=n5/\n5<(l1.len:Int)/\
 ∃jL,w2.cell? ((a4.add (n5.toNat * 3)).add 0)=some (.int .i64 jL)/\
 ∃jv,w2.cell? ((a4.add (n5.toNat * 3)).add 1)=some (.int .i64 jv)/\
 ∃um,w2.cell? ((a4.add (n5.toNat * 3)).add 2)=some (.string um)/\
 Calls prog 140 #[.agg #[.int .i64 eL,.int .i64 eM,.string gt],.agg #[.int .i64 jL,.int .i64 jv,.string um]] w2 λe w5=>
 ∃oW:Bool,e=.returned (.bool oW)/\
 Br (!oW) (
 zQb prog ds w5 λw6=>
 R (.returned (.bool false)) w6) (
 J1 (IntKind.i64.wrap (n5+1)) w5)) (
 xVo R ds w)
def xKi(R:Rt)(l0 l1:SV)(n5:Int)(ds:Ds)(w:World):Prop:=
 zQA (λ(J1:(Int)->World->Prop) (s:Int) (w:World)=>xKz R J1 l0 l1 s ds w) n5 w
def xK4(R:Rt)(l0 l1:SV)(ds:Ds)(w:World):Prop:=
 Br ((l0.len:Int) != (l1.len:Int)) (
 zQb prog ds w λw7=>
 R (.returned (.bool false)) w7) (
 xKi R l0 l1 0 ds w)
theorem F105_p:Pl prog f105 [lS 0,lS 1] xK4:=λR=>
 pc 4 (rest [lS 0,lS 1,iS 5] (xKi R) (bk 0 (rest [] (xVo R) lf) (lp [iS 5] [lS 0,lS 1,iS 5] (xKz R) zXH λJ1=>lf)))
theorem yVJ (l0 l1:SV) (w:World) (R:Rt) (h:xK4 R l0 l1 [] w):Calls prog 105 #[l0.v,l1.v] w R:=
 plC F105_p func105 h
end Go.Proofs.YtaeecpjhfmcliaaGreatDoor
/- Shallow texts of functions, printed by program, each checked by the kernel against the loaded code. No condition. -/
namespace Go.Proofs.YtaeecpjhfmcliaaGreatDoor
open Go.Sh Tryz
def F45_1(R:Rt)(n0:Int)(ds:Ds)(w:World):Prop:=
 alE (.cells #[.int .i64 0,.int .i64 0,.string (⟨#[]⟩:ByteArray)] 73) w λr2 w1=>
 stA prog 73 (⟨r2,0,none⟩:Addr) #[.int .i64 2,.int .i64 n0,.string (⟨#[]⟩:ByteArray)] w1 λw2=>
 zQb prog ds w2 λw3=>
 ∃ag,w3.cell? ((⟨r2,0,none⟩:Addr).add 0)=some (.int .i64 ag)/\
 ∃aj,w3.cell? ((⟨r2,0,none⟩:Addr).add 1)=some (.int .i64 aj)/\
 ∃ak,w3.cell? ((⟨r2,0,none⟩:Addr).add 2)=some (.string ak)/\
 R (.returned (.agg #[.int .i64 ag,.int .i64 aj,.string ak])) w3
theorem F45_p:Pl prog f45 [iS 0] F45_1:=λR=>
 lf
theorem xQJ (n0:Int) (w:World) (R:Rt) (h:F45_1 R n0 [] w):Calls prog 45 #[.int .i64 n0] w R:=
 plC F45_p func45 h
end Go.Proofs.YtaeecpjhfmcliaaGreatDoor
/- Shallow texts of functions, printed by program, each checked by the kernel against the loaded code. No condition. -/
namespace Go.Proofs.YtaeecpjhfmcliaaGreatDoor
open Go.Sh Tryz
def F72_1(R:Rt)(l8:SV)(ds:Ds)(w:World):Prop:=
 zQb prog ds w λw1=>
 R (.returned (.tuple #[l8.v,.int .i64 0])) w1
def yWl (R:Rt) (J1:(SV × Int)->World->Prop) (p2 p3:Option Addr) (l8:SV) (e7 gj:Int) (ds:Ds) (w:World):Prop:=
 J1 (l8,(IntKind.i64.wrap (gj+1))) w
def F72_3 (R:Rt) (J1:(SV × Int)->World->Prop) (p2 p3:Option Addr) (l8:SV) (e7 gj:Int) (ds:Ds) (w:World):Prop:=
 Br (decide (gj<e7)) (
 dwE w λw2=>
 zQg p2 λa3=>
 ∃sf:SV,w2.cell? (a3.add 2)=some (sf.v)/\
 Br (decide (gj >= (sf.len:Int))) (
 alE (.cells #[.int .i64 (IntKind.i64.wrap (gj+1))] 3) w2 λwt w4=>
 ∃j5:SV,∃w5,(Builtin.append_ #[52,52] 52 #[l8.v,.slice (some ⟨wt,0,none⟩) 1 1]).run prog w4=.ok (j5.v) w5/\
 yWl R J1 p2 p3 j5 e7 gj ds w5) (
 zQg p3 λa6=>
 ∃oH:SV,w2.cell? (a6.add 2)=some (oH.v)/\
 Br (decide (gj >= (oH.len:Int))) (
 alE (.cells #[.int .i64 (IntKind.i64.wrap (gj+1))] 3) w2 λwt w7=>
 ∃j5:SV,∃w8,(Builtin.append_ #[52,52] 52 #[l8.v,.slice (some ⟨wt,0,none⟩) 1 1]).run prog w7=.ok (j5.v) w8/\
 yWl R J1 p2 p3 j5 e7 gj ds w8) (
 zQg p2 λa9=>
 ∃kq:SV,w2.cell? (a9.add 2)=some (kq.v)/\
 ∃eE,kq.a=some eE/\0<=gj/\gj<(kq.len:Int)/\
 ∃yu,w2.cell? (eE.add (gj.toNat * 2))=some (.bool yu)/\
 zQg p3 λdV=>
 ∃yv:SV,w2.cell? (dV.add 2)=some (yv.v)/\
 ∃kF,yv.a=some kF/\0<=gj/\gj<(yv.len:Int)/\
 ∃qU,w2.cell? (kF.add (gj.toNat * 2))=some (.bool qU)/\
 ∃b68:Bool,(∀w,(eqS .neq 4 (.tmp 61) (.tmp 67) (.bool yu) (.bool qU)).run prog w=.ok (.bool b68) w)/\
 Br b68 (
 alE (.cells #[.int .i64 (IntKind.i64.wrap (gj+1))] 3) w2 λwt aH=>
 ∃j5:SV,∃bo,(Builtin.append_ #[52,52] 52 #[l8.v,.slice (some ⟨wt,0,none⟩) 1 1]).run prog aH=.ok (j5.v) bo/\
 yWl R J1 p2 p3 j5 e7 gj ds bo) (
 zQg p2 λjr=>
 ∃mP:SV,w2.cell? (jr.add 2)=some (mP.v)/\
 ∃iJ,mP.a=some iJ/\0<=gj/\gj<(mP.len:Int)/\
 ∃oI:SV,w2.cell? ((iJ.add (gj.toNat * 2)).add 1)=some (oI.v)/\
 zQg p3 λqY=>
 ∃jM:SV,w2.cell? (qY.add 2)=some (jM.v)/\
 ∃jq,jM.a=some jq/\0<=gj/\gj<(jM.len:Int)/\
 ∃xr:SV,w2.cell? ((jq.add (gj.toNat * 2)).add 1)=some (xr.v)/\
 Calls prog 108 #[oI.v,xr.v] w2 λe cE=>
 ∃b83:Bool,e=.returned (.bool b83)/\
 Br (!b83) (
 alE (.cells #[.int .i64 (IntKind.i64.wrap (gj+1))] 3) cE λwt bO=>
 ∃j5:SV,∃cq,(Builtin.append_ #[52,52] 52 #[l8.v,.slice (some ⟨wt,0,none⟩) 1 1]).run prog bO=.ok (j5.v) cq/\
 yWl R J1 p2 p3 j5 e7 gj ds cq) (
 yWl R J1 p2 p3 l8 e7 gj ds cE))))) (
 F72_1 R l8 ds w)
def F72_4(R:Rt)(p2 p3:Option Addr)(l8:SV)(e7 gj:Int)(ds:Ds)(w:World):Prop:=
 zQA (λ(J1:(SV × Int)->World->Prop) (s:SV × Int) (w:World)=>F72_3 R J1 p2 p3 s.1 e7 s.2 ds w) (l8,gj) w
def F72_6(R:Rt)(au:Int)(ah ai:SV)(bD:Int)(bg cu:SV)(ds:Ds)(w:World):Prop:=
 alE (.cells #[.int .i64 au,ah.v,ai.v] 35) w λr2 d7=>
 alE (.cells #[.int .i64 bD,bg.v,cu.v] 35) d7 λr3 dU=>
 ∃eW,dU.cell? ((⟨r2,0,none⟩:Addr).add 0)=some (.int .i64 eW)/\
 ∃bv:SV,dU.cell? ((⟨r2,0,none⟩:Addr).add 1)=some (bv.v)/\
 ∃bw:SV,dU.cell? ((⟨r2,0,none⟩:Addr).add 2)=some (bw.v)/\
 Calls prog 106 #[.agg #[.int .i64 eW,bv.v,bw.v]] dU λe dD=>
 ∃cF:Int,e=.returned (.int .i64 cF)/\
 Br (cF != 0) (
 zQb prog ds dD λgy=>
 R (.returned (.tuple #[.slice none 0 0,.int .i64 cF])) gy) (
 ∃nA,dD.cell? ((⟨r3,0,none⟩:Addr).add 0)=some (.int .i64 nA)/\
 ∃fp:SV,dD.cell? ((⟨r3,0,none⟩:Addr).add 1)=some (fp.v)/\
 ∃kX:SV,dD.cell? ((⟨r3,0,none⟩:Addr).add 2)=some (kX.v)/\
 Calls prog 106 #[.agg #[.int .i64 nA,fp.v,kX.v]] dD λe fX=>
 ∃n16:Int,e=.returned (.int .i64 n16)/\
 Br (n16 != 0) (
 zQb prog ds fX λiy=>
 R (.returned (.tuple #[.slice none 0 0,.int .i64 n16])) iy) (
 ∃kE,fX.cell? (⟨r2,0,none⟩:Addr)=some (.int .i64 kE)/\
 ∃i5,fX.cell? (⟨r3,0,none⟩:Addr)=some (.int .i64 i5)/\
 Br (kE != i5) (
 zQb prog ds fX λeg=>
 R (.returned (.tuple #[.slice none 0 0,.int .i64 10])) eg) (
 ∃bR:SV,fX.cell? ((⟨r2,0,none⟩:Addr).add 1)=some (bR.v)/\
 ∃i8:SV,fX.cell? ((⟨r3,0,none⟩:Addr).add 1)=some (i8.v)/\
 Calls prog 107 #[bR.v,i8.v] fX λe gb=>
 ∃tr:Bool,e=.returned (.bool tr)/\
 Br (!tr) (
 zQb prog ds gb λiK=>
 R (.returned (.tuple #[.slice none 0 0,.int .i64 10])) iK) (
 ∃j6:SV,gb.cell? ((⟨r2,0,none⟩:Addr).add 2)=some (j6.v)/\
 ∃eV:SV,gb.cell? ((⟨r3,0,none⟩:Addr).add 2)=some (eV.v)/\
 ∃e7:Int,∃il,(Builtin.max_ #[3,3] 3 #[.int .i64 (j6.len:Int),.int .i64 (eV.len:Int)]).run prog gb=.ok (.int .i64 e7) il/\
 F72_4 R (some (⟨r2,0,none⟩:Addr)) (some (⟨r3,0,none⟩:Addr)) ⟨none,0,0⟩ e7 0 ds il))))
theorem F72_p:Pl prog f72 [aS 0 [.int .i64,.slice,.slice],aS 1 [.int .i64,.slice,.slice]] F72_6:=λR=>
 pc 11 (rest [pS 2,pS 3,lS 8,iS 39,iS 40] (F72_4 R) (bk 0 (rest [lS 8] (F72_1 R) lf) (lp [lS 8,iS 40] [pS 2,pS 3,lS 8,iS 39,iS 40] (F72_3 R) zXH λJ1=>pc 3 (rest [pS 2,pS 3,lS 8,iS 39,iS 40] (yWl R J1) lf))))
theorem xZg (au:Int) (ah ai:SV) (bD:Int) (bg cu:SV) (w:World) (R:Rt) (h:F72_6 R au ah ai bD bg cu [] w):Calls prog 72 #[.agg #[.int .i64 au,ah.v,ai.v],.agg #[.int .i64 bD,bg.v,cu.v]] w R:=
 plC F72_p func72 h
def xKJ(R:Rt)(ds:Ds)(w:World):Prop:=
 zQb prog ds w λw1=>
 R (.returned (.bool true)) w1
def xWD (R:Rt) (J1:(Int)->World->Prop) (l0 l1:SV) (dy dR:Int) (ds:Ds) (w:World):Prop:=
 Br (decide (dR<dy)) (
 dwE w λw2=>
 ∃a3,l0.a=some a3/\0<=dR/\dR<(l0.len:Int)/\
 ∃jC,w2.cell? ((a3.add (dR.toNat * 4)).add 0)=some (.string jC)/\
 ∃bQ,w2.cell? ((a3.add (dR.toNat * 4)).add 1)=some (.int .i64 bQ)/\
 ∃jD,w2.cell? ((a3.add (dR.toNat * 4)).add 2)=some (.int .i64 jD)/\
 ∃gA,w2.cell? ((a3.add (dR.toNat * 4)).add 3)=some (.bool gA)/\
 ∃a4,l1.a=some a4/\0<=dR/\dR<(l1.len:Int)/\
 ∃jF,w2.cell? ((a4.add (dR.toNat * 4)).add 0)=some (.string jF)/\
 ∃d8,w2.cell? ((a4.add (dR.toNat * 4)).add 1)=some (.int .i64 d8)/\
 ∃jG,w2.cell? ((a4.add (dR.toNat * 4)).add 2)=some (.int .i64 jG)/\
 ∃jH,w2.cell? ((a4.add (dR.toNat * 4)).add 3)=some (.bool jH)/\
 ∃qC:Bool,(∀w,(eqS .neq 129 (.tmp 19) (.tmp 23) (.agg #[.string jC,.int .i64 bQ,.int .i64 jD,.bool gA]) (.agg #[.string jF,.int .i64 d8,.int .i64 jG,.bool jH])).run prog w=.ok (.bool qC) w)/\
 Br qC (
 zQb prog ds w2 λw5=>
 R (.returned (.bool false)) w5) (
 J1 (IntKind.i64.wrap (dR+1)) w2)) (
 xKJ R ds w)
def xYe(R:Rt)(l0 l1:SV)(dy dR:Int)(ds:Ds)(w:World):Prop:=
 zQA (λ(J1:(Int)->World->Prop) (s:Int) (w:World)=>xWD R J1 l0 l1 dy s ds w) dR w
def xWK(R:Rt)(l0 l1:SV)(ds:Ds)(w:World):Prop:=
 Br ((l0.len:Int) != (l1.len:Int)) (
 zQb prog ds w λw6=>
 R (.returned (.bool false)) w6) (
 xYe R l0 l1 (l0.len:Int) 0 ds w)
theorem F107_p:Pl prog f107 [lS 0,lS 1] xWK:=λR=>
 pc 4 (rest [lS 0,lS 1,iS 12,iS 13] (xYe R) (bk 0 (rest [] (xKJ R) lf) (lp [iS 13] [lS 0,lS 1,iS 12,iS 13] (xWD R) zXH λJ1=>lf)))
theorem yWI (l0 l1:SV) (w:World) (R:Rt) (h:xWK R l0 l1 [] w):Calls prog 107 #[l0.v,l1.v] w R:=
 plC F107_p func107 h
def xVh(R:Rt)(ds:Ds)(w:World):Prop:=
 zQb prog ds w λw1=>
 R (.returned (.bool true)) w1
def xWw (R:Rt) (J1:(Int)->World->Prop) (l0 l1:SV) (dy dR:Int) (ds:Ds) (w:World):Prop:=
 Br (decide (dR<dy)) (
 dwE w λw2=>
 ∃a3,l0.a=some a3/\0<=dR/\dR<(l0.len:Int)/\
 ∃dG,w2.cell? ((a3.add (dR.toNat * 3)).add 0)=some (.int .i64 dG)/\
 ∃bQ,w2.cell? ((a3.add (dR.toNat * 3)).add 1)=some (.int .i64 bQ)/\
 ∃jE,w2.cell? ((a3.add (dR.toNat * 3)).add 2)=some (.string jE)/\
 ∃a4,l1.a=some a4/\0<=dR/\dR<(l1.len:Int)/\
 ∃nE,w2.cell? ((a4.add (dR.toNat * 3)).add 0)=some (.int .i64 nE)/\
 ∃d8,w2.cell? ((a4.add (dR.toNat * 3)).add 1)=some (.int .i64 d8)/\
 ∃nF,w2.cell? ((a4.add (dR.toNat * 3)).add 2)=some (.string nF)/\
 ∃qC:Bool,(∀w,(eqS .neq 73 (.tmp 19) (.tmp 23) (.agg #[.int .i64 dG,.int .i64 bQ,.string jE]) (.agg #[.int .i64 nE,.int .i64 d8,.string nF])).run prog w=.ok (.bool qC) w)/\
 Br qC (
 zQb prog ds w2 λw5=>
 R (.returned (.bool false)) w5) (
 J1 (IntKind.i64.wrap (dR+1)) w2)) (
 xVh R ds w)
def xYb(R:Rt)(l0 l1:SV)(dy dR:Int)(ds:Ds)(w:World):Prop:=
 zQA (λ(J1:(Int)->World->Prop) (s:Int) (w:World)=>xWw R J1 l0 l1 dy s ds w) dR w
def xVn(R:Rt)(l0 l1:SV)(ds:Ds)(w:World):Prop:=
 Br ((l0.len:Int) != (l1.len:Int)) (
 zQb prog ds w λw6=>
 R (.returned (.bool false)) w6) (
 xYb R l0 l1 (l0.len:Int) 0 ds w)
theorem F108_p:Pl prog f108 [lS 0,lS 1] xVn:=λR=>
 pc 4 (rest [lS 0,lS 1,iS 12,iS 13] (xYb R) (bk 0 (rest [] (xVh R) lf) (lp [iS 13] [lS 0,lS 1,iS 12,iS 13] (xWw R) zXH λJ1=>lf)))
theorem yVa (l0 l1:SV) (w:World) (R:Rt) (h:xVn R l0 l1 [] w):Calls prog 108 #[l0.v,l1.v] w R:=
 plC F108_p func108 h
def F69_1(R:Rt)(ds:Ds)(w:World):Prop:=
 zQb prog ds w λw1=>
 R (.returned (.bool true)) w1
def F69_2 (R:Rt) (J1:(Int)->World->Prop) (l0 l1:SV) (n5:Int) (ds:Ds) (w:World):Prop:=
 Br (decide (n5<(l0.len:Int))) (
 dwE w λw2=>
 ∃a3,l0.a=some a3/\0<=n5/\n5<(l0.len:Int)/\
 ∃un,w2.cell? ((a3.add (n5.toNat * 4)).add 0)=some (.string un)/\
 ∃eM,w2.cell? ((a3.add (n5.toNat * 4)).add 1)=some (.int .i64 eM)/\
 ∃nG,w2.cell? ((a3.add (n5.toNat * 4)).add 2)=some (.int .i64 nG)/\
 ∃uo,w2.cell? ((a3.add (n5.toNat * 4)).add 3)=some (.bool uo)/\
 ∃a4,l1.a=some a4/\0<=n5/\n5<(l1.len:Int)/\
 ∃np,w2.cell? ((a4.add (n5.toNat * 4)).add 0)=some (.string np)/\
 ∃jv,w2.cell? ((a4.add (n5.toNat * 4)).add 1)=some (.int .i64 jv)/\
 ∃nq,w2.cell? ((a4.add (n5.toNat * 4)).add 2)=some (.int .i64 nq)/\
 ∃nr,w2.cell? ((a4.add (n5.toNat * 4)).add 3)=some (.bool nr)/\
 ∃oW:Bool,(∀w,(eqS .neq 129 (.tmp 20) (.tmp 24) (.agg #[.string un,.int .i64 eM,.int .i64 nG,.bool uo]) (.agg #[.string np,.int .i64 jv,.int .i64 nq,.bool nr])).run prog w=.ok (.bool oW) w)/\
 Br oW (
 zQb prog ds w2 λw5=>
 R (.returned (.bool false)) w5) (
 J1 (IntKind.i64.wrap (n5+1)) w2)) (
 F69_1 R ds w)
def F69_3(R:Rt)(l0 l1:SV)(n5:Int)(ds:Ds)(w:World):Prop:=
 zQA (λ(J1:(Int)->World->Prop) (s:Int) (w:World)=>F69_2 R J1 l0 l1 s ds w) n5 w
def F69_5(R:Rt)(l0 l1:SV)(ds:Ds)(w:World):Prop:=
 Br ((l0.len:Int) != (l1.len:Int)) (
 zQb prog ds w λw6=>
 R (.returned (.bool false)) w6) (
 F69_3 R l0 l1 0 ds w)
theorem F69_p:Pl prog f69 [lS 0,lS 1] F69_5:=λR=>
 pc 4 (rest [lS 0,lS 1,iS 5] (F69_3 R) (bk 0 (rest [] (F69_1 R) lf) (lp [iS 5] [lS 0,lS 1,iS 5] (F69_2 R) zXH λJ1=>lf)))
theorem xXM (l0 l1:SV) (w:World) (R:Rt) (h:F69_5 R l0 l1 [] w):Calls prog 69 #[l0.v,l1.v] w R:=
 plC F69_p func69 h
end Go.Proofs.YtaeecpjhfmcliaaGreatDoor
/- Shallow texts of functions, printed by program, each checked by the kernel against the loaded code. No condition. -/
namespace Go.Proofs.YtaeecpjhfmcliaaGreatDoor
open Go.Sh Tryz
def xVs(R:Rt)(n0:Int)(ds:Ds)(w:World):Prop:=
 IntKind.i64=IntKind.i64/\(4:Int) ≠ 0/\
 Br ((n0.tmod 4) == 0) (
 IntKind.i64=IntKind.i64/\(100:Int) ≠ 0/\
 Br ((n0.tmod 100) != 0) (
 zQb prog ds w λw1=>
 R (.returned (.bool true)) w1) (
 IntKind.i64=IntKind.i64/\(400:Int) ≠ 0/\
 zQb prog ds w λw2=>
 R (.returned (.bool ((n0.tmod 400) == 0))) w2)) (
 zQb prog ds w λw3=>
 R (.returned (.bool false)) w3)
theorem F239_p:Pl prog f239 [iS 0] xVs:=λR=>
 lf
theorem yVb (n0:Int) (w:World) (R:Rt) (h:xVs R n0 [] w):Calls prog 239 #[.int .i64 n0] w R:=
 plC F239_p func239 h
def xWc(R:Rt)(n0 n1:Int)(ds:Ds)(w:World):Prop:=
 alE (.cells #[.int .i64 0,.int .i64 0,.int .i64 0,.int .i64 0,.int .i64 0,.int .i64 0,.int .i64 0,.int .i64 0,.int .i64 0,.int .i64 0,.int .i64 0,.int .i64 0] 258) w λr5 w1=>
 stA prog 258 (⟨r5,0,none⟩:Addr) #[.int .i64 31,.int .i64 28,.int .i64 31,.int .i64 30,.int .i64 31,.int .i64 30,.int .i64 31,.int .i64 31,.int .i64 30,.int .i64 31,.int .i64 30,.int .i64 31] w1 λw2=>
 Br (n1 == 2) (
 Calls prog 239 #[.int .i64 n0] w2 λe w3=>
 ∃qb:Bool,e=.returned (.bool qb)/\
 Br qb (
 zQb prog ds w3 λw4=>
 R (.returned (.int .i64 29)) w4) (
 0<=(IntKind.i64.wrap (n1 - 1))/\(IntKind.i64.wrap (n1 - 1))<(12:Int)/\
 ∃n16,w3.cell? ((⟨r5,0,none⟩:Addr).add ((IntKind.i64.wrap (n1 - 1)).toNat * 1))=some (.int .i64 n16)/\
 zQb prog ds w3 λw5=>
 R (.returned (.int .i64 n16)) w5)) (
 0<=(IntKind.i64.wrap (n1 - 1))/\(IntKind.i64.wrap (n1 - 1))<(12:Int)/\
 ∃n16,w2.cell? ((⟨r5,0,none⟩:Addr).add ((IntKind.i64.wrap (n1 - 1)).toNat * 1))=some (.int .i64 n16)/\
 zQb prog ds w2 λw6=>
 R (.returned (.int .i64 n16)) w6)
theorem F236_p:Pl prog f236 [iS 0,iS 1] xWc:=λR=>
 lf
theorem yVv (n0 n1:Int) (w:World) (R:Rt) (h:xWc R n0 n1 [] w):Calls prog 236 #[.int .i64 n0,.int .i64 n1] w R:=
 plC F236_p func236 h
def xVS(R:Rt)(n0:Int)(ds:Ds)(w:World):Prop:=
 IntKind.i64=IntKind.i64/\(4:Int) ≠ 0/\
 IntKind.i64=IntKind.i64/\(100:Int) ≠ 0/\
 IntKind.i64=IntKind.i64/\(400:Int) ≠ 0/\
 zQb prog ds w λw1=>
 R (.returned (.int .i64 (IntKind.i64.wrap ((IntKind.i64.wrap ((IntKind.i64.wrap ((IntKind.i64.wrap ((365:Int) * (IntKind.i64.wrap (n0 - 1))))+(IntKind.i64.wrap ((IntKind.i64.wrap (n0 - 1)).tdiv 4)))) - (IntKind.i64.wrap ((IntKind.i64.wrap (n0 - 1)).tdiv 100))))+(IntKind.i64.wrap ((IntKind.i64.wrap (n0 - 1)).tdiv 400)))))) w1
theorem F237_p:Pl prog f237 [iS 0] xVS:=λR=>
 lf
theorem yWE (n0:Int) (w:World) (R:Rt) (h:xVS R n0 [] w):Calls prog 237 #[.int .i64 n0] w R:=
 plC F237_p func237 h
def xWB(R:Rt)(n8:Int)(ds:Ds)(w:World):Prop:=
 zQb prog ds w λw1=>
 R (.returned (.tuple #[.int .i64 n8,.int .i64 0])) w1
def xJP (R:Rt) (J1:(Int × Int)->World->Prop) (n0 n8 gj nh:Int) (ds:Ds) (w:World):Prop:=
 Br (decide (nh<gj)) (
 Calls prog 236 #[.int .i64 n0,.int .i64 (IntKind.i64.wrap (nh+1))] w λe w2=>
 ∃dq:Int,e=.returned (.int .i64 dq)/\
 J1 ((IntKind.i64.wrap (n8+dq)),(IntKind.i64.wrap (nh+1))) w2) (
 xWB R n8 ds w)
def xVX(R:Rt)(n0 n8 gj nh:Int)(ds:Ds)(w:World):Prop:=
 zQA (λ(J1:(Int × Int)->World->Prop) (s:Int × Int) (w:World)=>xJP R J1 n0 s.1 gj s.2 ds w) (n8,nh) w
def zVw(R:Rt)(n0 n1 n2:Int)(b34:Bool)(ds:Ds)(w:World):Prop:=
 Br b34 (
 zQb prog ds w λw3=>
 R (.returned (.tuple #[.int .i64 0,.int .i64 1])) w3) (
 Calls prog 237 #[.int .i64 n0] w λe w4=>
 ∃i6:Int,e=.returned (.int .i64 i6)/\
 xVX R n0 (IntKind.i64.wrap (i6+n2)) (IntKind.i64.wrap (n1 - 1)) 0 ds w4)
def xVR(R:Rt)(n0 n1 n2:Int)(ds:Ds)(w:World):Prop:=
 Br (decide (n0<1)) (
 zVw R n0 n1 n2 true ds w) (
 Br (decide (n0 > 9999)) (
 zVw R n0 n1 n2 true ds w) (
 Br (decide (n1<1)) (
 zVw R n0 n1 n2 true ds w) (
 Br (decide (n1 > 12)) (
 zVw R n0 n1 n2 true ds w) (
 Br (decide (n2<1)) (
 zVw R n0 n1 n2 true ds w) (
 Calls prog 236 #[.int .i64 n0,.int .i64 n1] w λe w5=>
 ∃pq:Int,e=.returned (.int .i64 pq)/\
 zVw R n0 n1 n2 (decide (n2 > pq)) ds w5)))))
def xWz(R:Rt)(n0 n1 n2:Int)(ds:Ds)(w:World):Prop:=
 xVR R n0 n1 n2 ds w
theorem F226_p:Pl prog f226 [iS 0,iS 1,iS 2] xWz:=λR=>
 pc 1 (rest [iS 0,iS 1,iS 2] (xVR R) (pc 1 (rest [iS 0,iS 1,iS 2,bS 34] (zVw R) (pc 3 (rest [iS 0,iS 8,iS 40,iS 41] (xVX R) (bk 0 (rest [iS 8] (xWB R) lf) (lp [iS 8,iS 41] [iS 0,iS 8,iS 40,iS 41] (xJP R) zXH λJ1=>lf)))))))
theorem yWO (n0 n1 n2:Int) (w:World) (R:Rt) (h:xWz R n0 n1 n2 [] w):Calls prog 226 #[.int .i64 n0,.int .i64 n1,.int .i64 n2] w R:=
 plC F226_p func226 h
def xWj(R:Rt)(n6 n7 n8:Int)(ds:Ds)(w:World):Prop:=
 zQb prog ds w λw1=>
 R (.returned (.tuple #[.int .i64 n6,.int .i64 n8,.int .i64 n7,.int .i64 0])) w1
def xVx (R:Rt) (J1:(Int × Int)->World->Prop) (n6 n7 n8:Int) (ds:Ds) (w:World):Prop:=
 Calls prog 236 #[.int .i64 n6,.int .i64 n8] w λe w2=>
 ∃qL:Int,e=.returned (.int .i64 qL)/\
 Br (decide (n7 > qL)) (
 Calls prog 236 #[.int .i64 n6,.int .i64 n8] w2 λe w3=>
 ∃i6:Int,e=.returned (.int .i64 i6)/\
 J1 ((IntKind.i64.wrap (n7 - i6)),(IntKind.i64.wrap (n8+1))) w3) (
 xWj R n6 n7 n8 ds w2)
def xKB(R:Rt)(n6 n7 n8:Int)(ds:Ds)(w:World):Prop:=
 zQA (λ(J1:(Int × Int)->World->Prop) (s:Int × Int) (w:World)=>xVx R J1 n6 s.1 s.2 ds w) (n7,n8) w
def xKt(R:Rt)(n0 n6:Int)(ds:Ds)(w:World):Prop:=
 Calls prog 237 #[.int .i64 n6] w λe w4=>
 ∃cr:Int,e=.returned (.int .i64 cr)/\
 xKB R n6 (IntKind.i64.wrap (n0 - cr)) 1 ds w4
def xXX (R:Rt) (J1:(Int)->World->Prop) (n0 n6:Int) (ds:Ds) (w:World):Prop:=
 Calls prog 237 #[.int .i64 (IntKind.i64.wrap (n6+1))] w λe w5=>
 ∃jb:Int,e=.returned (.int .i64 jb)/\
 Br (decide (jb<n0)) (
 J1 (IntKind.i64.wrap (n6+1)) w5) (
 xKt R n0 n6 ds w5)
def xWh(R:Rt)(n0 n6:Int)(ds:Ds)(w:World):Prop:=
 zQA (λ(J1:(Int)->World->Prop) (s:Int) (w:World)=>xXX R J1 n0 s ds w) n6 w
def xJU(R:Rt)(n0:Int)(ds:Ds)(w:World):Prop:=
 Calls prog 191 #[.int .i64 n0] w λe w6=>
 ∃dS:Bool,e=.returned (.bool dS)/\
 Br (!dS) (
 zQb prog ds w6 λw7=>
 R (.returned (.tuple #[.int .i64 0,.int .i64 0,.int .i64 0,.int .i64 1])) w7) (
 Br (n0 == 0) (
 zQb prog ds w6 λw8=>
 R (.returned (.tuple #[.int .i64 0,.int .i64 0,.int .i64 0,.int .i64 0])) w8) (
 IntKind.i64=IntKind.i64/\(366:Int) ≠ 0/\
 xWh R n0 (IntKind.i64.wrap ((IntKind.i64.wrap (n0.tdiv 366))+1)) ds w6))
theorem F234_p:Pl prog f234 [iS 0] xJU:=λR=>
 pc 6 (rest [iS 0,iS 6] (xWh R) (bk 0 (rest [iS 0,iS 6] (xKt R) (pc 1 (rest [iS 6,iS 7,iS 8] (xKB R) (bk 2 (rest [iS 6,iS 7,iS 8] (xWj R) lf) (lp [iS 7,iS 8] [iS 6,iS 7,iS 8] (xVx R) zXH λJ1=>lf))))) (lp [iS 6] [iS 0,iS 6] (xXX R) zXH λJ1=>lf)))
theorem yV5 (n0:Int) (w:World) (R:Rt) (h:xJU R n0 [] w):Calls prog 234 #[.int .i64 n0] w R:=
 plC F234_p func234 h
def xKU(R:Rt)(n0 n1:Int)(ds:Ds)(w:World):Prop:=
 Calls prog 154 #[.int .i64 n0] w λe w1=>
 ∃s7:ByteArray,e=.returned (.string s7)/\
 Calls prog 155 #[.string (⟨#[48]⟩:ByteArray),.int .i64 (IntKind.i64.wrap (n1 - (s7.size:Int)))] w1 λe w2=>
 ∃sq:ByteArray,e=.returned (.string sq)/\
 ((sq.size+s7.size:Nat):Int)<=9223372036854775807/\
 zQb prog ds w2 λw3=>
 R (.returned (.string (sq ++ s7))) w3
theorem F235_p:Pl prog f235 [iS 0,iS 1] xKU:=λR=>
 lf
theorem yVu (n0 n1:Int) (w:World) (R:Rt) (h:xKU R n0 n1 [] w):Calls prog 235 #[.int .i64 n0,.int .i64 n1] w R:=
 plC F235_p func235 h
def xJF(R:Rt)(n0:Int)(ds:Ds)(w:World):Prop:=
 Calls prog 234 #[.int .i64 n0] w λe w1=>
 ∃ip:Int,∃eu:Int,∃qQ:Int,∃n9_3:Int,e=.returned (.tuple #[.int .i64 ip,.int .i64 eu,.int .i64 qQ,.int .i64 n9_3])/\
 Calls prog 235 #[.int .i64 ip,.int .i64 4] w1 λe w2=>
 ∃v7:ByteArray,e=.returned (.string v7)/\
 Calls prog 235 #[.int .i64 eu,.int .i64 2] w2 λe w3=>
 ∃ws:ByteArray,e=.returned (.string ws)/\
 ((v7.size+ws.size:Nat):Int)<=9223372036854775807/\
 Calls prog 235 #[.int .i64 qQ,.int .i64 2] w3 λe w4=>
 ∃s20:ByteArray,e=.returned (.string s20)/\
 (((v7 ++ ws).size+s20.size:Nat):Int)<=9223372036854775807/\
 zQb prog ds w4 λw5=>
 R (.returned (.string ((v7 ++ ws) ++ s20))) w5
theorem F225_p:Pl prog f225 [iS 0] xJF:=λR=>
 lf
theorem yWc (n0:Int) (w:World) (R:Rt) (h:xJF R n0 [] w):Calls prog 225 #[.int .i64 n0] w R:=
 plC F225_p func225 h
def xWR(R:Rt)(n0:Int)(ds:Ds)(w:World):Prop:=
 Calls prog 191 #[.int .i64 n0] w λe w1=>
 ∃b5:Bool,e=.returned (.bool b5)/\
 Br (!b5) (
 zQb prog ds w1 λw2=>
 R (.returned (.tuple #[.string (⟨#[]⟩:ByteArray),.int .i64 1])) w2) (
 Br (n0 == 0) (
 zQb prog ds w1 λw3=>
 R (.returned (.tuple #[.string (⟨#[32,32,32,32,32,32,32,32]⟩:ByteArray),.int .i64 0])) w3) (
 Calls prog 225 #[.int .i64 n0] w1 λe w4=>
 ∃uh:ByteArray,e=.returned (.string uh)/\
 zQb prog ds w4 λw5=>
 R (.returned (.tuple #[.string uh,.int .i64 0])) w5))
theorem F212_p:Pl prog f212 [iS 0] xWR:=λR=>
 lf
theorem yW3 (n0:Int) (w:World) (R:Rt) (h:xWR R n0 [] w):Calls prog 212 #[.int .i64 n0] w R:=
 plC F212_p func212 h
end Go.Proofs.YtaeecpjhfmcliaaGreatDoor
/- Shallow texts of functions, printed by program, each checked by the kernel against the loaded code. No condition. -/
namespace Go.Proofs.YtaeecpjhfmcliaaGreatDoor
open Go.Sh Tryz
def xJE(R:Rt)(aW:ByteArray)(aJ aX:Int)(aY:Bool)(bD co:Int)(dr:ByteArray)(ds:Ds)(w:World):Prop:=
 alE (.cells #[.string aW,.int .i64 aJ,.int .i64 aX,.bool aY] 129) w λr2 w1=>
 alE (.cells #[.int .i64 bD,.int .i64 co,.string dr] 73) w1 λr3 w2=>
 ∃n6,w2.cell? ((⟨r3,0,none⟩:Addr).add 1)=some (.int .i64 n6)/\
 ∃n8,w2.cell? ((⟨r3,0,none⟩:Addr).add 1)=some (.int .i64 n8)/\
 0<=(IntKind.i64.wrap (n8+1))/\(IntKind.i64.wrap (n8+1)).toNat<=(⟨#[70,84]⟩:ByteArray).size/\0<=n6/\n6.toNat<=(IntKind.i64.wrap (n8+1)).toNat/\
 zQb prog ds w2 λw3=>
 R (.returned (.string ((⟨#[70,84]⟩:ByteArray).extract n6.toNat ((IntKind.i64.wrap (n8+1)).toNat)))) w3
theorem F180_p:Pl prog f180 [aS 0 [.str,.int .i64,.int .i64,.bool],aS 1 [.int .i64,.int .i64,.str]] xJE:=λR=>
 lf
theorem yWY (aW:ByteArray) (aJ aX:Int) (aY:Bool) (bD co:Int) (dr:ByteArray) (w:World) (R:Rt) (h:xJE R aW aJ aX aY bD co dr [] w):Calls prog 180 #[.agg #[.string aW,.int .i64 aJ,.int .i64 aX,.bool aY],.agg #[.int .i64 bD,.int .i64 co,.string dr]] w R:=
 plC F180_p func180 h
def xKM(R:Rt)(aW:ByteArray)(aJ aX:Int)(aY:Bool)(bD co:Int)(dr:ByteArray)(ds:Ds)(w:World):Prop:=
 alE (.cells #[.string aW,.int .i64 aJ,.int .i64 aX,.bool aY] 129) w λr2 w1=>
 alE (.cells #[.int .i64 bD,.int .i64 co,.string dr] 73) w1 λr3 w2=>
 ∃n9,w2.cell? ((⟨r3,0,none⟩:Addr).add 1)=some (.int .i64 n9)/\
 ∃cF,w2.cell? ((⟨r2,0,none⟩:Addr).add 2)=some (.int .i64 cF)/\
 Calls prog 121 #[.int .i64 n9,.int .i64 cF] w2 λe w3=>
 ∃uq:ByteArray,∃ed:Int,e=.returned (.tuple #[.string uq,.int .i64 ed])/\
 zQb prog ds w3 λw4=>
 R (.returned (.string uq)) w4
theorem F182_p:Pl prog f182 [aS 0 [.str,.int .i64,.int .i64,.bool],aS 1 [.int .i64,.int .i64,.str]] xKM:=λR=>
 lf
theorem yVS (aW:ByteArray) (aJ aX:Int) (aY:Bool) (bD co:Int) (dr:ByteArray) (w:World) (R:Rt) (h:xKM R aW aJ aX aY bD co dr [] w):Calls prog 182 #[.agg #[.string aW,.int .i64 aJ,.int .i64 aX,.bool aY],.agg #[.int .i64 bD,.int .i64 co,.string dr]] w R:=
 plC F182_p func182 h
def xVT(R:Rt)(aW:ByteArray)(aJ aX:Int)(aY:Bool)(bD co:Int)(dr:ByteArray)(ds:Ds)(w:World):Prop:=
 alE (.cells #[.string aW,.int .i64 aJ,.int .i64 aX,.bool aY] 129) w λr2 w1=>
 alE (.cells #[.int .i64 bD,.int .i64 co,.string dr] 73) w1 λr3 w2=>
 ∃n9,w2.cell? ((⟨r3,0,none⟩:Addr).add 1)=some (.int .i64 n9)/\
 Calls prog 212 #[.int .i64 n9] w2 λe w3=>
 ∃ur:ByteArray,∃jp:Int,e=.returned (.tuple #[.string ur,.int .i64 jp])/\
 zQb prog ds w3 λw4=>
 R (.returned (.string ur)) w4
theorem F184_p:Pl prog f184 [aS 0 [.str,.int .i64,.int .i64,.bool],aS 1 [.int .i64,.int .i64,.str]] xVT:=λR=>
 lf
theorem yWz (aW:ByteArray) (aJ aX:Int) (aY:Bool) (bD co:Int) (dr:ByteArray) (w:World) (R:Rt) (h:xVT R aW aJ aX aY bD co dr [] w):Calls prog 184 #[.agg #[.string aW,.int .i64 aJ,.int .i64 aX,.bool aY],.agg #[.int .i64 bD,.int .i64 co,.string dr]] w R:=
 plC F184_p func184 h
def xVM(R:Rt)(aW:ByteArray)(aJ aX:Int)(aY:Bool)(bD co:Int)(dr:ByteArray)(ds:Ds)(w:World):Prop:=
 alE (.cells #[.string aW,.int .i64 aJ,.int .i64 aX,.bool aY] 129) w λr2 w1=>
 alE (.cells #[.int .i64 bD,.int .i64 co,.string dr] 73) w1 λr3 w2=>
 ∃n6,w2.cell? ((⟨r3,0,none⟩:Addr).add 1)=some (.int .i64 n6)/\
 Br (n6 == 0) (
 ∃n9,w2.cell? ((⟨r2,0,none⟩:Addr).add 2)=some (.int .i64 n9)/\
 Calls prog 155 #[.string (⟨#[32]⟩:ByteArray),.int .i64 n9] w2 λe w3=>
 ∃uh:ByteArray,e=.returned (.string uh)/\
 zQb prog ds w3 λw4=>
 R (.returned (.string uh)) w4) (
 ∃js,w2.cell? ((⟨r2,0,none⟩:Addr).add 0)=some (.string js)/\
 ∃dZ,w2.cell? ((⟨r2,0,none⟩:Addr).add 1)=some (.int .i64 dZ)/\
 ∃jt,w2.cell? ((⟨r2,0,none⟩:Addr).add 2)=some (.int .i64 jt)/\
 ∃ju,w2.cell? ((⟨r2,0,none⟩:Addr).add 3)=some (.bool ju)/\
 ∃gL,w2.cell? ((⟨r3,0,none⟩:Addr).add 0)=some (.int .i64 gL)/\
 ∃ed,w2.cell? ((⟨r3,0,none⟩:Addr).add 1)=some (.int .i64 ed)/\
 ∃ut,w2.cell? ((⟨r3,0,none⟩:Addr).add 2)=some (.string ut)/\
 Calls prog 182 #[.agg #[.string js,.int .i64 dZ,.int .i64 jt,.bool ju],.agg #[.int .i64 gL,.int .i64 ed,.string ut]] w2 λe w5=>
 ∃qB:ByteArray,e=.returned (.string qB)/\
 zQb prog ds w5 λw6=>
 R (.returned (.string qB)) w6)
theorem F188_p:Pl prog f188 [aS 0 [.str,.int .i64,.int .i64,.bool],aS 1 [.int .i64,.int .i64,.str]] xVM:=λR=>
 lf
theorem yWK (aW:ByteArray) (aJ aX:Int) (aY:Bool) (bD co:Int) (dr:ByteArray) (w:World) (R:Rt) (h:xVM R aW aJ aX aY bD co dr [] w):Calls prog 188 #[.agg #[.string aW,.int .i64 aJ,.int .i64 aX,.bool aY],.agg #[.int .i64 bD,.int .i64 co,.string dr]] w R:=
 plC F188_p func188 h
end Go.Proofs.YtaeecpjhfmcliaaGreatDoor
/- Shallow texts of functions, printed by program, each checked by the kernel against the loaded code. No condition. -/
namespace Go.Proofs.YtaeecpjhfmcliaaGreatDoor
open Go.Sh Tryz
def xWs(R:Rt)(l3:SV)(ds:Ds)(w:World):Prop:=
 alE (.cells #[.int .u8 26] 5) w λr23 w1=>
 ∃bU:SV,∃w2,(Builtin.append_ #[22,22] 22 #[l3.v,.slice (some ⟨r23,0,none⟩) 1 1]).run prog w1=.ok (bU.v) w2/\
 zQb prog ds w2 λw3=>
 R (.returned (bU.v)) w3
def xKr (R:Rt) (J1:(SV × Int)->World->Prop) (p1:Option Addr) (l3 l9:SV) (fY cF:Int) (ds:Ds) (w:World):Prop:=
 Br (decide (cF<fY)) (
 ∃a4,l9.a=some a4/\0<=cF/\cF<(l9.len:Int)/\
 ∃uu,w.cell? ((a4.add (cF.toNat * 2)).add 0)=some (.bool uu)/\
 ∃cO:SV,w.cell? ((a4.add (cF.toNat * 2)).add 1)=some (cO.v)/\
 alE (.cells #[.bool false,.slice none 0 0] 67) w λr5 w5=>
 stA prog 67 (⟨r5,0,none⟩:Addr) #[.bool uu,cO.v] w5 λw6=>
 zQg p1 λa7=>
 ∃dH:SV,w6.cell? (a7.add 1)=some (dH.v)/\
 ∃uv,w6.cell? ((⟨r5,0,none⟩:Addr).add 0)=some (.bool uv)/\
 ∃bV:SV,w6.cell? ((⟨r5,0,none⟩:Addr).add 1)=some (bV.v)/\
 Calls prog 158 #[dH.v,.agg #[.bool uv,bV.v]] w6 λe w8=>
 ∃dm:SV,e=.returned (dm.v)/\
 ∃dW:SV,∃w9,(Builtin.append_ #[22,22] 22 #[l3.v,dm.v]).run prog w8=.ok (dW.v) w9/\
 J1 (dW,(IntKind.i64.wrap (cF+1))) w9) (
 xWs R l3 ds w)
def xVO(R:Rt)(p1:Option Addr)(l3 l9:SV)(fY cF:Int)(ds:Ds)(w:World):Prop:=
 zQA (λ(J1:(SV × Int)->World->Prop) (s:SV × Int) (w:World)=>xKr R J1 p1 s.1 l9 fY s.2 ds w) (l3,cF) w
def xWI(R:Rt)(au:Int)(ah ai:SV)(ds:Ds)(w:World):Prop:=
 alE (.cells #[.int .i64 au,ah.v,ai.v] 35) w λr1 aO=>
 ∃nH,aO.cell? ((⟨r1,0,none⟩:Addr).add 0)=some (.int .i64 nH)/\
 ∃fq:SV,aO.cell? ((⟨r1,0,none⟩:Addr).add 1)=some (fq.v)/\
 ∃ft:SV,aO.cell? ((⟨r1,0,none⟩:Addr).add 2)=some (ft.v)/\
 Calls prog 157 #[.agg #[.int .i64 nH,fq.v,ft.v]] aO λe aR=>
 ∃l7:SV,e=.returned (l7.v)/\
 ∃l9:SV,aR.cell? ((⟨r1,0,none⟩:Addr).add 2)=some (l9.v)/\
 xVO R (some (⟨r1,0,none⟩:Addr)) l7 l9 (l9.len:Int) 0 ds aR
theorem F123_p:Pl prog f123 [aS 0 [.int .i64,.slice,.slice]] xWI:=λR=>
 pc 3 (rest [pS 1,lS 3,lS 9,iS 10,iS 11] (xVO R) (bk 0 (rest [lS 3] (xWs R) lf) (lp [lS 3,iS 11] [pS 1,lS 3,lS 9,iS 10,iS 11] (xKr R) zXH λJ1=>lf)))
theorem yVn (au:Int) (ah ai:SV) (w:World) (R:Rt) (h:xWI R au ah ai [] w):Calls prog 123 #[.agg #[.int .i64 au,ah.v,ai.v]] w R:=
 plC F123_p func123 h
def F86_1(R:Rt)(au:Int)(ah ai:SV)(ds:Ds)(w:World):Prop:=
 alE (.cells #[.int .i64 au,ah.v,ai.v] 35) w λr1 w1=>
 ∃iO,w1.cell? ((⟨r1,0,none⟩:Addr).add 0)=some (.int .i64 iO)/\
 ∃dz:SV,w1.cell? ((⟨r1,0,none⟩:Addr).add 1)=some (dz.v)/\
 ∃cz:SV,w1.cell? ((⟨r1,0,none⟩:Addr).add 2)=some (cz.v)/\
 Calls prog 106 #[.agg #[.int .i64 iO,dz.v,cz.v]] w1 λe w2=>
 ∃n6:Int,e=.returned (.int .i64 n6)/\
 Br (n6 != 0) (
 zQb prog ds w2 λw3=>
 R (.returned (.tuple #[.slice none 0 0,.int .i64 n6])) w3) (
 ∃eW,w2.cell? ((⟨r1,0,none⟩:Addr).add 0)=some (.int .i64 eW)/\
 ∃bv:SV,w2.cell? ((⟨r1,0,none⟩:Addr).add 1)=some (bv.v)/\
 ∃bw:SV,w2.cell? ((⟨r1,0,none⟩:Addr).add 2)=some (bw.v)/\
 Calls prog 123 #[.agg #[.int .i64 eW,bv.v,bw.v]] w2 λe w4=>
 ∃ct:SV,e=.returned (ct.v)/\
 zQb prog ds w4 λw5=>
 R (.returned (.tuple #[ct.v,.int .i64 0])) w5)
theorem F86_p:Pl prog f86 [aS 0 [.int .i64,.slice,.slice]] F86_1:=λR=>
 lf
theorem xQy (au:Int) (ah ai:SV) (w:World) (R:Rt) (h:F86_1 R au ah ai [] w):Calls prog 86 #[.agg #[.int .i64 au,ah.v,ai.v]] w R:=
 plC F86_p func86 h
end Go.Proofs.YtaeecpjhfmcliaaGreatDoor
/- Shallow texts of functions, printed by program, each checked by the kernel against the loaded code. No condition. -/
namespace Go.Proofs.YtaeecpjhfmcliaaGreatDoor
open Go.Sh Tryz
def xKY(R:Rt)(s0:ByteArray)(ds:Ds)(w:World):Prop:=
 alE (.cells #[.int .i64 0,.int .i64 0,.string (⟨#[]⟩:ByteArray)] 73) w λr2 w1=>
 alE (.cells #[.int .i64 0,.int .i64 0,.string (⟨#[]⟩:ByteArray)] 73) w1 λr4 w2=>
 stA prog 73 (⟨r4,0,none⟩:Addr) #[.int .i64 1,.int .i64 0,.string (⟨#[]⟩:ByteArray)] w2 λw3=>
 Br (s0.toList == (⟨#[84]⟩:ByteArray).toList) (
 st1 ((⟨r4,0,none⟩:Addr).add 1) (.int .i64 1) w3 λw4=>
 ∃ip,w4.cell? ((⟨r4,0,none⟩:Addr).add 0)=some (.int .i64 ip)/\
 ∃eu,w4.cell? ((⟨r4,0,none⟩:Addr).add 1)=some (.int .i64 eu)/\
 ∃oX,w4.cell? ((⟨r4,0,none⟩:Addr).add 2)=some (.string oX)/\
 Br (s0.toList == (⟨#[84]⟩:ByteArray).toList) (
 stA prog 73 (⟨r2,0,none⟩:Addr) #[.int .i64 ip,.int .i64 eu,.string oX] w4 λw5=>
 zQb prog ds w5 λw6=>
 ∃ag,w6.cell? ((⟨r2,0,none⟩:Addr).add 0)=some (.int .i64 ag)/\
 ∃aj,w6.cell? ((⟨r2,0,none⟩:Addr).add 1)=some (.int .i64 aj)/\
 ∃ak,w6.cell? ((⟨r2,0,none⟩:Addr).add 2)=some (.string ak)/\
 R (.returned (.tuple #[.agg #[.int .i64 ag,.int .i64 aj,.string ak],.bool true])) w6) (
 stA prog 73 (⟨r2,0,none⟩:Addr) #[.int .i64 ip,.int .i64 eu,.string oX] w4 λw7=>
 zQb prog ds w7 λw8=>
 ∃ag,w8.cell? ((⟨r2,0,none⟩:Addr).add 0)=some (.int .i64 ag)/\
 ∃aj,w8.cell? ((⟨r2,0,none⟩:Addr).add 1)=some (.int .i64 aj)/\
 ∃ak,w8.cell? ((⟨r2,0,none⟩:Addr).add 2)=some (.string ak)/\
 R (.returned (.tuple #[.agg #[.int .i64 ag,.int .i64 aj,.string ak],.bool (s0.toList == (⟨#[70]⟩:ByteArray).toList)])) w8)) (
 ∃ip,w3.cell? ((⟨r4,0,none⟩:Addr).add 0)=some (.int .i64 ip)/\
 ∃eu,w3.cell? ((⟨r4,0,none⟩:Addr).add 1)=some (.int .i64 eu)/\
 ∃oX,w3.cell? ((⟨r4,0,none⟩:Addr).add 2)=some (.string oX)/\
 Br (s0.toList == (⟨#[84]⟩:ByteArray).toList) (
 stA prog 73 (⟨r2,0,none⟩:Addr) #[.int .i64 ip,.int .i64 eu,.string oX] w3 λw9=>
 zQb prog ds w9 λaO=>
 ∃ag,aO.cell? ((⟨r2,0,none⟩:Addr).add 0)=some (.int .i64 ag)/\
 ∃aj,aO.cell? ((⟨r2,0,none⟩:Addr).add 1)=some (.int .i64 aj)/\
 ∃ak,aO.cell? ((⟨r2,0,none⟩:Addr).add 2)=some (.string ak)/\
 R (.returned (.tuple #[.agg #[.int .i64 ag,.int .i64 aj,.string ak],.bool true])) aO) (
 stA prog 73 (⟨r2,0,none⟩:Addr) #[.int .i64 ip,.int .i64 eu,.string oX] w3 λaR=>
 zQb prog ds aR λaM=>
 ∃ag,aM.cell? ((⟨r2,0,none⟩:Addr).add 0)=some (.int .i64 ag)/\
 ∃aj,aM.cell? ((⟨r2,0,none⟩:Addr).add 1)=some (.int .i64 aj)/\
 ∃ak,aM.cell? ((⟨r2,0,none⟩:Addr).add 2)=some (.string ak)/\
 R (.returned (.tuple #[.agg #[.int .i64 ag,.int .i64 aj,.string ak],.bool (s0.toList == (⟨#[70]⟩:ByteArray).toList)])) aM))
theorem F181_p:Pl prog f181 [sS 0] xKY:=λR=>
 lf
theorem yW8 (s0:ByteArray) (w:World) (R:Rt) (h:xKY R s0 [] w):Calls prog 181 #[.string s0] w R:=
 plC F181_p func181 h
def xKc(R:Rt)(s0:ByteArray)(ds:Ds)(w:World):Prop:=
 alE (.cells #[.int .i64 0,.int .i64 0,.string (⟨#[]⟩:ByteArray)] 73) w λr2 w1=>
 Calls prog 211 #[.string s0] w1 λe w2=>
 ∃n5:Int,e=.returned (.int .i64 n5)/\
 Calls prog 190 #[.string s0,.string (⟨#[32]⟩:ByteArray)] w2 λe w3=>
 ∃s8:ByteArray,e=.returned (.string s8)/\
 stA prog 73 (⟨r2,0,none⟩:Addr) #[.int .i64 2,.int .i64 n5,.string (⟨#[]⟩:ByteArray)] w3 λw4=>
 zQb prog ds w4 λw5=>
 ∃ag,w5.cell? ((⟨r2,0,none⟩:Addr).add 0)=some (.int .i64 ag)/\
 ∃aj,w5.cell? ((⟨r2,0,none⟩:Addr).add 1)=some (.int .i64 aj)/\
 ∃ak,w5.cell? ((⟨r2,0,none⟩:Addr).add 2)=some (.string ak)/\
 R (.returned (.tuple #[.agg #[.int .i64 ag,.int .i64 aj,.string ak],.bool (!(s8.toList == (⟨#[]⟩:ByteArray).toList))])) w5
theorem F183_p:Pl prog f183 [sS 0] xKc:=λR=>
 lf
theorem yVN (s0:ByteArray) (w:World) (R:Rt) (h:xKc R s0 [] w):Calls prog 183 #[.string s0] w R:=
 plC F183_p func183 h
def xJB(R:Rt)(s0:ByteArray)(ds:Ds)(w:World):Prop:=
 alE (.cells #[.int .i64 0,.int .i64 0,.string (⟨#[]⟩:ByteArray)] 73) w λr2 w1=>
 Calls prog 213 #[.string s0] w1 λe w2=>
 ∃qZ:Int,∃re:Bool,e=.returned (.tuple #[.int .i64 qZ,.bool re])/\
 stA prog 73 (⟨r2,0,none⟩:Addr) #[.int .i64 3,.int .i64 qZ,.string (⟨#[]⟩:ByteArray)] w2 λw3=>
 zQb prog ds w3 λw4=>
 ∃ag,w4.cell? ((⟨r2,0,none⟩:Addr).add 0)=some (.int .i64 ag)/\
 ∃aj,w4.cell? ((⟨r2,0,none⟩:Addr).add 1)=some (.int .i64 aj)/\
 ∃ak,w4.cell? ((⟨r2,0,none⟩:Addr).add 2)=some (.string ak)/\
 R (.returned (.tuple #[.agg #[.int .i64 ag,.int .i64 aj,.string ak],.bool re])) w4
theorem F185_p:Pl prog f185 [sS 0] xJB:=λR=>
 lf
theorem yWR (s0:ByteArray) (w:World) (R:Rt) (h:xJB R s0 [] w):Calls prog 185 #[.string s0] w R:=
 plC F185_p func185 h
def xK5(R:Rt)(s0:ByteArray)(ds:Ds)(w:World):Prop:=
 alE (.cells #[.int .i64 0,.int .i64 0,.string (⟨#[]⟩:ByteArray)] 73) w λr2 w1=>
 Calls prog 119 #[.string s0,.string (⟨#[32]⟩:ByteArray)] w1 λe w2=>
 ∃s5:ByteArray,e=.returned (.string s5)/\
 stA prog 73 (⟨r2,0,none⟩:Addr) #[.int .i64 4,.int .i64 0,.string s5] w2 λw3=>
 zQb prog ds w3 λw4=>
 ∃ag,w4.cell? ((⟨r2,0,none⟩:Addr).add 0)=some (.int .i64 ag)/\
 ∃aj,w4.cell? ((⟨r2,0,none⟩:Addr).add 1)=some (.int .i64 aj)/\
 ∃ak,w4.cell? ((⟨r2,0,none⟩:Addr).add 2)=some (.string ak)/\
 R (.returned (.tuple #[.agg #[.int .i64 ag,.int .i64 aj,.string ak],.bool true])) w4
theorem F187_p:Pl prog f187 [sS 0] xK5:=λR=>
 lf
theorem yVe (s0:ByteArray) (w:World) (R:Rt) (h:xK5 R s0 [] w):Calls prog 187 #[.string s0] w R:=
 plC F187_p func187 h
def xJG(R:Rt)(s0:ByteArray)(ds:Ds)(w:World):Prop:=
 alE (.cells #[.int .i64 0,.int .i64 0,.string (⟨#[]⟩:ByteArray)] 73) w λr2 w1=>
 Calls prog 211 #[.string s0] w1 λe w2=>
 ∃n5:Int,e=.returned (.int .i64 n5)/\
 stA prog 73 (⟨r2,0,none⟩:Addr) #[.int .i64 2,.int .i64 n5,.string (⟨#[]⟩:ByteArray)] w2 λw3=>
 zQb prog ds w3 λw4=>
 ∃ag,w4.cell? ((⟨r2,0,none⟩:Addr).add 0)=some (.int .i64 ag)/\
 ∃aj,w4.cell? ((⟨r2,0,none⟩:Addr).add 1)=some (.int .i64 aj)/\
 ∃ak,w4.cell? ((⟨r2,0,none⟩:Addr).add 2)=some (.string ak)/\
 R (.returned (.tuple #[.agg #[.int .i64 ag,.int .i64 aj,.string ak],.bool true])) w4
theorem F189_p:Pl prog f189 [sS 0] xJG:=λR=>
 lf
theorem yVD (s0:ByteArray) (w:World) (R:Rt) (h:xJG R s0 [] w):Calls prog 189 #[.string s0] w R:=
 plC F189_p func189 h
def yYT(R:Rt)(s0:ByteArray)(ds:Ds)(w:World):Prop:=
 Br (s0.toList == (⟨#[32,32,32,32,32,32,32,32]⟩:ByteArray).toList) (
 zQb prog ds w λw1=>
 R (.returned (.tuple #[.int .i64 0,.bool true])) w1) (
 Br ((s0.size:Int) != 8) (
 zQb prog ds w λw2=>
 R (.returned (.tuple #[.int .i64 0,.bool false])) w2) (
 Calls prog 190 #[.string s0,.string (⟨#[48,49,50,51,52,53,54,55,56,57]⟩:ByteArray)] w λe w3=>
 ∃qB:ByteArray,e=.returned (.string qB)/\
 Br (!(qB.toList == (⟨#[]⟩:ByteArray).toList)) (
 zQb prog ds w3 λw4=>
 R (.returned (.tuple #[.int .i64 0,.bool false])) w4) (
 dwE w3 λw5=>
 0<=(4:Int)/\(4:Int).toNat<=s0.size/\0<=(4:Int).toNat/\
 0<=(6:Int)/\(6:Int).toNat<=s0.size/\0<=(4:Int)/\(4:Int).toNat<=(6:Int).toNat/\
 s0.size<=s0.size/\0<=(6:Int)/\(6:Int).toNat<=s0.size/\
 Calls prog 211 #[.string (s0.extract 0 ((4:Int).toNat))] w5 λe w6=>
 ∃jb:Int,e=.returned (.int .i64 jb)/\
 Calls prog 211 #[.string (s0.extract ((4:Int).toNat) ((6:Int).toNat))] w6 λe w7=>
 ∃dk:Int,e=.returned (.int .i64 dk)/\
 Calls prog 211 #[.string (s0.extract ((6:Int).toNat) s0.size)] w7 λe w8=>
 ∃ck:Int,e=.returned (.int .i64 ck)/\
 Calls prog 226 #[.int .i64 jb,.int .i64 dk,.int .i64 ck] w8 λe w9=>
 ∃eO:Int,∃fm:Int,e=.returned (.tuple #[.int .i64 eO,.int .i64 fm])/\
 zQb prog ds w9 λaO=>
 R (.returned (.tuple #[.int .i64 eO,.bool (fm == 0)])) aO)))
theorem F213_p:Pl prog f213 [sS 0] yYT:=λR=>
 lf
theorem yVk (s0:ByteArray) (w:World) (R:Rt) (h:yYT R s0 [] w):Calls prog 213 #[.string s0] w R:=
 plC F213_p func213 h
def yZi(R:Rt)(n3 n4:Int)(ds:Ds)(w:World):Prop:=
 zQb prog ds w λw1=>
 R (.returned (.int .i64 (IntKind.i64.wrap (n3 * n4)))) w1
def xVi (R:Rt) (J1:(Int × Int)->World->Prop) (s0:ByteArray) (n3 n4 cr gn:Int) (ds:Ds) (w:World):Prop:=
 Br (decide (gn<cr)) (
 ∃b32:UInt8,0<=gn/\s0[gn.toNat]?=some b32/\
 Br (decide ((b32.toNat:Int)<48)) (
 yZi R n3 n4 ds w) (
 ∃si:UInt8,0<=gn/\s0[gn.toNat]?=some si/\
 Br (decide ((si.toNat:Int) > 57)) (
 yZi R n3 n4 ds w) (
 ∃b44:UInt8,0<=gn/\s0[gn.toNat]?=some b44/\
 ∃dq:Int,∃w2,(Builtin.min_ #[3,3] 3 #[.int .i64 (IntKind.i64.wrap ((IntKind.i64.wrap (n4 * 10))+(IntKind.i64.wrap (IntKind.u8.wrap ((b44.toNat:Int) - 48))))),.int .i64 1000000000000000]).run prog w=.ok (.int .i64 dq) w2/\
 J1 (dq,(IntKind.i64.wrap (gn+1))) w2))) (
 yZi R n3 n4 ds w)
def xJV(R:Rt)(s0:ByteArray)(n3 n4 cr gn:Int)(ds:Ds)(w:World):Prop:=
 zQA (λ(J1:(Int × Int)->World->Prop) (s:Int × Int) (w:World)=>xVi R J1 s0 n3 s.1 cr s.2 ds w) (n4,gn) w
def zV1(R:Rt)(s0:ByteArray)(n3:Int)(ds:Ds)(w:World):Prop:=
 xJV R s0 n3 0 (s0.size:Int) 0 ds w
def xWp(R:Rt)(s0:ByteArray)(ds:Ds)(w:World):Prop:=
 Calls prog 224 #[.string s0,.string (⟨#[32]⟩:ByteArray)] w λe w3=>
 ∃s7:ByteArray,e=.returned (.string s7)/\
 Br (!(s7.toList == (⟨#[]⟩:ByteArray).toList)) (
 ∃cM:UInt8,0<=(0:Int)/\s7[(0:Int).toNat]?=some cM/\
 Br ((cM.toNat:Int) == 45) (
 ∃rg:UInt8,0<=(0:Int)/\s7[(0:Int).toNat]?=some rg/\
 Br ((rg.toNat:Int) == 45) (
 s7.size<=s7.size/\0<=(1:Int)/\(1:Int).toNat<=s7.size/\
 zV1 R (s7.extract ((1:Int).toNat) s7.size) (-1) ds w3) (
 s7.size<=s7.size/\0<=(1:Int)/\(1:Int).toNat<=s7.size/\
 zV1 R (s7.extract ((1:Int).toNat) s7.size) 1 ds w3)) (
 ∃j4:UInt8,0<=(0:Int)/\s7[(0:Int).toNat]?=some j4/\
 Br ((j4.toNat:Int) == 43) (
 ∃rg:UInt8,0<=(0:Int)/\s7[(0:Int).toNat]?=some rg/\
 Br ((rg.toNat:Int) == 45) (
 s7.size<=s7.size/\0<=(1:Int)/\(1:Int).toNat<=s7.size/\
 zV1 R (s7.extract ((1:Int).toNat) s7.size) (-1) ds w3) (
 s7.size<=s7.size/\0<=(1:Int)/\(1:Int).toNat<=s7.size/\
 zV1 R (s7.extract ((1:Int).toNat) s7.size) 1 ds w3)) (
 zV1 R s7 1 ds w3))) (
 zV1 R s7 1 ds w3)
theorem F211_p:Pl prog f211 [sS 0] xWp:=λR=>
 pc 5 (rest [sS 0,iS 3] (zV1 R) (pc 2 (rest [sS 0,iS 3,iS 4,iS 26,iS 27] (xJV R) (bk 0 (rest [iS 3,iS 4] (yZi R) lf) (lp [iS 4,iS 27] [sS 0,iS 3,iS 4,iS 26,iS 27] (xVi R) zXH λJ1=>lf)))))
theorem yV3 (s0:ByteArray) (w:World) (R:Rt) (h:xWp R s0 [] w):Calls prog 211 #[.string s0] w R:=
 plC F211_p func211 h
end Go.Proofs.YtaeecpjhfmcliaaGreatDoor
/- Shallow texts of functions, printed by program, each checked by the kernel against the loaded code. No condition. -/
namespace Go.Proofs.YtaeecpjhfmcliaaGreatDoor
open Go.Sh Tryz
def F18_1(R:Rt)(ds:Ds)(w:World):Prop:=
 zQb prog ds w λw1=>
 R (.returned (.bool true)) w1
def F18_2 (R:Rt) (J1:(Int)->World->Prop) (p2 p3:Option Addr) (n5:Int) (ds:Ds) (w:World):Prop:=
 zQg p2 λa2=>
 ∃oG:SV,w.cell? (a2.add 2)=some (oG.v)/\
 Br (decide (n5<(oG.len:Int))) (
 dwE w λw3=>
 zQg p2 λa4=>
 ∃iF:SV,w3.cell? (a4.add 2)=some (iF.v)/\
 ∃a5,iF.a=some a5/\0<=n5/\n5<(iF.len:Int)/\
 ∃uw,w3.cell? ((a5.add (n5.toNat * 2)).add 0)=some (.bool uw)/\
 ∃kY:SV,w3.cell? ((a5.add (n5.toNat * 2)).add 1)=some (kY.v)/\
 zQg p3 λa6=>
 ∃na:SV,w3.cell? (a6.add 2)=some (na.v)/\
 ∃a7,na.a=some a7/\0<=n5/\n5<(na.len:Int)/\
 ∃nI,w3.cell? ((a7.add (n5.toNat * 2)).add 0)=some (.bool nI)/\
 ∃fv:SV,w3.cell? ((a7.add (n5.toNat * 2)).add 1)=some (fv.v)/\
 Calls prog 70 #[.agg #[.bool uw,kY.v],.agg #[.bool nI,fv.v]] w3 λe w8=>
 ∃b45:Bool,e=.returned (.bool b45)/\
 Br (!b45) (
 zQb prog ds w8 λw9=>
 R (.returned (.bool false)) w9) (
 J1 (IntKind.i64.wrap (n5+1)) w8)) (
 F18_1 R ds w)
def F18_3(R:Rt)(p2 p3:Option Addr)(n5:Int)(ds:Ds)(w:World):Prop:=
 zQA (λ(J1:(Int)->World->Prop) (s:Int) (w:World)=>F18_2 R J1 p2 p3 s ds w) n5 w
def F18_5(R:Rt)(au:Int)(ah ai:SV)(bD:Int)(bg cu:SV)(ds:Ds)(w:World):Prop:=
 alE (.cells #[.int .i64 au,ah.v,ai.v] 35) w λr2 aO=>
 alE (.cells #[.int .i64 bD,bg.v,cu.v] 35) aO λr3 aR=>
 ∃n7,aR.cell? (⟨r2,0,none⟩:Addr)=some (.int .i64 n7)/\
 ∃n9,aR.cell? (⟨r3,0,none⟩:Addr)=some (.int .i64 n9)/\
 Br (n7 != n9) (
 zQb prog ds aR λaM=>
 R (.returned (.bool false)) aM) (
 ∃cy:SV,aR.cell? ((⟨r2,0,none⟩:Addr).add 1)=some (cy.v)/\
 ∃fe:SV,aR.cell? ((⟨r3,0,none⟩:Addr).add 1)=some (fe.v)/\
 Calls prog 69 #[cy.v,fe.v] aR λe aH=>
 ∃j4:Bool,e=.returned (.bool j4)/\
 Br (!j4) (
 zQb prog ds aH λbo=>
 R (.returned (.bool false)) bo) (
 ∃cJ:SV,aH.cell? ((⟨r2,0,none⟩:Addr).add 2)=some (cJ.v)/\
 ∃bU:SV,aH.cell? ((⟨r3,0,none⟩:Addr).add 2)=some (bU.v)/\
 Br ((cJ.len:Int) != (bU.len:Int)) (
 zQb prog ds aH λbt=>
 R (.returned (.bool false)) bt) (
 F18_3 R (some (⟨r2,0,none⟩:Addr)) (some (⟨r3,0,none⟩:Addr)) 0 ds aH)))
theorem F18_p:Pl prog f18 [aS 0 [.int .i64,.slice,.slice],aS 1 [.int .i64,.slice,.slice]] F18_5:=λR=>
 pc 4 (rest [pS 2,pS 3,iS 5] (F18_3 R) (bk 0 (rest [] (F18_1 R) lf) (lp [iS 5] [pS 2,pS 3,iS 5] (F18_2 R) zXH λJ1=>lf)))
theorem xX2 (au:Int) (ah ai:SV) (bD:Int) (bg cu:SV) (w:World) (R:Rt) (h:F18_5 R au ah ai bD bg cu [] w):Calls prog 18 #[.agg #[.int .i64 au,ah.v,ai.v],.agg #[.int .i64 bD,bg.v,cu.v]] w R:=
 plC F18_p func18 h
end Go.Proofs.YtaeecpjhfmcliaaGreatDoor
