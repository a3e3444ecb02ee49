import Derived.Test.YtaeecpjhfmcliaaGreatDoorProg
import Derived.Test.YtaeecpjhfmcliaaGreatDoorShTwentyEight
/- Shallow texts of functions, printed by program, each checked by the kernel against the loaded code. No condition. -/
set_option maxRecDepth 100000
set_option linter.unusedVariables false
namespace Go.Proofs.YtaeecpjhfmcliaaGreatDoor
open Go.Sh Tryz
def xZ3(R:Rt)(aF aH:Int)(dJ:ByteArray)(ds:Ds)(w:World):Prop:=
 alE (.cells #[.int .i64 aF,.int .i64 aH,.string dJ] 73) w λr1 w1=>
 ∃s4,w1.cell? ((⟨r1,0,none⟩:Addr).add 2)=some (.string s4)/\
 Br (decide ((s4.size:Int) > 2048)) (
 zQc prog ds w1 λw2=>
 R (.returned (.int .i64 3)) w2) (
 ∃dk,w1.cell? ((⟨r1,0,none⟩:Addr).add 0)=some (.int .i64 dk)/\
 ∃dL,w1.cell? ((⟨r1,0,none⟩:Addr).add 1)=some (.int .i64 dL)/\
 ∃mI,w1.cell? ((⟨r1,0,none⟩:Addr).add 2)=some (.string mI)/\
 Calls prog 147 #[.agg #[.int .i64 dk,.int .i64 dL,.string mI]] w1 λe w3=>
 ∃b8:Bool,e=.returned (.bool b8)/\
 Br (!b8) (
 zQc prog ds w3 λw4=>
 R (.returned (.int .i64 1)) w4) (
 zQc prog ds w3 λw5=>
 R (.returned (.int .i64 0)) w5))
theorem F117_p:Pl prog f117 [aS 0 [.int .i64,.int .i64,.str]] xZ3:=λR=>
 lf
theorem yJT (aF aH:Int) (dJ:ByteArray) (w:World) (R:Rt) (h:xZ3 R aF aH dJ [] w):Calls prog 117 #[.agg #[.int .i64 aF,.int .i64 aH,.string dJ]] w R:=
 plC F117_p func117 h
def zYO(R:Rt)(p1:Option Addr)(cq:Int)(ds:Ds)(w:World):Prop:=
 Br (cq == 0) (
 zQg p1 λa1=>
 ∃bE,w.cell? (a1.add 1)=some (.int .i64 bE)/\
 zQc prog ds w λw2=>
 R (.returned (.bool (bE == 0))) w2) (
 Br (cq == 1) (
 zQg p1 λa3=>
 ∃tf,w.cell? (a3.add 1)=some (.int .i64 tf)/\
 Br (tf == 0) (
 zQc prog ds w λw4=>
 R (.returned (.bool true)) w4) (
 zQg p1 λa5=>
 ∃oL,w.cell? (a5.add 1)=some (.int .i64 oL)/\
 zQc prog ds w λw6=>
 R (.returned (.bool (oL == 1))) w6)) (
 Br (cq == 2) (
 zQg p1 λa7=>
 ∃j2,w.cell? (a7.add 1)=some (.int .i64 j2)/\
 Calls prog 153 #[.int .i64 j2] w λe w8=>
 ∃zZ:Bool,e=.returned (.bool zZ)/\
 zQc prog ds w8 λw9=>
 R (.returned (.bool zZ)) w9) (
 Br (cq == 3) (
 zQg p1 λeJ=>
 ∃iu,w.cell? (eJ.add 1)=some (.int .i64 iu)/\
 Calls prog 191 #[.int .i64 iu] w λe aT=>
 ∃z7:Bool,e=.returned (.bool z7)/\
 zQc prog ds aT λaX=>
 R (.returned (.bool z7)) aX) (
 zQg p1 λmx=>
 ∃oM,w.cell? mx=some (.int .i64 oM)/\
 zQc prog ds w λbH=>
 R (.returned (.bool (oM == 4))) bH))))
def xZM(R:Rt)(aF aH:Int)(dJ:ByteArray)(ds:Ds)(w:World):Prop:=
 alE (.cells #[.int .i64 aF,.int .i64 aH,.string dJ] 73) w λr1 bC=>
 ∃n4,bC.cell? (⟨r1,0,none⟩:Addr)=some (.int .i64 n4)/\
 Br (n4 != 4) (
 ∃s8,bC.cell? ((⟨r1,0,none⟩:Addr).add 2)=some (.string s8)/\
 Br (!(s8.toList == (⟨#[]⟩:ByteArray).toList)) (
 zQc prog ds bC λbT=>
 R (.returned (.bool false)) bT) (
 ∃cX,bC.cell? (⟨r1,0,none⟩:Addr)=some (.int .i64 cX)/\
 Br (cX == 4) (
 ∃kN,bC.cell? ((⟨r1,0,none⟩:Addr).add 1)=some (.int .i64 kN)/\
 Br (kN != 0) (
 zQc prog ds bC λbD=>
 R (.returned (.bool false)) bD) (
 ∃cq,bC.cell? (⟨r1,0,none⟩:Addr)=some (.int .i64 cq)/\
 zYO R (some (⟨r1,0,none⟩:Addr)) cq ds bC)) (
 ∃cq,bC.cell? (⟨r1,0,none⟩:Addr)=some (.int .i64 cq)/\
 zYO R (some (⟨r1,0,none⟩:Addr)) cq ds bC))) (
 ∃cX,bC.cell? (⟨r1,0,none⟩:Addr)=some (.int .i64 cX)/\
 Br (cX == 4) (
 ∃kN,bC.cell? ((⟨r1,0,none⟩:Addr).add 1)=some (.int .i64 kN)/\
 Br (kN != 0) (
 zQc prog ds bC λcH=>
 R (.returned (.bool false)) cH) (
 ∃cq,bC.cell? (⟨r1,0,none⟩:Addr)=some (.int .i64 cq)/\
 zYO R (some (⟨r1,0,none⟩:Addr)) cq ds bC)) (
 ∃cq,bC.cell? (⟨r1,0,none⟩:Addr)=some (.int .i64 cq)/\
 zYO R (some (⟨r1,0,none⟩:Addr)) cq ds bC))
theorem F147_p:Pl prog f147 [aS 0 [.int .i64,.int .i64,.str]] xZM:=λR=>
 pc 4 (rest [pS 1,iS 22] (zYO R) lf)
theorem yWl (aF aH:Int) (dJ:ByteArray) (w:World) (R:Rt) (h:xZM R aF aH dJ [] w):Calls prog 147 #[.agg #[.int .i64 aF,.int .i64 aH,.string dJ]] w R:=
 plC F147_p func147 h
def xXB(R:Rt)(n0:Int)(ds:Ds)(w:World):Prop:=
 Br (decide (n0 >= (-1000000000000000))) (
 zQc prog ds w λw1=>
 R (.returned (.bool (decide (n0<=1000000000000000)))) w1) (
 zQc prog ds w λw2=>
 R (.returned (.bool false)) w2)
theorem F153_p:Pl prog f153 [iS 0] xXB:=λR=>
 lf
theorem yW4 (n0:Int) (w:World) (R:Rt) (h:xXB R n0 [] w):Calls prog 153 #[.int .i64 n0] w R:=
 plC F153_p func153 h
def xZP(R:Rt)(n0:Int)(ds:Ds)(w:World):Prop:=
 Br (decide (n0 >= 0)) (
 zQc prog ds w λw1=>
 R (.returned (.bool (decide (n0<=3652059)))) w1) (
 zQc prog ds w λw2=>
 R (.returned (.bool false)) w2)
theorem F191_p:Pl prog f191 [iS 0] xZP:=λR=>
 lf
theorem yKq (n0:Int) (w:World) (R:Rt) (h:xZP R n0 [] w):Calls prog 191 #[.int .i64 n0] w R:=
 plC F191_p func191 h
def zKp(R:Rt)(p1:Option Addr)(b3:Bool)(ds:Ds)(w:World):Prop:=
 Br (!b3) (
 zQc prog ds w λw1=>
 R (.returned (.int .i64 1)) w1) (
 zQg p1 λa2=>
 ∃oM,w.cell? a2=some (.int .i64 oM)/\
 Br (oM != 4) (
 zQg p1 λa3=>
 ∃s53,w.cell? (a3.add 2)=some (.string s53)/\
 Br (!(s53.toList == (⟨#[]⟩:ByteArray).toList)) (
 zQc prog ds w λw4=>
 R (.returned (.int .i64 1)) w4) (
 zQc prog ds w λw5=>
 R (.returned (.int .i64 0)) w5)) (
 zQc prog ds w λw6=>
 R (.returned (.int .i64 0)) w6))
def xK8(R:Rt)(aF aH:Int)(dJ:ByteArray)(ds:Ds)(w:World):Prop:=
 alE (.cells #[.int .i64 aF,.int .i64 aH,.string dJ] 73) w λr1 w7=>
 ∃s5,w7.cell? ((⟨r1,0,none⟩:Addr).add 2)=some (.string s5)/\
 Br (decide ((s5.size:Int) > 2048)) (
 zQc prog ds w7 λw8=>
 R (.returned (.int .i64 3)) w8) (
 ∃n9,w7.cell? (⟨r1,0,none⟩:Addr)=some (.int .i64 n9)/\
 Br (n9 == 0) (
 ∃cX,w7.cell? ((⟨r1,0,none⟩:Addr).add 1)=some (.int .i64 cX)/\
 zKp R (some (⟨r1,0,none⟩:Addr)) (cX == 0) ds w7) (
 Br (n9 == 1) (
 ∃gO,w7.cell? ((⟨r1,0,none⟩:Addr).add 1)=some (.int .i64 gO)/\
 Br (gO == 0) (
 zKp R (some (⟨r1,0,none⟩:Addr)) true ds w7) (
 ∃cq,w7.cell? ((⟨r1,0,none⟩:Addr).add 1)=some (.int .i64 cq)/\
 zKp R (some (⟨r1,0,none⟩:Addr)) (cq == 1) ds w7)) (
 Br (n9 == 2) (
 ∃my,w7.cell? ((⟨r1,0,none⟩:Addr).add 1)=some (.int .i64 my)/\
 Calls prog 167 #[.int .i64 my] w7 λe w9=>
 ∃b29:Bool,e=.returned (.bool b29)/\
 zKp R (some (⟨r1,0,none⟩:Addr)) b29 ds w9) (
 Br (n9 == 3) (
 ∃iw,w7.cell? ((⟨r1,0,none⟩:Addr).add 1)=some (.int .i64 iw)/\
 Br (decide (iw >= 0)) (
 ∃lz,w7.cell? ((⟨r1,0,none⟩:Addr).add 1)=some (.int .i64 lz)/\
 zKp R (some (⟨r1,0,none⟩:Addr)) (decide (lz<=3652059)) ds w7) (
 zKp R (some (⟨r1,0,none⟩:Addr)) false ds w7)) (
 Br (n9 == 4) (
 ∃cN,w7.cell? ((⟨r1,0,none⟩:Addr).add 1)=some (.int .i64 cN)/\
 zKp R (some (⟨r1,0,none⟩:Addr)) (cN == 0) ds w7) (
 zKp R (some (⟨r1,0,none⟩:Addr)) false ds w7))))))
theorem F132_p:Pl prog f132 [aS 0 [.int .i64,.int .i64,.str]] xK8:=λR=>
 pc 6 (rest [pS 1,bS 3] (zKp R) lf)
theorem yWr (aF aH:Int) (dJ:ByteArray) (w:World) (R:Rt) (h:xK8 R aF aH dJ [] w):Calls prog 132 #[.agg #[.int .i64 aF,.int .i64 aH,.string dJ]] w R:=
 plC F132_p func132 h
def xKB(R:Rt)(n0:Int)(ds:Ds)(w:World):Prop:=
 Br (decide (n0 >= (-1000000000000000))) (
 zQc prog ds w λw1=>
 R (.returned (.bool (decide (n0<=1000000000000000)))) w1) (
 zQc prog ds w λw2=>
 R (.returned (.bool false)) w2)
theorem F167_p:Pl prog f167 [iS 0] xKB:=λR=>
 lf
theorem yKU (n0:Int) (w:World) (R:Rt) (h:xKB R n0 [] w):Calls prog 167 #[.int .i64 n0] w R:=
 plC F167_p func167 h
end Go.Proofs.YtaeecpjhfmcliaaGreatDoor
/- Shallow texts of functions, printed by program, each checked by the kernel against the loaded code. No condition. -/
namespace Go.Proofs.YtaeecpjhfmcliaaGreatDoor
open Go.Sh Tryz
def yJa(R:Rt)(p1 p3:Option Addr)(b4:Bool)(ds:Ds)(w:World):Prop:=
 Br b4 (
 zQg p1 λa1=>
 ∃rj,w.cell? a1=some (.string rj)/\
 Calls prog 146 #[.string rj] w λe w2=>
 ∃gP:Bool,e=.returned (.bool gP)/\
 Br gP (
 zQg p1 λa3=>
 ∃iQ,w2.cell? (a3.add 2)=some (.int .i64 iQ)/\
 zQg p3 λa4=>
 ∃cq,w2.cell? (a4.add 1)=some (.int .i64 cq)/\
 Br (decide (iQ >= cq)) (
 zQg p1 λa5=>
 ∃fW,w2.cell? (a5.add 2)=some (.int .i64 fW)/\
 zQg p3 λa6=>
 ∃kX,w2.cell? (a6.add 2)=some (.int .i64 kX)/\
 zQc prog ds w2 λw7=>
 R (.returned (.bool (decide (fW<=kX)))) w7) (
 zQc prog ds w2 λw8=>
 R (.returned (.bool false)) w8)) (
 zQc prog ds w2 λw9=>
 R (.returned (.bool false)) w9)) (
 zQc prog ds w λaU=>
 R (.returned (.bool false)) aU)
def xJr(R:Rt)(aP:ByteArray)(aH aQ:Int)(aR:Bool)(ds:Ds)(w:World):Prop:=
 alE (.cells #[.string aP,.int .i64 aH,.int .i64 aQ,.bool aR] 129) w λr1 aT=>
 dwE aT λaX=>
 ∃S1:World->Prop,S1 aX/\
 ∃n8,(∀w',S1 w'->w'.cell? ((⟨r1,0,none⟩:Addr).add 1)=some (.int .i64 n8))/\
 (
 Calls prog 145 #[] aX λe aK=>
 ∃m6:Option Nat,e=.returned (.map m6)/\
 ∃S2:World->Prop,S2 aK/\(∀u,S2 u->S1 u)/\
 ∃gU:Int,∃gV:Int,∃gW:Int,∃gX:Value,∃gY:Value,∃mJ:Bool,(∀w',S2 w'->(Instr.lookup 176 (.map m6) (.int .i64 n8) true).run prog w'=.ok (.tuple #[.agg #[.int .u8 gU,.int .i64 gV,.int .i64 gW,gX,gY],.bool mJ]) w')/\
 alE (.cells #[.int .u8 0,.int .i64 0,.int .i64 0,.nilFunc,.nilFunc] 174) aK λr3 bH=>
 ∃S3:World->Prop,S3 bH/\(∀u,S3 u->S2 u)/\
 stA prog 174 (⟨r3,0,none⟩:Addr) #[.int .u8 gU,.int .i64 gV,.int .i64 gW,gX,gY] bH λbC=>
 yJa R (some (⟨r1,0,none⟩:Addr)) (some (⟨r3,0,none⟩:Addr)) mJ ds bC)/\(
 alE (.cells #[.int .u8 0,.int .i64 0,.int .i64 0,.nilFunc,.nilFunc] 174) aX λr3 bT=>
 ∃S4:World->Prop,S4 bT/\(∀u,S4 u->S1 u)/\
 Calls prog 145 #[] bT λe bD=>
 ∃m6:Option Nat,e=.returned (.map m6)/\
 ∃S5:World->Prop,S5 bD/\(∀u,S5 u->S4 u)/\
 ∃gU:Int,∃gV:Int,∃gW:Int,∃gX:Value,∃gY:Value,∃mJ:Bool,(∀w',S5 w'->(Instr.lookup 176 (.map m6) (.int .i64 n8) true).run prog w'=.ok (.tuple #[.agg #[.int .u8 gU,.int .i64 gV,.int .i64 gW,gX,gY],.bool mJ]) w')/\
 stA prog 174 (⟨r3,0,none⟩:Addr) #[.int .u8 gU,.int .i64 gV,.int .i64 gW,gX,gY] bD λcH=>
 yJa R (some (⟨r1,0,none⟩:Addr)) (some (⟨r3,0,none⟩:Addr)) mJ ds cH)
theorem F115_p:Pl prog f115 [aS 0 [.str,.int .i64,.int .i64,.bool]] xJr:=λR=>
 pc 2 (rest [pS 1,pS 3,bS 4] (yJa R) lf)
theorem yK9 (aP:ByteArray) (aH aQ:Int) (aR:Bool) (w:World) (R:Rt) (h:xJr R aP aH aQ aR [] w):Calls prog 115 #[.agg #[.string aP,.int .i64 aH,.int .i64 aQ,.bool aR]] w R:=
 plC F115_p func115 h
def xQe(R:Rt)(s0:ByteArray)(ds:Ds)(w:World):Prop:=
 Br (!(s0.toList == (⟨#[]⟩:ByteArray).toList)) (
 Br (decide ((s0.size:Int)<=10)) (
 Calls prog 190 #[.string s0,.string (⟨#[65,66,67,68,69,70,71,72,73,74,75,76,77,78,79,80,81,82,83,84,85,86,87,88,89,90,48,49,50,51,52,53,54,55,56,57,95]⟩:ByteArray)] w λe w1=>
 ∃nM:ByteArray,e=.returned (.string nM)/\
 Br (nM.toList == (⟨#[]⟩:ByteArray).toList) (
 ∃rk:UInt8,0<=(0:Int)/\s0[(0:Int).toNat]?=some rk/\
 Br (decide ((rk.toNat:Int) >= 65)) (
 ∃mh:UInt8,0<=(0:Int)/\s0[(0:Int).toNat]?=some mh/\
 zQc prog ds w1 λw2=>
 R (.returned (.bool (decide ((mh.toNat:Int)<=90)))) w2) (
 zQc prog ds w1 λw3=>
 R (.returned (.bool false)) w3)) (
 zQc prog ds w1 λw4=>
 R (.returned (.bool false)) w4)) (
 zQc prog ds w λw5=>
 R (.returned (.bool false)) w5)) (
 zQc prog ds w λw6=>
 R (.returned (.bool false)) w6)
theorem F146_p:Pl prog f146 [sS 0] xQe:=λR=>
 lf
theorem yWd (s0:ByteArray) (w:World) (R:Rt) (h:xQe R s0 [] w):Calls prog 146 #[.string s0] w R:=
 plC F146_p func146 h
def xJH(R:Rt)(ds:Ds)(w:World):Prop:=
 alE (.map #[] 0) w λr1 w1=>
 doE prog (Instr.mapUpdate 176 (.map (some r1)) (.int .i64 1) (.agg #[.int .u8 76,.int .i64 1,.int .i64 1,.func (.func 180) #[] #[],.func (.func 181) #[] #[]])) w1 λw2=>
 doE prog (Instr.mapUpdate 176 (.map (some r1)) (.int .i64 2) (.agg #[.int .u8 78,.int .i64 1,.int .i64 15,.func (.func 182) #[] #[],.func (.func 183) #[] #[]])) w2 λw3=>
 doE prog (Instr.mapUpdate 176 (.map (some r1)) (.int .i64 3) (.agg #[.int .u8 68,.int .i64 8,.int .i64 8,.func (.func 184) #[] #[],.func (.func 185) #[] #[]])) w3 λw4=>
 doE prog (Instr.mapUpdate 176 (.map (some r1)) (.int .i64 4) (.agg #[.int .u8 67,.int .i64 1,.int .i64 254,.func (.func 186) #[] #[],.func (.func 187) #[] #[]])) w4 λw5=>
 doE prog (Instr.mapUpdate 176 (.map (some r1)) (.int .i64 5) (.agg #[.int .u8 77,.int .i64 8,.int .i64 8,.func (.func 188) #[] #[],.func (.func 189) #[] #[]])) w5 λw6=>
 zQc prog ds w6 λw7=>
 R (.returned (.map (some r1))) w7
theorem F145_p:Pl prog f145 [] xJH:=λR=>
 lf
theorem yWk  (w:World) (R:Rt) (h:xJH R [] w):Calls prog 145 #[] w R:=
 plC F145_p func145 h
def xZG(R:Rt)(n0:Int)(ds:Ds)(w:World):Prop:=
 Br (decide (n0 >= 0)) (
 zQc prog ds w λw1=>
 R (.returned (.bool (decide (n0<=2)))) w1) (
 zQc prog ds w λw2=>
 R (.returned (.bool false)) w2)
theorem F116_p:Pl prog f116 [iS 0] xZG:=λR=>
 lf
theorem yKH (n0:Int) (w:World) (R:Rt) (h:xZG R n0 [] w):Calls prog 116 #[.int .i64 n0] w R:=
 plC F116_p func116 h
def F91_1(R:Rt)(aP:ByteArray)(aH aQ:Int)(aR:Bool)(ds:Ds)(w:World):Prop:=
 alE (.cells #[.string aP,.int .i64 aH,.int .i64 aQ,.bool aR] 129) w λr1 w1=>
 ∃s4,w1.cell? (⟨r1,0,none⟩:Addr)=some (.string s4)/\
 Calls prog 130 #[.string s4] w1 λe w2=>
 ∃b5:Bool,e=.returned (.bool b5)/\
 Br (!b5) (
 zQc prog ds w2 λw3=>
 R (.returned (.bool false)) w3) (
 ∃n8,w2.cell? ((⟨r1,0,none⟩:Addr).add 1)=some (.int .i64 n8)/\
 Br (n8 == 1) (
 ∃cv,w2.cell? ((⟨r1,0,none⟩:Addr).add 2)=some (.int .i64 cv)/\
 zQc prog ds w2 λw4=>
 R (.returned (.bool (cv == 1))) w4) (
 Br (n8 == 2) (
 ∃kN,w2.cell? ((⟨r1,0,none⟩:Addr).add 2)=some (.int .i64 kN)/\
 Br (decide (kN >= 1)) (
 ∃jI,w2.cell? ((⟨r1,0,none⟩:Addr).add 2)=some (.int .i64 jI)/\
 zQc prog ds w2 λw5=>
 R (.returned (.bool (decide (jI<=15)))) w5) (
 zQc prog ds w2 λw6=>
 R (.returned (.bool false)) w6)) (
 Br (n8 == 3) (
 Br (n8 == 3) (
 ∃my,w2.cell? ((⟨r1,0,none⟩:Addr).add 2)=some (.int .i64 my)/\
 zQc prog ds w2 λw7=>
 R (.returned (.bool (my == 8))) w7) (
 Br (n8 == 4) (
 ∃iw,w2.cell? ((⟨r1,0,none⟩:Addr).add 2)=some (.int .i64 iw)/\
 Br (decide (iw >= 1)) (
 ∃lz,w2.cell? ((⟨r1,0,none⟩:Addr).add 2)=some (.int .i64 lz)/\
 zQc prog ds w2 λw8=>
 R (.returned (.bool (decide (lz<=254)))) w8) (
 zQc prog ds w2 λw9=>
 R (.returned (.bool false)) w9)) (
 zQc prog ds w2 λaU=>
 R (.returned (.bool false)) aU))) (
 Br (n8 == 5) (
 ∃my,w2.cell? ((⟨r1,0,none⟩:Addr).add 2)=some (.int .i64 my)/\
 zQc prog ds w2 λaT=>
 R (.returned (.bool (my == 8))) aT) (
 Br (n8 == 4) (
 ∃iw,w2.cell? ((⟨r1,0,none⟩:Addr).add 2)=some (.int .i64 iw)/\
 Br (decide (iw >= 1)) (
 ∃lz,w2.cell? ((⟨r1,0,none⟩:Addr).add 2)=some (.int .i64 lz)/\
 zQc prog ds w2 λaX=>
 R (.returned (.bool (decide (lz<=254)))) aX) (
 zQc prog ds w2 λaK=>
 R (.returned (.bool false)) aK)) (
 zQc prog ds w2 λbH=>
 R (.returned (.bool false)) bH))))))
theorem F91_p:Pl prog f91 [aS 0 [.str,.int .i64,.int .i64,.bool]] F91_1:=λR=>
 lf
theorem yYQ (aP:ByteArray) (aH aQ:Int) (aR:Bool) (w:World) (R:Rt) (h:F91_1 R aP aH aQ aR [] w):Calls prog 91 #[.agg #[.string aP,.int .i64 aH,.int .i64 aQ,.bool aR]] w R:=
 plC F91_p func91 h
def F52_1(R:Rt)(n0:Int)(ds:Ds)(w:World):Prop:=
 Br (decide (n0 >= 0)) (
 zQc prog ds w λw1=>
 R (.returned (.bool (decide (n0<=2)))) w1) (
 zQc prog ds w λw2=>
 R (.returned (.bool false)) w2)
theorem F52_p:Pl prog f52 [iS 0] F52_1:=λR=>
 lf
theorem yYo (n0:Int) (w:World) (R:Rt) (h:F52_1 R n0 [] w):Calls prog 52 #[.int .i64 n0] w R:=
 plC F52_p func52 h
def xXD(R:Rt)(ds:Ds)(w:World):Prop:=
 zQc prog ds w λw1=>
 R (.returned (.bool true)) w1
def zWm (R:Rt) (J1:(Int)->World->Prop) (s0:ByteArray) (n3:Int) (ds:Ds) (w:World):Prop:=
 J1 (IntKind.i64.wrap (n3+1)) w
def xKH (R:Rt) (J1:(Int)->World->Prop) (s0:ByteArray) (n3:Int) (ds:Ds) (w:World):Prop:=
 ∃mh:UInt8,0<=n3/\s0[n3.toNat]?=some mh/\
 Br (decide ((mh.toNat:Int) >= 65)) (
 Br (!(decide ((mh.toNat:Int)<=90))) (
 Br (n3 == 0) (
 zQc prog ds w λw2=>
 R (.returned (.bool false)) w2) (
 Br ((mh.toNat:Int) != 95) (
 Calls prog 166 #[.int .u8 (mh.toNat:Int)] w λe w3=>
 ∃oN:Bool,e=.returned (.bool oN)/\
 Br (!oN) (
 zQc prog ds w3 λw4=>
 R (.returned (.bool false)) w4) (
 zWm R J1 s0 n3 ds w3)) (
 zWm R J1 s0 n3 ds w))) (
 zWm R J1 s0 n3 ds w)) (
 Br (n3 == 0) (
 zQc prog ds w λw5=>
 R (.returned (.bool false)) w5) (
 Br ((mh.toNat:Int) != 95) (
 Calls prog 166 #[.int .u8 (mh.toNat:Int)] w λe w6=>
 ∃oN:Bool,e=.returned (.bool oN)/\
 Br (!oN) (
 zQc prog ds w6 λw7=>
 R (.returned (.bool false)) w7) (
 zWm R J1 s0 n3 ds w6)) (
 zWm R J1 s0 n3 ds w)))
def xKv (R:Rt) (J1:(Int)->World->Prop) (s0:ByteArray) (n3:Int) (ds:Ds) (w:World):Prop:=
 Br (decide (n3<(s0.size:Int))) (
 xKH R J1 s0 n3 ds w) (
 xXD R ds w)
def xZr(R:Rt)(s0:ByteArray)(n3:Int)(ds:Ds)(w:World):Prop:=
 zQD (λ(J1:(Int)->World->Prop) (s:Int) (w:World)=>xKv R J1 s0 s ds w) n3 w
def xJs(R:Rt)(s0:ByteArray)(ds:Ds)(w:World):Prop:=
 Br (decide ((s0.size:Int)<1)) (
 zQc prog ds w λw8=>
 R (.returned (.bool false)) w8) (
 Br (decide ((s0.size:Int) > 10)) (
 zQc prog ds w λw9=>
 R (.returned (.bool false)) w9) (
 xZr R s0 0 ds w))
theorem F130_p:Pl prog f130 [sS 0] xJs:=λR=>
 pc 4 (rest [sS 0,iS 3] (xZr R) (bk 0 (rest [] (xXD R) lf) (lp [iS 3] [sS 0,iS 3] (xKv R) zXY λJ1=>pc 2 (rest [sS 0,iS 3] (xKH R J1) (pc 1 (rest [sS 0,iS 3] (zWm R J1) lf))))))
theorem yKW (s0:ByteArray) (w:World) (R:Rt) (h:xJs R s0 [] w):Calls prog 130 #[.string s0] w R:=
 plC F130_p func130 h
def xXO(R:Rt)(n0:Int)(ds:Ds)(w:World):Prop:=
 Br (decide (n0 >= 48)) (
 zQc prog ds w λw1=>
 R (.returned (.bool (decide (n0<=57)))) w1) (
 zQc prog ds w λw2=>
 R (.returned (.bool false)) w2)
theorem F166_p:Pl prog f166 [kS .u8 0] xXO:=λR=>
 lf
theorem yWw (n0:Int) (w:World) (R:Rt) (h:xXO R n0 [] w):Calls prog 166 #[.int .u8 n0] w R:=
 plC F166_p func166 h
def xJ6(R:Rt)(aP:ByteArray)(aH aQ:Int)(aR:Bool)(ds:Ds)(w:World):Prop:=
 alE (.cells #[.string aP,.int .i64 aH,.int .i64 aQ,.bool aR] 129) w λr1 w1=>
 alE (.cells #[.int .i64 0,.int .i64 0,.string (⟨#[]⟩:ByteArray)] 73) w1 λr2 w2=>
 ∃n4,w2.cell? ((⟨r1,0,none⟩:Addr).add 1)=some (.int .i64 n4)/\
 Br (n4 == 5) (
 stA prog 73 (⟨r2,0,none⟩:Addr) #[.int .i64 2,.int .i64 0,.string (⟨#[]⟩:ByteArray)] w2 λw3=>
 zQc prog ds w3 λw4=>
 ∃ag,w4.cell? ((⟨r2,0,none⟩:Addr).add 0)=some (.int .i64 ag)/\
 ∃aB,w4.cell? ((⟨r2,0,none⟩:Addr).add 1)=some (.int .i64 aB)/\
 ∃aC,w4.cell? ((⟨r2,0,none⟩:Addr).add 2)=some (.string aC)/\
 R (.returned (.agg #[.int .i64 ag,.int .i64 aB,.string aC])) w4) (
 ∃n8,w2.cell? ((⟨r1,0,none⟩:Addr).add 1)=some (.int .i64 n8)/\
 stA prog 73 (⟨r2,0,none⟩:Addr) #[.int .i64 n8,.int .i64 0,.string (⟨#[]⟩:ByteArray)] w2 λw5=>
 zQc prog ds w5 λw6=>
 ∃ag,w6.cell? ((⟨r2,0,none⟩:Addr).add 0)=some (.int .i64 ag)/\
 ∃aB,w6.cell? ((⟨r2,0,none⟩:Addr).add 1)=some (.int .i64 aB)/\
 ∃aC,w6.cell? ((⟨r2,0,none⟩:Addr).add 2)=some (.string aC)/\
 R (.returned (.agg #[.int .i64 ag,.int .i64 aB,.string aC])) w6)
theorem F118_p:Pl prog f118 [aS 0 [.str,.int .i64,.int .i64,.bool]] xJ6:=λR=>
 lf
theorem yKb (aP:ByteArray) (aH aQ:Int) (aR:Bool) (w:World) (R:Rt) (h:xJ6 R aP aH aQ aR [] w):Calls prog 118 #[.agg #[.string aP,.int .i64 aH,.int .i64 aQ,.bool aR]] w R:=
 plC F118_p func118 h
end Go.Proofs.YtaeecpjhfmcliaaGreatDoor
/- Shallow texts of functions, printed by program, each checked by the kernel against the loaded code. No condition. -/
namespace Go.Proofs.YtaeecpjhfmcliaaGreatDoor
open Go.Sh Tryz
def yVv(R:Rt)(n1:Int)(s6:ByteArray)(ds:Ds)(w:World):Prop:=
 Calls prog 155 #[.string (⟨#[32]⟩:ByteArray),.int .i64 (IntKind.i64.wrap (n1 - (s6.size:Int)))] w λe w1=>
 ∃wH:ByteArray,e=.returned (.string wH)/\
 ((wH.size+s6.size:Nat):Int)<=9223372036854775807/\
 zQc prog ds w1 λw2=>
 R (.returned (.tuple #[.string (wH ++ s6),.int .i64 0])) w2
def xJz(R:Rt)(n0 n1:Int)(ds:Ds)(w:World):Prop:=
 Calls prog 153 #[.int .i64 n0] w λe w3=>
 ∃b8:Bool,e=.returned (.bool b8)/\
 Br (!b8) (
 zQc prog ds w3 λw4=>
 R (.returned (.tuple #[.string (⟨#[]⟩:ByteArray),.int .i64 1])) w4) (
 Br (decide (n1<1)) (
 zQc prog ds w3 λw5=>
 R (.returned (.tuple #[.string (⟨#[]⟩:ByteArray),.int .i64 1])) w5) (
 Br (decide (n1 > 254)) (
 zQc prog ds w3 λw6=>
 R (.returned (.tuple #[.string (⟨#[]⟩:ByteArray),.int .i64 1])) w6) (
 Calls prog 154 #[.int .i64 n0] w3 λe w7=>
 ∃lA:ByteArray,e=.returned (.string lA)/\
 Br (decide ((lA.size:Int) > n1)) (
 Calls prog 155 #[.string (⟨#[42]⟩:ByteArray),.int .i64 n1] w7 λe w8=>
 ∃s25:ByteArray,e=.returned (.string s25)/\
 zQc prog ds w8 λw9=>
 R (.returned (.tuple #[.string s25,.int .i64 0])) w9) (
 yVv R n1 lA ds w7))))
theorem F121_p:Pl prog f121 [iS 0,iS 1] xJz:=λR=>
 pc 6 (rest [iS 1,sS 6] (yVv R) lf)
theorem yJZ (n0 n1:Int) (w:World) (R:Rt) (h:xJz R n0 n1 [] w):Calls prog 121 #[.int .i64 n0,.int .i64 n1] w R:=
 plC F121_p func121 h
def xXT(R:Rt)(n0:Int)(ds:Ds)(w:World):Prop:=
 Br (decide (n0<0)) (
 Calls prog 154 #[.int .i64 (IntKind.i64.wrap (0 - n0))] w λe w1=>
 ∃s8:ByteArray,e=.returned (.string s8)/\
 (((⟨#[45]⟩:ByteArray).size+s8.size:Nat):Int)<=9223372036854775807/\
 zQc prog ds w1 λw2=>
 R (.returned (.string ((⟨#[45]⟩:ByteArray) ++ s8))) w2) (
 Br (decide (n0<10)) (
 0<=(IntKind.i64.wrap (n0+1))/\(IntKind.i64.wrap (n0+1)).toNat<=(⟨#[48,49,50,51,52,53,54,55,56,57]⟩:ByteArray).size/\0<=n0/\n0.toNat<=(IntKind.i64.wrap (n0+1)).toNat/\
 zQc prog ds w λw3=>
 R (.returned (.string ((⟨#[48,49,50,51,52,53,54,55,56,57]⟩:ByteArray).extract n0.toNat ((IntKind.i64.wrap (n0+1)).toNat)))) w3) (
 dwE w λw4=>
 IntKind.i64=IntKind.i64/\(10:Int) ≠ 0/\
 IntKind.i64=IntKind.i64/\(10:Int) ≠ 0/\
 IntKind.i64=IntKind.i64/\(10:Int) ≠ 0/\
 0<=(IntKind.i64.wrap ((n0.tmod 10)+1))/\(IntKind.i64.wrap ((n0.tmod 10)+1)).toNat<=(⟨#[48,49,50,51,52,53,54,55,56,57]⟩:ByteArray).size/\0<=(n0.tmod 10)/\(n0.tmod 10).toNat<=(IntKind.i64.wrap ((n0.tmod 10)+1)).toNat/\
 Calls prog 154 #[.int .i64 (IntKind.i64.wrap (n0.tdiv 10))] w4 λe w5=>
 ∃lA:ByteArray,e=.returned (.string lA)/\
 ((lA.size+((⟨#[48,49,50,51,52,53,54,55,56,57]⟩:ByteArray).extract ((n0.tmod 10).toNat) ((IntKind.i64.wrap ((n0.tmod 10)+1)).toNat)).size:Nat):Int)<=9223372036854775807/\
 zQc prog ds w5 λw6=>
 R (.returned (.string (lA ++ ((⟨#[48,49,50,51,52,53,54,55,56,57]⟩:ByteArray).extract ((n0.tmod 10).toNat) ((IntKind.i64.wrap ((n0.tmod 10)+1)).toNat))))) w6))
theorem F154_p:Pl prog f154 [iS 0] xXT:=λR=>
 lf
theorem zYR (n0:Int) (w:World) (R:Rt) (h:xXT R n0 [] w):Calls prog 154 #[.int .i64 n0] w R:=
 plC F154_p func154 h
def xX8(R:Rt)(n0:Int)(ds:Ds)(w:World):Prop:=
 Br (decide (n0<0)) (
 Br (n0 == (-9223372036854775808)) (
 zQc prog ds w λw1=>
 R (.returned (.string (⟨#[45,57,50,50,51,51,55,50,48,51,54,56,53,52,55,55,53,56,48,56]⟩:ByteArray))) w1) (
 Calls prog 134 #[.int .i64 (IntKind.i64.wrap (0 - n0))] w λe w2=>
 ∃s9:ByteArray,e=.returned (.string s9)/\
 (((⟨#[45]⟩:ByteArray).size+s9.size:Nat):Int)<=9223372036854775807/\
 zQc prog ds w2 λw3=>
 R (.returned (.string ((⟨#[45]⟩:ByteArray) ++ s9))) w3)) (
 Br (decide (n0<10)) (
 0<=(IntKind.i64.wrap (n0+1))/\(IntKind.i64.wrap (n0+1)).toNat<=(⟨#[48,49,50,51,52,53,54,55,56,57]⟩:ByteArray).size/\0<=n0/\n0.toNat<=(IntKind.i64.wrap (n0+1)).toNat/\
 zQc prog ds w λw4=>
 R (.returned (.string ((⟨#[48,49,50,51,52,53,54,55,56,57]⟩:ByteArray).extract n0.toNat ((IntKind.i64.wrap (n0+1)).toNat)))) w4) (
 IntKind.i64=IntKind.i64/\(10:Int) ≠ 0/\
 Calls prog 134 #[.int .i64 (IntKind.i64.wrap (n0.tdiv 10))] w λe w5=>
 ∃lA:ByteArray,e=.returned (.string lA)/\
 IntKind.i64=IntKind.i64/\(10:Int) ≠ 0/\
 Calls prog 134 #[.int .i64 (n0.tmod 10)] w5 λe w6=>
 ∃sr:ByteArray,e=.returned (.string sr)/\
 ((lA.size+sr.size:Nat):Int)<=9223372036854775807/\
 zQc prog ds w6 λw7=>
 R (.returned (.string (lA ++ sr))) w7))
theorem F134_p:Pl prog f134 [iS 0] xX8:=λR=>
 lf
theorem zYU (n0:Int) (w:World) (R:Rt) (h:xX8 R n0 [] w):Calls prog 134 #[.int .i64 n0] w R:=
 plC F134_p func134 h
def yX0(R:Rt)(s0:ByteArray)(n3:Int)(ds:Ds)(w:World):Prop:=
 0<=n3/\n3.toNat<=s0.size/\0<=n3.toNat/\
 zQc prog ds w λw1=>
 R (.returned (.string (s0.extract 0 n3.toNat))) w1
def xX6 (R:Rt) (J1:(Int)->World->Prop) (s0:ByteArray) (n3:Int) (ds:Ds) (w:World):Prop:=
 Br (decide (n3 > 0)) (
 ∃cO:UInt8,0<=(IntKind.i64.wrap (n3 - 1))/\s0[(IntKind.i64.wrap (n3 - 1)).toNat]?=some cO/\
 Br ((cO.toNat:Int) == 32) (
 J1 (IntKind.i64.wrap (n3 - 1)) w) (
 yX0 R s0 n3 ds w)) (
 yX0 R s0 n3 ds w)
def xJK(R:Rt)(s0:ByteArray)(n3:Int)(ds:Ds)(w:World):Prop:=
 zQD (λ(J1:(Int)->World->Prop) (s:Int) (w:World)=>xX6 R J1 s0 s ds w) n3 w
def xZI(R:Rt)(s0:ByteArray)(ds:Ds)(w:World):Prop:=
 xJK R s0 (s0.size:Int) ds w
theorem F135_p:Pl prog f135 [sS 0] xZI:=λR=>
 pc 2 (rest [sS 0,iS 3] (xJK R) (bk 0 (rest [sS 0,iS 3] (yX0 R) lf) (lp [iS 3] [sS 0,iS 3] (xX6 R) zXY λJ1=>lf)))
theorem yWn (s0:ByteArray) (w:World) (R:Rt) (h:xZI R s0 [] w):Calls prog 135 #[.string s0] w R:=
 plC F135_p func135 h
end Go.Proofs.YtaeecpjhfmcliaaGreatDoor
/- Shallow texts of functions, printed by program, each checked by the kernel against the loaded code. No condition. -/
namespace Go.Proofs.YtaeecpjhfmcliaaGreatDoor
open Go.Sh Tryz
def xZS(R:Rt)(s0:ByteArray)(n1:Int)(ds:Ds)(w:World):Prop:=
 Calls prog 152 #[.string s0,.int .i64 n1] w λe w1=>
 ∃oO:Bool,∃gm:Int,e=.returned (.tuple #[.bool oO,.int .i64 gm])/\
 Br oO (
 zQc prog ds w1 λw2=>
 R (.returned (.bool (gm == 0))) w2) (
 zQc prog ds w1 λw3=>
 R (.returned (.bool false)) w3)
theorem F120_p:Pl prog f120 [sS 0,iS 1] xZS:=λR=>
 lf
theorem yW2 (s0:ByteArray) (n1:Int) (w:World) (R:Rt) (h:xZS R s0 n1 [] w):Calls prog 120 #[.string s0,.int .i64 n1] w R:=
 plC F120_p func120 h
def xZ6(R:Rt)(ds:Ds)(w:World):Prop:=
 zQc prog ds w λw1=>
 R (.returned (.tuple #[.bool true,.int .i64 0])) w1
def xKz (R:Rt) (J1:(Int)->World->Prop) (p7:Option Addr) (cQ:SV) (cq jV:Int) (ds:Ds) (w:World):Prop:=
 Br (decide (jV<cq)) (
 ∃a2,cQ.a=some a2/\0<=jV/\jV<(cQ.len:Int)/\
 ∃bE,w.cell? (a2.add (jV.toNat * 1))=some (.int .u8 bE)/\
 zQg p7 λa3=>
 0<=bE/\bE<(256:Int)/\
 ∃kX,w.cell? (a3.add (bE.toNat * 1))=some (.int .i32 kX)/\
 Br (decide (kX<0)) (
 zQc prog ds w λw4=>
 R (.returned (.tuple #[.bool false,.int .i64 0])) w4) (
 J1 (IntKind.i64.wrap (jV+1)) w)) (
 xZ6 R ds w)
def xK4(R:Rt)(p7:Option Addr)(cQ:SV)(cq jV:Int)(ds:Ds)(w:World):Prop:=
 zQD (λ(J1:(Int)->World->Prop) (s:Int) (w:World)=>xKz R J1 p7 cQ cq s ds w) jV w
def xZq(R:Rt)(s0:ByteArray)(n1:Int)(ds:Ds)(w:World):Prop:=
 alE (.cells #[.string s0] 9) w λjW w5=>
 Calls prog 195 #[.int .i64 n1,.slice (some ⟨jW,0,none⟩) 1 1] w5 λe w6=>
 ∃cX:Int,e=.returned (.int .i64 cX)/\
 Br (cX != 0) (
 zQc prog ds w6 λw7=>
 R (.returned (.tuple #[.bool false,.int .i64 cX])) w7) (
 Calls prog 196 #[] w6 λe w8=>
 ∃wI:Array Value,wI.size=768/\e=.returned (.agg wI)/\
 ∃wJ:Array Value,wJ.size=256/\∃w9,(Instr.index 213 (.agg wI) (.int .i64 n1)).run prog w8=.ok (.agg wJ) w9/\
 alE (.cells (zc prog 212) 212) w9 λr7 aU=>
 stA prog 212 (⟨r7,0,none⟩:Addr) wJ aU λaT=>
 ∃cQ:SV,∃aX,(convert 9 22 (.string s0)).run prog aT=.ok (cQ.v) aX/\
 xK4 R (some (⟨r7,0,none⟩:Addr)) cQ (cQ.len:Int) 0 ds aX)
theorem F152_p:Pl prog f152 [sS 0,iS 1] xZq:=λR=>
 pc 6 (rest [pS 7,lS 21,iS 22,iS 23] (xK4 R) (bk 0 (rest [] (xZ6 R) lf) (lp [iS 23] [pS 7,lS 21,iS 22,iS 23] (xKz R) zXY λJ1=>lf)))
theorem yWc (s0:ByteArray) (n1:Int) (w:World) (R:Rt) (h:xZq R s0 n1 [] w):Calls prog 152 #[.string s0,.int .i64 n1] w R:=
 plC F152_p func152 h
def xXK(R:Rt)(n0:Int)(ds:Ds)(w:World):Prop:=
 Br (decide (n0<0)) (
 zQc prog ds w λw1=>
 R (.returned (.int .i64 1)) w1) (
 Br (decide (n0 > 2)) (
 zQc prog ds w λw2=>
 R (.returned (.int .i64 1)) w2) (
 zQc prog ds w λw3=>
 R (.returned (.int .i64 0)) w3))
def xXN (R:Rt) (J1:(Int)->World->Prop) (n0:Int) (l7:SV) (n8 n9:Int) (ds:Ds) (w:World):Prop:=
 Br (decide (n9<n8)) (
 ∃a4,l7.a=some a4/\0<=n9/\n9<(l7.len:Int)/\
 ∃nM,w.cell? (a4.add (n9.toNat * 1))=some (.string nM)/\
 Br (decide ((nM.size:Int) > 2048)) (
 zQc prog ds w λw5=>
 R (.returned (.int .i64 3)) w5) (
 J1 (IntKind.i64.wrap (n9+1)) w)) (
 xXK R n0 ds w)
def xZ0(R:Rt)(n0:Int)(l7:SV)(n8 n9:Int)(ds:Ds)(w:World):Prop:=
 zQD (λ(J1:(Int)->World->Prop) (s:Int) (w:World)=>xXN R J1 n0 l7 n8 s ds w) n9 w
def xKM(R:Rt)(n0:Int)(l1:SV)(ds:Ds)(w:World):Prop:=
 xZ0 R n0 l1 (l1.len:Int) 0 ds w
theorem F195_p:Pl prog f195 [iS 0,lS 1] xKM:=λR=>
 pc 2 (rest [iS 0,lS 7,iS 8,iS 9] (xZ0 R) (bk 0 (rest [iS 0] (xXK R) lf) (lp [iS 9] [iS 0,lS 7,iS 8,iS 9] (xXN R) zXY λJ1=>lf)))
theorem yKS (n0:Int) (l1:SV) (w:World) (R:Rt) (h:xKM R n0 l1 [] w):Calls prog 195 #[.int .i64 n0,l1.v] w R:=
 plC F195_p func195 h
def yYi(R:Rt)(p0 p1:Option Addr)(ds:Ds)(w:World):Prop:=
 zQg p1 λa1=>
 ∃wK:Array Value,wK.size=768/\(∀i,i<768->w.cell? (a1.add i)=wK[i]?)/\
 zQg p0 λa2=>
 stA prog 213 a2 wK w λw3=>
 zQc prog ds w3 λw4=>
 zQg p0 λa5=>
 ∃wL:Array Value,wL.size=768/\(∀i,i<768->w4.cell? (a5.add i)=wL[i]?)/\
 R (.returned (.agg wL)) w4
def xZo (R:Rt) (J1:(Int)->World->Prop) (p0 p1:Option Addr) (n5:Int) (ds:Ds) (w:World):Prop:=
 Br (decide (n5<=239)) (
 zQg p1 λa6=>
 0<=(2:Int)/\(2:Int)<(3:Int)/\
 0<=n5/\n5<(256:Int)/\
 st1 ((a6.add ((2:Int).toNat * 256)).add (n5.toNat * 1)) (.int .i32 (IntKind.i32.wrap ((1088:Int)+(IntKind.i32.wrap (IntKind.i64.wrap (n5 - 224)))))) w λw7=>
 J1 (IntKind.i64.wrap (n5+1)) w7) (
 yYi R p0 p1 ds w)
def xJF(R:Rt)(p0 p1:Option Addr)(n5:Int)(ds:Ds)(w:World):Prop:=
 zQD (λ(J1:(Int)->World->Prop) (s:Int) (w:World)=>xZo R J1 p0 p1 s ds w) n5 w
def xJa(R:Rt)(p0 p1:Option Addr)(ds:Ds)(w:World):Prop:=
 xJF R p0 p1 224 ds w
def xKC (R:Rt) (J1:(Int)->World->Prop) (p0 p1:Option Addr) (n4:Int) (ds:Ds) (w:World):Prop:=
 Br (decide (n4<=175)) (
 zQg p1 λa8=>
 0<=(2:Int)/\(2:Int)<(3:Int)/\
 0<=n4/\n4<(256:Int)/\
 st1 ((a8.add ((2:Int).toNat * 256)).add (n4.toNat * 1)) (.int .i32 (IntKind.i32.wrap ((1040:Int)+(IntKind.i32.wrap (IntKind.i64.wrap (n4 - 128)))))) w λw9=>
 J1 (IntKind.i64.wrap (n4+1)) w9) (
 xJa R p0 p1 ds w)
def xZA(R:Rt)(p0 p1:Option Addr)(n4:Int)(ds:Ds)(w:World):Prop:=
 zQD (λ(J1:(Int)->World->Prop) (s:Int) (w:World)=>xKC R J1 p0 p1 s ds w) n4 w
def xJP(R:Rt)(p0 p1:Option Addr)(ds:Ds)(w:World):Prop:=
 xZA R p0 p1 128 ds w
def yYD (R:Rt) (J1:(Int)->World->Prop) (p0 p1:Option Addr) (n6:Int) (ds:Ds) (w:World):Prop:=
 Br (decide (n6<256)) (
 zQg p1 λeJ=>
 0<=(1:Int)/\(1:Int)<(3:Int)/\
 0<=n6/\n6<(256:Int)/\
 st1 ((eJ.add ((1:Int).toNat * 256)).add (n6.toNat * 1)) (.int .i32 (IntKind.i32.wrap n6)) w λaT=>
 Br (decide (n6 >= 128)) (
 zQg p1 λiR=>
 0<=(0:Int)/\(0:Int)<(3:Int)/\
 0<=n6/\n6<(256:Int)/\
 st1 ((iR.add ((0:Int).toNat * 256)).add (n6.toNat * 1)) (.int .i32 (-1)) aT λaK=>
 zQg p1 λft=>
 0<=(2:Int)/\(2:Int)<(3:Int)/\
 0<=n6/\n6<(256:Int)/\
 st1 ((ft.add ((2:Int).toNat * 256)).add (n6.toNat * 1)) (.int .i32 (-1)) aK λbC=>
 J1 (IntKind.i64.wrap (n6+1)) bC) (
 zQg p1 λjX=>
 0<=(0:Int)/\(0:Int)<(3:Int)/\
 0<=n6/\n6<(256:Int)/\
 st1 ((jX.add ((0:Int).toNat * 256)).add (n6.toNat * 1)) (.int .i32 (IntKind.i32.wrap n6)) aT λbD=>
 zQg p1 λgn=>
 0<=(2:Int)/\(2:Int)<(3:Int)/\
 0<=n6/\n6<(256:Int)/\
 st1 ((gn.add ((2:Int).toNat * 256)).add (n6.toNat * 1)) (.int .i32 (IntKind.i32.wrap n6)) bD λcR=>
 J1 (IntKind.i64.wrap (n6+1)) cR)) (
 xJP R p0 p1 ds w)
def yVx(R:Rt)(p0 p1:Option Addr)(n6:Int)(ds:Ds)(w:World):Prop:=
 zQD (λ(J1:(Int)->World->Prop) (s:Int) (w:World)=>yYD R J1 p0 p1 s ds w) n6 w
def yYr(R:Rt)(ds:Ds)(w:World):Prop:=
 alE (.cells (zc prog 213) 213) w λr0 cP=>
 alE (.cells (zc prog 213) 213) cP λr1 bX=>
 yVx R (some (⟨r0,0,none⟩:Addr)) (some (⟨r1,0,none⟩:Addr)) 0 ds bX
theorem F196_p:Pl prog f196 [] yYr:=λR=>
 pc 3 (rest [pS 0,pS 1,iS 6] (yVx R) (bk 0 (rest [pS 0,pS 1] (xJP R) (pc 1 (rest [pS 0,pS 1,iS 4] (xZA R) (bk 2 (rest [pS 0,pS 1] (xJa R) (pc 1 (rest [pS 0,pS 1,iS 5] (xJF R) (bk 4 (rest [pS 0,pS 1] (yYi R) lf) (lp [iS 5] [pS 0,pS 1,iS 5] (xZo R) zXY λJ1=>lf))))) (lp [iS 4] [pS 0,pS 1,iS 4] (xKC R) zXY λJ1=>lf))))) (lp [iS 6] [pS 0,pS 1,iS 6] (yYD R) zXY λJ1=>lf)))
theorem yKw  (w:World) (R:Rt) (h:yYr R [] w):Calls prog 196 #[] w R:=
 plC F196_p func196 h
def xJC(R:Rt)(ds:Ds)(w:World):Prop:=
 zQc prog ds w λw1=>
 R (.returned (.bool true)) w1
def xJm (R:Rt) (J1:(Int)->World->Prop) (s0:ByteArray) (n1 n5:Int) (ds:Ds) (w:World):Prop:=
 Br (decide (n5<(s0.size:Int))) (
 ∃jY:UInt8,0<=n5/\s0[n5.toNat]?=some jY/\
 Calls prog 168 #[.int .u8 (jY.toNat:Int),.int .i64 n1] w λe w2=>
 ∃gP:Bool,e=.returned (.bool gP)/\
 Br (!gP) (
 zQc prog ds w2 λw3=>
 R (.returned (.bool false)) w3) (
 J1 (IntKind.i64.wrap (n5+1)) w2)) (
 xJC R ds w)
def xXX(R:Rt)(s0:ByteArray)(n1 n5:Int)(ds:Ds)(w:World):Prop:=
 zQD (λ(J1:(Int)->World->Prop) (s:Int) (w:World)=>xJm R J1 s0 n1 s ds w) n5 w
def xZL(R:Rt)(s0:ByteArray)(n1:Int)(ds:Ds)(w:World):Prop:=
 xXX R s0 n1 0 ds w
theorem F136_p:Pl prog f136 [sS 0,iS 1] xZL:=λR=>
 pc 2 (rest [sS 0,iS 1,iS 5] (xXX R) (bk 0 (rest [] (xJC R) lf) (lp [iS 5] [sS 0,iS 1,iS 5] (xJm R) zXY λJ1=>lf)))
theorem yK2 (s0:ByteArray) (n1:Int) (w:World) (R:Rt) (h:xZL R s0 n1 [] w):Calls prog 136 #[.string s0,.int .i64 n1] w R:=
 plC F136_p func136 h
def xZg(R:Rt)(n0 n1:Int)(ds:Ds)(w:World):Prop:=
 Br (n1 == 0) (
 zQc prog ds w λw1=>
 R (.returned (.bool (decide (n0<128)))) w1) (
 Br (n1 == 1) (
 zQc prog ds w λw2=>
 R (.returned (.bool true)) w2) (
 Br (decide (n0<176)) (
 zQc prog ds w λw3=>
 R (.returned (.bool true)) w3) (
 Br (decide (n0 >= 224)) (
 zQc prog ds w λw4=>
 R (.returned (.bool (decide (n0<240)))) w4) (
 zQc prog ds w λw5=>
 R (.returned (.bool false)) w5))))
theorem F168_p:Pl prog f168 [kS .u8 0,iS 1] xZg:=λR=>
 lf
theorem yKp (n0 n1:Int) (w:World) (R:Rt) (h:xZg R n0 n1 [] w):Calls prog 168 #[.int .u8 n0,.int .i64 n1] w R:=
 plC F168_p func168 h
end Go.Proofs.YtaeecpjhfmcliaaGreatDoor
/- Shallow texts of functions, printed by program, each checked by the kernel against the loaded code. No condition. -/
namespace Go.Proofs.YtaeecpjhfmcliaaGreatDoor
open Go.Sh Tryz
def F83_1(R:Rt)(n1:Int)(p3 p5 p6:Option Addr)(mi:Int)(ds:Ds)(w:World):Prop:=
 Br (mi == 4) (
 zQg p5 λa1=>
 ∃s46,w.cell? (a1.add 2)=some (.string s46)/\
 zQg p5 λa2=>
 ∃s48,w.cell? (a2.add 2)=some (.string s48)/\
 zQg p3 λa3=>
 ∃n51,w.cell? (a3.add 2)=some (.int .i64 n51)/\
 ∃oP:Int,∃w4,(Builtin.min_ #[3,3] 3 #[.int .i64 (s48.size:Int),.int .i64 n51]).run prog w=.ok (.int .i64 oP) w4/\
 0<=oP/\oP.toNat<=s46.size/\0<=oP.toNat/\
 Calls prog 119 #[.string (s46.extract 0 oP.toNat),.string (⟨#[32]⟩:ByteArray)] w4 λe w5=>
 ∃lB:ByteArray,e=.returned (.string lB)/\
 zQg p5 λa6=>
 st1 (a6.add 2) (.string lB) w5 λw7=>
 zQg p5 λa8=>
 ∃tg,w7.cell? (a8.add 2)=some (.string tg)/\
 Calls prog 120 #[.string tg,.int .i64 n1] w7 λe w9=>
 ∃b59:Bool,e=.returned (.bool b59)/\
 Br (!b59) (
 zQg p6 λeJ=>
 stA prog 73 eJ #[.int .i64 0,.int .i64 0,.string (⟨#[]⟩:ByteArray)] w9 λaT=>
 zQc prog ds aT λaX=>
 zQg p6 λmx=>
 ∃ag,aX.cell? (mx.add 0)=some (.int .i64 ag)/\
 ∃aB,aX.cell? (mx.add 1)=some (.int .i64 aB)/\
 ∃aC,aX.cell? (mx.add 2)=some (.string aC)/\
 R (.returned (.tuple #[.agg #[.int .i64 ag,.int .i64 aB,.string aC],.int .i64 10])) aX) (
 zQg p5 λft=>
 ∃dR,w9.cell? (ft.add 0)=some (.int .i64 dR)/\
 ∃dS,w9.cell? (ft.add 1)=some (.int .i64 dS)/\
 ∃dT,w9.cell? (ft.add 2)=some (.string dT)/\
 zQg p6 λkO=>
 stA prog 73 kO #[.int .i64 dR,.int .i64 dS,.string dT] w9 λbT=>
 zQc prog ds bT λbD=>
 zQg p6 λgn=>
 ∃ag,bD.cell? (gn.add 0)=some (.int .i64 ag)/\
 ∃aB,bD.cell? (gn.add 1)=some (.int .i64 aB)/\
 ∃aC,bD.cell? (gn.add 2)=some (.string aC)/\
 R (.returned (.tuple #[.agg #[.int .i64 ag,.int .i64 aB,.string aC],.int .i64 0])) bD)) (
 Br (mi == 2) (
 zQg p5 λkP=>
 ∃th,w.cell? (kP.add 1)=some (.int .i64 th)/\
 zQg p3 λa20=>
 ∃n68,w.cell? (a20.add 2)=some (.int .i64 n68)/\
 Calls prog 121 #[.int .i64 th,.int .i64 n68] w λe bX=>
 ∃oQ:ByteArray,∃oR:Int,e=.returned (.tuple #[.string oQ,.int .i64 oR])/\
 Br (oR != 0) (
 zQg p6 λnN=>
 stA prog 73 nN #[.int .i64 0,.int .i64 0,.string (⟨#[]⟩:ByteArray)] bX λdM=>
 zQc prog ds dM λdP=>
 zQg p6 λj3=>
 ∃ag,dP.cell? (j3.add 0)=some (.int .i64 ag)/\
 ∃aB,dP.cell? (j3.add 1)=some (.int .i64 aB)/\
 ∃aC,dP.cell? (j3.add 2)=some (.string aC)/\
 R (.returned (.tuple #[.agg #[.int .i64 ag,.int .i64 aB,.string aC],.int .i64 10])) dP) (
 Calls prog 122 #[.string oQ,.string (⟨#[42]⟩:ByteArray)] bX λe fy=>
 ∃b76:Bool,e=.returned (.bool b76)/\
 Br b76 (
 zQg p6 λwM=>
 stA prog 73 wM #[.int .i64 0,.int .i64 0,.string (⟨#[]⟩:ByteArray)] fy λdf=>
 zQc prog ds df λgI=>
 zQg p6 λkY=>
 ∃ag,gI.cell? (kY.add 0)=some (.int .i64 ag)/\
 ∃aB,gI.cell? (kY.add 1)=some (.int .i64 aB)/\
 ∃aC,gI.cell? (kY.add 2)=some (.string aC)/\
 R (.returned (.tuple #[.agg #[.int .i64 ag,.int .i64 aB,.string aC],.int .i64 10])) gI) (
 zQg p5 λrm=>
 ∃dR,fy.cell? (rm.add 0)=some (.int .i64 dR)/\
 ∃dS,fy.cell? (rm.add 1)=some (.int .i64 dS)/\
 ∃dT,fy.cell? (rm.add 2)=some (.string dT)/\
 zQg p6 λwN=>
 stA prog 73 wN #[.int .i64 dR,.int .i64 dS,.string dT] fy λga=>
 zQc prog ds ga λfA=>
 zQg p6 λnO=>
 ∃ag,fA.cell? (nO.add 0)=some (.int .i64 ag)/\
 ∃aB,fA.cell? (nO.add 1)=some (.int .i64 aB)/\
 ∃aC,fA.cell? (nO.add 2)=some (.string aC)/\
 R (.returned (.tuple #[.agg #[.int .i64 ag,.int .i64 aB,.string aC],.int .i64 0])) fA))) (
 Br (mi == 5) (
 zQg p5 λmz=>
 ∃n82,w.cell? (mz.add 1)=some (.int .i64 n82)/\
 Br (decide (n82<0)) (
 zQg p6 λa37=>
 stA prog 73 a37 #[.int .i64 0,.int .i64 0,.string (⟨#[]⟩:ByteArray)] w λkZ=>
 zQc prog ds kZ λiy=>
 zQg p6 λnP=>
 ∃ag,iy.cell? (nP.add 0)=some (.int .i64 ag)/\
 ∃aB,iy.cell? (nP.add 1)=some (.int .i64 aB)/\
 ∃aC,iy.cell? (nP.add 2)=some (.string aC)/\
 R (.returned (.tuple #[.agg #[.int .i64 ag,.int .i64 aB,.string aC],.int .i64 10])) iy) (
 zQg p5 λti=>
 ∃n86,w.cell? (ti.add 1)=some (.int .i64 n86)/\
 Br (decide (n86 > 99999999)) (
 zQg p6 λnQ=>
 stA prog 73 nQ #[.int .i64 0,.int .i64 0,.string (⟨#[]⟩:ByteArray)] w λmK=>
 zQc prog ds mK λjJ=>
 zQg p6 λro=>
 ∃ag,jJ.cell? (ro.add 0)=some (.int .i64 ag)/\
 ∃aB,jJ.cell? (ro.add 1)=some (.int .i64 aB)/\
 ∃aC,jJ.cell? (ro.add 2)=some (.string aC)/\
 R (.returned (.tuple #[.agg #[.int .i64 ag,.int .i64 aB,.string aC],.int .i64 10])) jJ) (
 zQg p5 λa46=>
 ∃dR,w.cell? (a46.add 0)=some (.int .i64 dR)/\
 ∃dS,w.cell? (a46.add 1)=some (.int .i64 dS)/\
 ∃dT,w.cell? (a46.add 2)=some (.string dT)/\
 zQg p6 λtj=>
 stA prog 73 tj #[.int .i64 dR,.int .i64 dS,.string dT] w λjK=>
 zQc prog ds jK λss=>
 zQg p6 λrp=>
 ∃ag,ss.cell? (rp.add 0)=some (.int .i64 ag)/\
 ∃aB,ss.cell? (rp.add 1)=some (.int .i64 aB)/\
 ∃aC,ss.cell? (rp.add 2)=some (.string aC)/\
 R (.returned (.tuple #[.agg #[.int .i64 ag,.int .i64 aB,.string aC],.int .i64 0])) ss))) (
 zQg p5 λa51=>
 ∃dR,w.cell? (a51.add 0)=some (.int .i64 dR)/\
 ∃dS,w.cell? (a51.add 1)=some (.int .i64 dS)/\
 ∃dT,w.cell? (a51.add 2)=some (.string dT)/\
 zQg p6 λrq=>
 stA prog 73 rq #[.int .i64 dR,.int .i64 dS,.string dT] w λoS=>
 zQc prog ds oS λsu=>
 zQg p6 λwO=>
 ∃ag,su.cell? (wO.add 0)=some (.int .i64 ag)/\
 ∃aB,su.cell? (wO.add 1)=some (.int .i64 aB)/\
 ∃aC,su.cell? (wO.add 2)=some (.string aC)/\
 R (.returned (.tuple #[.agg #[.int .i64 ag,.int .i64 aB,.string aC],.int .i64 0])) su)))
def F83_2(R:Rt)(aP:ByteArray)(aH aQ:Int)(aR:Bool)(n1 fM fN:Int)(fO:ByteArray)(ds:Ds)(w:World):Prop:=
 alE (.cells #[.string aP,.int .i64 aH,.int .i64 aQ,.bool aR] 129) w λr3 vT=>
 alE (.cells #[.int .i64 fM,.int .i64 fN,.string fO] 73) vT λr5 tk=>
 alE (.cells #[.int .i64 0,.int .i64 0,.string (⟨#[]⟩:ByteArray)] 73) tk λr6 nB=>
 ∃gp,nB.cell? ((⟨r3,0,none⟩:Addr).add 0)=some (.string gp)/\
 ∃gq,nB.cell? ((⟨r3,0,none⟩:Addr).add 1)=some (.int .i64 gq)/\
 ∃gr,nB.cell? ((⟨r3,0,none⟩:Addr).add 2)=some (.int .i64 gr)/\
 ∃gt,nB.cell? ((⟨r3,0,none⟩:Addr).add 3)=some (.bool gt)/\
 Calls prog 115 #[.agg #[.string gp,.int .i64 gq,.int .i64 gr,.bool gt]] nB λe k7=>
 ∃cO:Bool,e=.returned (.bool cO)/\
 Br (!cO) (
 stA prog 73 (⟨r6,0,none⟩:Addr) #[.int .i64 0,.int .i64 0,.string (⟨#[]⟩:ByteArray)] k7 λlC=>
 zQc prog ds lC λmj=>
 ∃ag,mj.cell? ((⟨r6,0,none⟩:Addr).add 0)=some (.int .i64 ag)/\
 ∃aB,mj.cell? ((⟨r6,0,none⟩:Addr).add 1)=some (.int .i64 aB)/\
 ∃aC,mj.cell? ((⟨r6,0,none⟩:Addr).add 2)=some (.string aC)/\
 R (.returned (.tuple #[.agg #[.int .i64 ag,.int .i64 aB,.string aC],.int .i64 1])) mj) (
 Calls prog 116 #[.int .i64 n1] k7 λe mL=>
 ∃gP:Bool,e=.returned (.bool gP)/\
 Br (!gP) (
 stA prog 73 (⟨r6,0,none⟩:Addr) #[.int .i64 0,.int .i64 0,.string (⟨#[]⟩:ByteArray)] mL λkQ=>
 zQc prog ds kQ λkR=>
 ∃ag,kR.cell? ((⟨r6,0,none⟩:Addr).add 0)=some (.int .i64 ag)/\
 ∃aB,kR.cell? ((⟨r6,0,none⟩:Addr).add 1)=some (.int .i64 aB)/\
 ∃aC,kR.cell? ((⟨r6,0,none⟩:Addr).add 2)=some (.string aC)/\
 R (.returned (.tuple #[.agg #[.int .i64 ag,.int .i64 aB,.string aC],.int .i64 1])) kR) (
 ∃dU,mL.cell? ((⟨r5,0,none⟩:Addr).add 0)=some (.int .i64 dU)/\
 ∃cL,mL.cell? ((⟨r5,0,none⟩:Addr).add 1)=some (.int .i64 cL)/\
 ∃dV,mL.cell? ((⟨r5,0,none⟩:Addr).add 2)=some (.string dV)/\
 Calls prog 117 #[.agg #[.int .i64 dU,.int .i64 cL,.string dV]] mL λe k8=>
 ∃jI:Int,e=.returned (.int .i64 jI)/\
 Br (jI != 0) (
 stA prog 73 (⟨r6,0,none⟩:Addr) #[.int .i64 0,.int .i64 0,.string (⟨#[]⟩:ByteArray)] k8 λlD=>
 zQc prog ds lD λvU=>
 ∃ag,vU.cell? ((⟨r6,0,none⟩:Addr).add 0)=some (.int .i64 ag)/\
 ∃aB,vU.cell? ((⟨r6,0,none⟩:Addr).add 1)=some (.int .i64 aB)/\
 ∃aC,vU.cell? ((⟨r6,0,none⟩:Addr).add 2)=some (.string aC)/\
 R (.returned (.tuple #[.agg #[.int .i64 ag,.int .i64 aB,.string aC],.int .i64 jI])) vU) (
 ∃fW,k8.cell? (⟨r5,0,none⟩:Addr)=some (.int .i64 fW)/\
 Br (fW == 0) (
 ∃oT,k8.cell? ((⟨r3,0,none⟩:Addr).add 3)=some (.bool oT)/\
 Br (!oT) (
 stA prog 73 (⟨r6,0,none⟩:Addr) #[.int .i64 0,.int .i64 0,.string (⟨#[]⟩:ByteArray)] k8 λtl=>
 zQc prog ds tl λnR=>
 ∃ag,nR.cell? ((⟨r6,0,none⟩:Addr).add 0)=some (.int .i64 ag)/\
 ∃aB,nR.cell? ((⟨r6,0,none⟩:Addr).add 1)=some (.int .i64 aB)/\
 ∃aC,nR.cell? ((⟨r6,0,none⟩:Addr).add 2)=some (.string aC)/\
 R (.returned (.tuple #[.agg #[.int .i64 ag,.int .i64 aB,.string aC],.int .i64 7])) nR) (
 ∃j4,k8.cell? ((⟨r5,0,none⟩:Addr).add 0)=some (.int .i64 j4)/\
 ∃j5,k8.cell? ((⟨r5,0,none⟩:Addr).add 1)=some (.int .i64 j5)/\
 ∃j6,k8.cell? ((⟨r5,0,none⟩:Addr).add 2)=some (.string j6)/\
 stA prog 73 (⟨r6,0,none⟩:Addr) #[.int .i64 j4,.int .i64 j5,.string j6] k8 λtm=>
 zQc prog ds tm λmA=>
 ∃ag,mA.cell? ((⟨r6,0,none⟩:Addr).add 0)=some (.int .i64 ag)/\
 ∃aB,mA.cell? ((⟨r6,0,none⟩:Addr).add 1)=some (.int .i64 aB)/\
 ∃aC,mA.cell? ((⟨r6,0,none⟩:Addr).add 2)=some (.string aC)/\
 R (.returned (.tuple #[.agg #[.int .i64 ag,.int .i64 aB,.string aC],.int .i64 0])) mA)) (
 dwE k8 λtn=>
 ∃S1:World->Prop,S1 tn/\
 ∃oL,(∀w',S1 w'->w'.cell? (⟨r5,0,none⟩:Addr)=some (.int .i64 oL))/\
 ∃oU,(∀w',S1 w'->w'.cell? ((⟨r3,0,none⟩:Addr).add 0)=some (.string oU))/\
 ∃j7,(∀w',S1 w'->w'.cell? ((⟨r3,0,none⟩:Addr).add 1)=some (.int .i64 j7))/\
 ∃oV,(∀w',S1 w'->w'.cell? ((⟨r3,0,none⟩:Addr).add 2)=some (.int .i64 oV))/\
 ∃oW,(∀w',S1 w'->w'.cell? ((⟨r3,0,none⟩:Addr).add 3)=some (.bool oW))/\
 Calls prog 118 #[.agg #[.string oU,.int .i64 j7,.int .i64 oV,.bool oW]] tn λe oX=>
 ∃gu:Int,∃tp:Int,∃tq:ByteArray,e=.returned (.agg #[.int .i64 gu,.int .i64 tp,.string tq])/\
 S1 oX/\
 Br (oL != gu) (
 stA prog 73 (⟨r6,0,none⟩:Addr) #[.int .i64 0,.int .i64 0,.string (⟨#[]⟩:ByteArray)] oX λrt=>
 zQc prog ds rt λk9=>
 ∃ag,k9.cell? ((⟨r6,0,none⟩:Addr).add 0)=some (.int .i64 ag)/\
 ∃aB,k9.cell? ((⟨r6,0,none⟩:Addr).add 1)=some (.int .i64 aB)/\
 ∃aC,k9.cell? ((⟨r6,0,none⟩:Addr).add 2)=some (.string aC)/\
 R (.returned (.tuple #[.agg #[.int .i64 ag,.int .i64 aB,.string aC],.int .i64 6])) k9) (
 ∃mi,oX.cell? ((⟨r3,0,none⟩:Addr).add 1)=some (.int .i64 mi)/\
 F83_1 R n1 (some (⟨r3,0,none⟩:Addr)) (some (⟨r5,0,none⟩:Addr)) (some (⟨r6,0,none⟩:Addr)) mi ds oX)))))
theorem F83_p:Pl prog f83 [aS 0 [.str,.int .i64,.int .i64,.bool],iS 1,aS 2 [.int .i64,.int .i64,.str]] F83_2:=λR=>
 pc 11 (rest [iS 1,pS 3,pS 5,pS 6,iS 42] (F83_1 R) lf)
theorem yV8 (aP:ByteArray) (aH aQ:Int) (aR:Bool) (n1 fM fN:Int) (fO:ByteArray) (w:World) (R:Rt) (h:F83_2 R aP aH aQ aR n1 fM fN fO [] w):Calls prog 83 #[.agg #[.string aP,.int .i64 aH,.int .i64 aQ,.bool aR],.int .i64 n1,.agg #[.int .i64 fM,.int .i64 fN,.string fO]] w R:=
 plC F83_p func83 h
def F93_1(R:Rt)(aP:ByteArray)(aH aQ:Int)(aR:Bool)(n1 fM fN:Int)(fO:ByteArray)(ds:Ds)(w:World):Prop:=
 alE (.cells #[.string aP,.int .i64 aH,.int .i64 aQ,.bool aR] 129) w λr3 w1=>
 alE (.cells #[.int .i64 fM,.int .i64 fN,.string fO] 73) w1 λr5 w2=>
 ∃dk,w2.cell? ((⟨r5,0,none⟩:Addr).add 0)=some (.int .i64 dk)/\
 ∃dL,w2.cell? ((⟨r5,0,none⟩:Addr).add 1)=some (.int .i64 dL)/\
 ∃mI,w2.cell? ((⟨r5,0,none⟩:Addr).add 2)=some (.string mI)/\
 Calls prog 132 #[.agg #[.int .i64 dk,.int .i64 dL,.string mI]] w2 λe w3=>
 ∃n8:Int,e=.returned (.int .i64 n8)/\
 Br (n8 != 0) (
 zQc prog ds w3 λw4=>
 R (.returned (.bool false)) w4) (
 ∃cv,w3.cell? (⟨r5,0,none⟩:Addr)=some (.int .i64 cv)/\
 Br (cv == 0) (
 ∃gJ,w3.cell? ((⟨r3,0,none⟩:Addr).add 3)=some (.bool gJ)/\
 zQc prog ds w3 λw5=>
 R (.returned (.bool gJ)) w5) (
 ∃gO,w3.cell? ((⟨r3,0,none⟩:Addr).add 1)=some (.int .i64 gO)/\
 Br (gO == 5) (
 ∃jI,w3.cell? (⟨r5,0,none⟩:Addr)=some (.int .i64 jI)/\
 Br (jI == 2) (
 ∃bF,w3.cell? ((⟨r5,0,none⟩:Addr).add 1)=some (.int .i64 bF)/\
 Calls prog 133 #[.int .i64 bF] w3 λe w6=>
 ∃sv:Bool,e=.returned (.bool sv)/\
 zQc prog ds w6 λw7=>
 R (.returned (.bool sv)) w7) (
 zQc prog ds w3 λw8=>
 R (.returned (.bool false)) w8)) (
 ∃mM,w3.cell? (⟨r5,0,none⟩:Addr)=some (.int .i64 mM)/\
 ∃lc,w3.cell? ((⟨r3,0,none⟩:Addr).add 1)=some (.int .i64 lc)/\
 Br (mM != lc) (
 zQc prog ds w3 λw9=>
 R (.returned (.bool false)) w9) (
 ∃kT,w3.cell? ((⟨r3,0,none⟩:Addr).add 1)=some (.int .i64 kT)/\
 Br (kT == 2) (
 dwE w3 λaU=>
 ∃S1:World->Prop,S1 aU/\
 ∃db,(∀w',S1 w'->w'.cell? ((⟨r5,0,none⟩:Addr).add 1)=some (.int .i64 db))/\
 ∃cN,(∀w',S1 w'->w'.cell? ((⟨r3,0,none⟩:Addr).add 2)=some (.int .i64 cN))/\
 Calls prog 134 #[.int .i64 db] aU λe aT=>
 ∃s40:ByteArray,e=.returned (.string s40)/\
 S1 aT/\
 zQc prog ds aT λaX=>
 R (.returned (.bool (decide ((s40.size:Int)<=cN)))) aX) (
 ∃n47,w3.cell? ((⟨r3,0,none⟩:Addr).add 1)=some (.int .i64 n47)/\
 Br (n47 == 4) (
 dwE w3 λaK=>
 ∃S2:World->Prop,S2 aK/\
 ∃s50,(∀w',S2 w'->w'.cell? ((⟨r5,0,none⟩:Addr).add 2)=some (.string s50))/\
 ∃iT,(∀w',S2 w'->w'.cell? ((⟨r3,0,none⟩:Addr).add 2)=some (.int .i64 iT))/\
 Br (decide ((s50.size:Int)<=iT)) (
 ∃tg,(∀w',S2 w'->w'.cell? ((⟨r5,0,none⟩:Addr).add 2)=some (.string tg))/\
 ∃s60,(∀w',S2 w'->w'.cell? ((⟨r5,0,none⟩:Addr).add 2)=some (.string s60))/\
 Calls prog 135 #[.string tg] aK λe bH=>
 ∃s58:ByteArray,e=.returned (.string s58)/\
 S2 bH/\
 Br (s58.toList == s60.toList) (
 ∃s65,(∀w',S2 w'->w'.cell? ((⟨r5,0,none⟩:Addr).add 2)=some (.string s65))/\
 Calls prog 136 #[.string s65,.int .i64 n1] bH λe bC=>
 ∃oY:Bool,e=.returned (.bool oY)/\
 zQc prog ds bC λbT=>
 R (.returned (.bool oY)) bT) (
 zQc prog ds bH λbD=>
 R (.returned (.bool false)) bD)) (
 zQc prog ds aK λcH=>
 R (.returned (.bool false)) cH)) (
 zQc prog ds w3 λcR=>
 R (.returned (.bool true)) cR))))))
theorem F93_p:Pl prog f93 [aS 0 [.str,.int .i64,.int .i64,.bool],iS 1,aS 2 [.int .i64,.int .i64,.str]] F93_1:=λR=>
 lf
theorem yWX (aP:ByteArray) (aH aQ:Int) (aR:Bool) (n1 fM fN:Int) (fO:ByteArray) (w:World) (R:Rt) (h:F93_1 R aP aH aQ aR n1 fM fN fO [] w):Calls prog 93 #[.agg #[.string aP,.int .i64 aH,.int .i64 aQ,.bool aR],.int .i64 n1,.agg #[.int .i64 fM,.int .i64 fN,.string fO]] w R:=
 plC F93_p func93 h
def xKj(R:Rt)(n0:Int)(ds:Ds)(w:World):Prop:=
 Br (decide (n0 >= 0)) (
 zQc prog ds w λw1=>
 R (.returned (.bool (decide (n0<=99999999)))) w1) (
 zQc prog ds w λw2=>
 R (.returned (.bool false)) w2)
theorem F133_p:Pl prog f133 [iS 0] xKj:=λR=>
 lf
theorem yKI (n0:Int) (w:World) (R:Rt) (h:xKj R n0 [] w):Calls prog 133 #[.int .i64 n0] w R:=
 plC F133_p func133 h
end Go.Proofs.YtaeecpjhfmcliaaGreatDoor
/- Shallow texts of functions, printed by program, each checked by the kernel against the loaded code. No condition. -/
namespace Go.Proofs.YtaeecpjhfmcliaaGreatDoor
open Go.Sh Tryz
def xXH(R:Rt)(l0:SV)(ds:Ds)(w:World):Prop:=
 Br (decide ((l0.len:Int) > 16)) (
 zQc prog ds w λw1=>
 R (.returned (.int .i64 3)) w1) (
 Calls prog 161 #[l0.v] w λe w2=>
 ∃iw:Int,e=.returned (.int .i64 iw)/\
 Br (decide (iw > 2000)) (
 zQc prog ds w2 λw3=>
 R (.returned (.int .i64 3)) w3) (
 zQc prog ds w2 λw4=>
 R (.returned (.int .i64 0)) w4))
def xZT (R:Rt) (J1:(Int)->World->Prop) (l0:SV) (m3:Option Nat) (bN:SV) (iz n16:Int) (ds:Ds) (w:World):Prop:=
 Br (decide (n16<iz)) (
 ∃a5,bN.a=some a5/\0<=n16/\n16<(bN.len:Int)/\
 ∃gv,w.cell? ((a5.add (n16.toNat * 4)).add 0)=some (.string gv)/\
 ∃aY,w.cell? ((a5.add (n16.toNat * 4)).add 1)=some (.int .i64 aY)/\
 ∃gw,w.cell? ((a5.add (n16.toNat * 4)).add 2)=some (.int .i64 gw)/\
 ∃dW,w.cell? ((a5.add (n16.toNat * 4)).add 3)=some (.bool dW)/\
 alE (.cells #[.string (⟨#[]⟩:ByteArray),.int .i64 0,.int .i64 0,.bool false] 129) w λr5 w6=>
 stA prog 129 (⟨r5,0,none⟩:Addr) #[.string gv,.int .i64 aY,.int .i64 gw,.bool dW] w6 λw7=>
 ∃sr,w7.cell? (⟨r5,0,none⟩:Addr)=some (.string sr)/\
 ∃rv:Bool,∃w8,(Instr.lookup 206 (.map m3) (.string sr) false).run prog w7=.ok (.bool rv) w8/\
 Br rv (
 zQc prog ds w8 λw9=>
 R (.returned (.int .i64 5)) w9) (
 ∃s26,w8.cell? (⟨r5,0,none⟩:Addr)=some (.string s26)/\
 doE prog (Instr.mapUpdate 206 (.map m3) (.string s26) (.bool true)) w8 λaU=>
 J1 (IntKind.i64.wrap (n16+1)) aU)) (
 xXH R l0 ds w)
def xXP(R:Rt)(l0:SV)(m3:Option Nat)(bN:SV)(iz n16:Int)(ds:Ds)(w:World):Prop:=
 zQD (λ(J1:(Int)->World->Prop) (s:Int) (w:World)=>xZT R J1 l0 m3 bN iz s ds w) n16 w
def xK6(R:Rt)(l0:SV)(ds:Ds)(w:World):Prop:=
 Br ((l0.len:Int) == 0) (
 zQc prog ds w λaT=>
 R (.returned (.int .i64 1)) aT) (
 Calls prog 178 #[l0.v,.func (.func 179) #[] #[]] w λe aX=>
 ∃ml:Bool,e=.returned (.bool ml)/\
 Br ml (
 zQc prog ds aX λaK=>
 R (.returned (.int .i64 1)) aK) (
 alE (.map #[] 0) aX λoZ bH=>
 xXP R l0 (some oZ) l0 (l0.len:Int) 0 ds bH))
theorem F141_p:Pl prog f141 [lS 0] xK6:=λR=>
 pc 5 (rest [lS 0,mS 3,lS 14,iS 15,iS 16] (xXP R) (bk 0 (rest [lS 0] (xXH R) lf) (lp [iS 16] [lS 0,mS 3,lS 14,iS 15,iS 16] (xZT R) zXY λJ1=>lf)))
theorem yJ9 (l0:SV) (w:World) (R:Rt) (h:xK6 R l0 [] w):Calls prog 141 #[l0.v] w R:=
 plC F141_p func141 h
def xJf(R:Rt)(l0:SV)(v1:Value)(ds:Ds)(w:World):Prop:=
 Calls prog 113 #[l0.v,v1] w λe w1=>
 ∃n7:Int,e=.returned (.int .i64 n7)/\
 zQc prog ds w1 λw2=>
 R (.returned (.bool (decide (n7 >= 0)))) w2
theorem F178_p:Pl prog f178 [lS 0,vS 1] xJf:=λR=>
 lf
theorem yJX (l0:SV) (v1:Value) (w:World) (R:Rt) (h:xJf R l0 v1 [] w):Calls prog 178 #[l0.v,v1] w R:=
 plC F178_p func178 h
def xJj(R:Rt)(aP:ByteArray)(aH aQ:Int)(aR:Bool)(ds:Ds)(w:World):Prop:=
 alE (.cells #[.string aP,.int .i64 aH,.int .i64 aQ,.bool aR] 129) w λr1 w1=>
 ∃tr,w1.cell? ((⟨r1,0,none⟩:Addr).add 0)=some (.string tr)/\
 ∃lg,w1.cell? ((⟨r1,0,none⟩:Addr).add 1)=some (.int .i64 lg)/\
 ∃tt,w1.cell? ((⟨r1,0,none⟩:Addr).add 2)=some (.int .i64 tt)/\
 ∃tu,w1.cell? ((⟨r1,0,none⟩:Addr).add 3)=some (.bool tu)/\
 Calls prog 115 #[.agg #[.string tr,.int .i64 lg,.int .i64 tt,.bool tu]] w1 λe w2=>
 ∃b4:Bool,e=.returned (.bool b4)/\
 zQc prog ds w2 λw3=>
 R (.returned (.bool (!b4))) w3
theorem F179_p:Pl prog f179 [aS 0 [.str,.int .i64,.int .i64,.bool]] xJj:=λR=>
 lf
theorem yKy (aP:ByteArray) (aH aQ:Int) (aR:Bool) (w:World) (R:Rt) (h:xJj R aP aH aQ aR [] w):Calls prog 179 #[.agg #[.string aP,.int .i64 aH,.int .i64 aQ,.bool aR]] w R:=
 plC F179_p func179 h
def xJ3(R:Rt)(n3:Int)(ds:Ds)(w:World):Prop:=
 zQc prog ds w λw1=>
 R (.returned (.int .i64 n3)) w1
def xJq (R:Rt) (J1:(Int × Int)->World->Prop) (n3:Int) (l9:SV) (gb cS:Int) (ds:Ds) (w:World):Prop:=
 Br (decide (cS<gb)) (
 ∃a2,l9.a=some a2/\0<=cS/\cS<(l9.len:Int)/\
 ∃o0,w.cell? ((a2.add (cS.toNat * 4)).add 0)=some (.string o0)/\
 ∃o1,w.cell? ((a2.add (cS.toNat * 4)).add 1)=some (.int .i64 o1)/\
 ∃o2,w.cell? ((a2.add (cS.toNat * 4)).add 2)=some (.int .i64 o2)/\
 ∃o3,w.cell? ((a2.add (cS.toNat * 4)).add 3)=some (.bool o3)/\
 alE (.cells #[.string (⟨#[]⟩:ByteArray),.int .i64 0,.int .i64 0,.bool false] 129) w λr5 w3=>
 stA prog 129 (⟨r5,0,none⟩:Addr) #[.string o0,.int .i64 o1,.int .i64 o2,.bool o3] w3 λw4=>
 ∃kN,w4.cell? ((⟨r5,0,none⟩:Addr).add 2)=some (.int .i64 kN)/\
 J1 ((IntKind.i64.wrap (n3+kN)),(IntKind.i64.wrap (cS+1))) w4) (
 xJ3 R n3 ds w)
def xKG(R:Rt)(n3:Int)(l9:SV)(gb cS:Int)(ds:Ds)(w:World):Prop:=
 zQD (λ(J1:(Int × Int)->World->Prop) (s:Int × Int) (w:World)=>xJq R J1 s.1 l9 gb s.2 ds w) (n3,cS) w
def xZj(R:Rt)(l0:SV)(ds:Ds)(w:World):Prop:=
 Calls prog 203 #[l0.v] w λe w5=>
 ∃n7:Int,e=.returned (.int .i64 n7)/\
 xKG R (IntKind.i64.wrap ((1:Int)+n7)) l0 (l0.len:Int) 0 ds w5
theorem F161_p:Pl prog f161 [lS 0] xZj:=λR=>
 pc 3 (rest [iS 3,lS 9,iS 10,iS 11] (xKG R) (bk 0 (rest [iS 3] (xJ3 R) lf) (lp [iS 3,iS 11] [iS 3,lS 9,iS 10,iS 11] (xJq R) zXY λJ1=>lf)))
theorem yWa (l0:SV) (w:World) (R:Rt) (h:xZj R l0 [] w):Calls prog 161 #[l0.v] w R:=
 plC F161_p func161 h
def xZu(R:Rt)(n3:Int)(ds:Ds)(w:World):Prop:=
 IntKind.i64=IntKind.i64/\(8:Int) ≠ 0/\
 zQc prog ds w λw1=>
 R (.returned (.int .i64 (IntKind.i64.wrap ((IntKind.i64.wrap (n3+7)).tdiv 8)))) w1
def xJe (R:Rt) (J1:(Int × Int)->World->Prop) (n3:Int) (l6:SV) (n7 n8:Int) (ds:Ds) (w:World):Prop:=
 Br (decide (n8<n7)) (
 ∃a2,l6.a=some a2/\0<=n8/\n8<(l6.len:Int)/\
 ∃gp,w.cell? ((a2.add (n8.toNat * 4)).add 0)=some (.string gp)/\
 ∃gq,w.cell? ((a2.add (n8.toNat * 4)).add 1)=some (.int .i64 gq)/\
 ∃gr,w.cell? ((a2.add (n8.toNat * 4)).add 2)=some (.int .i64 gr)/\
 ∃gt,w.cell? ((a2.add (n8.toNat * 4)).add 3)=some (.bool gt)/\
 alE (.cells #[.string (⟨#[]⟩:ByteArray),.int .i64 0,.int .i64 0,.bool false] 129) w λr5 w3=>
 stA prog 129 (⟨r5,0,none⟩:Addr) #[.string gp,.int .i64 gq,.int .i64 gr,.bool gt] w3 λw4=>
 ∃lE,w4.cell? ((⟨r5,0,none⟩:Addr).add 3)=some (.bool lE)/\
 Br lE (
 J1 ((IntKind.i64.wrap (n3+1)),(IntKind.i64.wrap (n8+1))) w4) (
 J1 (n3,(IntKind.i64.wrap (n8+1))) w4)) (
 xZu R n3 ds w)
def xXM(R:Rt)(n3:Int)(l6:SV)(n7 n8:Int)(ds:Ds)(w:World):Prop:=
 zQD (λ(J1:(Int × Int)->World->Prop) (s:Int × Int) (w:World)=>xJe R J1 s.1 l6 n7 s.2 ds w) (n3,n8) w
def xJL(R:Rt)(l0:SV)(ds:Ds)(w:World):Prop:=
 xXM R 0 l0 (l0.len:Int) 0 ds w
theorem F203_p:Pl prog f203 [lS 0] xJL:=λR=>
 pc 3 (rest [iS 3,lS 6,iS 7,iS 8] (xXM R) (bk 0 (rest [iS 3] (xZu R) lf) (lp [iS 3,iS 8] [iS 3,lS 6,iS 7,iS 8] (xJe R) zXY λJ1=>lf)))
theorem yKR (l0:SV) (w:World) (R:Rt) (h:xJL R l0 [] w):Calls prog 203 #[l0.v] w R:=
 plC F203_p func203 h
def F53_1(R:Rt)(l0:SV)(ds:Ds)(w:World):Prop:=
 Br (decide ((l0.len:Int) > 16)) (
 zQc prog ds w λw1=>
 R (.returned (.int .i64 3)) w1) (
 Calls prog 92 #[l0.v] w λe w2=>
 ∃ct:Int,e=.returned (.int .i64 ct)/\
 Br (decide (ct > 2000)) (
 zQc prog ds w2 λw3=>
 R (.returned (.int .i64 3)) w3) (
 zQc prog ds w2 λw4=>
 R (.returned (.int .i64 0)) w4))
def F53_2 (R:Rt) (J1:(Int)->World->Prop) (l0:SV) (n4:Int) (ds:Ds) (w:World):Prop:=
 J1 (IntKind.i64.wrap (n4+1)) w
def F53_3 (R:Rt) (J1:(Int)->World->Prop) (J2:(Int)->World->Prop) (l0:SV) (n4 n5:Int) (ds:Ds) (w:World):Prop:=
 Br (decide (n5<n4)) (
 dwE w λw5=>
 ∃a6,l0.a=some a6/\0<=n4/\n4<(l0.len:Int)/\
 ∃s36,w5.cell? (a6.add (n4.toNat * 4))=some (.string s36)/\
 ∃a7,l0.a=some a7/\0<=n5/\n5<(l0.len:Int)/\
 ∃s41,w5.cell? (a7.add (n5.toNat * 4))=some (.string s41)/\
 Br (s36.toList == s41.toList) (
 zQc prog ds w5 λw8=>
 R (.returned (.int .i64 5)) w8) (
 J2 (IntKind.i64.wrap (n5+1)) w5)) (
 F53_2 R J1 l0 n4 ds w)
def F53_4 (R:Rt) (J1:(Int)->World->Prop) (l0:SV) (n4 n5:Int) (ds:Ds) (w:World):Prop:=
 zQD (λ(J2:(Int)->World->Prop) (s:Int) (w:World)=>F53_3 R J1 J2 l0 n4 s ds w) n5 w
def F53_6 (R:Rt) (J1:(Int)->World->Prop) (l0:SV) (n4:Int) (ds:Ds) (w:World):Prop:=
 F53_4 R J1 l0 n4 0 ds w
def F53_8 (R:Rt) (J1:(Int)->World->Prop) (l0:SV) (n4:Int) (ds:Ds) (w:World):Prop:=
 Br (decide (n4<(l0.len:Int))) (
 F53_6 R J1 l0 n4 ds w) (
 F53_1 R l0 ds w)
def F53_9(R:Rt)(l0:SV)(n4:Int)(ds:Ds)(w:World):Prop:=
 zQD (λ(J1:(Int)->World->Prop) (s:Int) (w:World)=>F53_8 R J1 l0 s ds w) n4 w
def xXZ(R:Rt)(l0:SV)(ds:Ds)(w:World):Prop:=
 F53_9 R l0 0 ds w
def xJO (R:Rt) (J1:(Int)->World->Prop) (l0:SV) (n3:Int) (ds:Ds) (w:World):Prop:=
 Br (decide (n3<(l0.len:Int))) (
 ∃a9,l0.a=some a9/\0<=n3/\n3<(l0.len:Int)/\
 ∃o4,w.cell? ((a9.add (n3.toNat * 4)).add 0)=some (.string o4)/\
 ∃iU,w.cell? ((a9.add (n3.toNat * 4)).add 1)=some (.int .i64 iU)/\
 ∃o5,w.cell? ((a9.add (n3.toNat * 4)).add 2)=some (.int .i64 o5)/\
 ∃o6,w.cell? ((a9.add (n3.toNat * 4)).add 3)=some (.bool o6)/\
 Calls prog 91 #[.agg #[.string o4,.int .i64 iU,.int .i64 o5,.bool o6]] w λe aU=>
 ∃b19:Bool,e=.returned (.bool b19)/\
 Br (!b19) (
 zQc prog ds aU λaT=>
 R (.returned (.int .i64 1)) aT) (
 J1 (IntKind.i64.wrap (n3+1)) aU)) (
 xXZ R l0 ds w)
def xJx(R:Rt)(l0:SV)(n3:Int)(ds:Ds)(w:World):Prop:=
 zQD (λ(J1:(Int)->World->Prop) (s:Int) (w:World)=>xJO R J1 l0 s ds w) n3 w
def xXA(R:Rt)(l0:SV)(ds:Ds)(w:World):Prop:=
 Br ((l0.len:Int) == 0) (
 zQc prog ds w λaX=>
 R (.returned (.int .i64 1)) aX) (
 xJx R l0 0 ds w)
theorem F53_p:Pl prog f53 [lS 0] xXA:=λR=>
 pc 4 (rest [lS 0,iS 3] (xJx R) (bk 0 (rest [lS 0] (xXZ R) (pc 1 (rest [lS 0,iS 4] (F53_9 R) (bk 2 (rest [lS 0] (F53_1 R) lf) (lp [iS 4] [lS 0,iS 4] (F53_8 R) zXY λJ1=>pc 2 (rest [lS 0,iS 4] (F53_6 R J1) (bk 3 (rest [lS 0,iS 4] (F53_2 R J1) lf) (pc 1 (rest [lS 0,iS 4,iS 5] (F53_4 R J1) (bk 4 zXY (lp [iS 5] [lS 0,iS 4,iS 5] (F53_3 R J1) zXY λJ2=>lf))))))))))) (lp [iS 3] [lS 0,iS 3] (xJO R) zXY λJ1=>lf)))
theorem yV1 (l0:SV) (w:World) (R:Rt) (h:xXA R l0 [] w):Calls prog 53 #[l0.v] w R:=
 plC F53_p func53 h
def F92_1(R:Rt)(n3:Int)(ds:Ds)(w:World):Prop:=
 zQc prog ds w λw1=>
 R (.returned (.int .i64 n3)) w1
def F92_2 (R:Rt) (J1:(Int × Int)->World->Prop) (l0:SV) (n3 n4:Int) (ds:Ds) (w:World):Prop:=
 Br (decide (n4<(l0.len:Int))) (
 ∃a2,l0.a=some a2/\0<=n4/\n4<(l0.len:Int)/\
 ∃jL,w.cell? ((a2.add (n4.toNat * 4)).add 2)=some (.int .i64 jL)/\
 J1 ((IntKind.i64.wrap (n3+jL)),(IntKind.i64.wrap (n4+1))) w) (
 F92_1 R n3 ds w)
def F92_3(R:Rt)(l0:SV)(n3 n4:Int)(ds:Ds)(w:World):Prop:=
 zQD (λ(J1:(Int × Int)->World->Prop) (s:Int × Int) (w:World)=>F92_2 R J1 l0 s.1 s.2 ds w) (n3,n4) w
def F92_5(R:Rt)(l0:SV)(ds:Ds)(w:World):Prop:=
 Calls prog 131 #[l0.v] w λe w3=>
 ∃n6:Int,e=.returned (.int .i64 n6)/\
 F92_3 R l0 (IntKind.i64.wrap ((1:Int)+n6)) 0 ds w3
theorem F92_p:Pl prog f92 [lS 0] F92_5:=λR=>
 pc 3 (rest [lS 0,iS 3,iS 4] (F92_3 R) (bk 0 (rest [iS 3] (F92_1 R) lf) (lp [iS 3,iS 4] [lS 0,iS 3,iS 4] (F92_2 R) zXY λJ1=>lf)))
theorem yVp (l0:SV) (w:World) (R:Rt) (h:F92_5 R l0 [] w):Calls prog 92 #[l0.v] w R:=
 plC F92_p func92 h
def xZQ(R:Rt)(n3:Int)(ds:Ds)(w:World):Prop:=
 IntKind.i64=IntKind.i64/\(8:Int) ≠ 0/\
 zQc prog ds w λw1=>
 R (.returned (.int .i64 (IntKind.i64.wrap ((IntKind.i64.wrap (n3+7)).tdiv 8)))) w1
def xKw (R:Rt) (J1:(Int × Int)->World->Prop) (l0:SV) (n3 n4:Int) (ds:Ds) (w:World):Prop:=
 Br (decide (n4<(l0.len:Int))) (
 ∃a2,l0.a=some a2/\0<=n4/\n4<(l0.len:Int)/\
 ∃gJ,w.cell? ((a2.add (n4.toNat * 4)).add 3)=some (.bool gJ)/\
 Br gJ (
 J1 ((IntKind.i64.wrap (n3+1)),(IntKind.i64.wrap (n4+1))) w) (
 J1 (n3,(IntKind.i64.wrap (n4+1))) w)) (
 xZQ R n3 ds w)
def xZ7(R:Rt)(l0:SV)(n3 n4:Int)(ds:Ds)(w:World):Prop:=
 zQD (λ(J1:(Int × Int)->World->Prop) (s:Int × Int) (w:World)=>xKw R J1 l0 s.1 s.2 ds w) (n3,n4) w
def xZk(R:Rt)(l0:SV)(ds:Ds)(w:World):Prop:=
 xZ7 R l0 0 0 ds w
theorem F131_p:Pl prog f131 [lS 0] xZk:=λR=>
 pc 3 (rest [lS 0,iS 3,iS 4] (xZ7 R) (bk 0 (rest [iS 3] (xZQ R) lf) (lp [iS 3,iS 4] [lS 0,iS 3,iS 4] (xKw R) zXY λJ1=>lf)))
theorem yJV (l0:SV) (w:World) (R:Rt) (h:xZk R l0 [] w):Calls prog 131 #[l0.v] w R:=
 plC F131_p func131 h
end Go.Proofs.YtaeecpjhfmcliaaGreatDoor
/- Shallow texts of functions, printed by program, each checked by the kernel against the loaded code. No condition. -/
namespace Go.Proofs.YtaeecpjhfmcliaaGreatDoor
open Go.Sh Tryz
def xZN(R:Rt)(ds:Ds)(w:World):Prop:=
 zQc prog ds w λw1=>
 R (.returned (.int .i64 (-1))) w1
def xJJ (R:Rt) (J1:(Int)->World->Prop) (l0:SV) (v1:Value) (n7 n8:Int) (ds:Ds) (w:World):Prop:=
 Br (decide (n8<n7)) (
 ∃a2,l0.a=some a2/\0<=n8/\n8<(l0.len:Int)/\
 ∃o7,w.cell? ((a2.add (n8.toNat * 4)).add 0)=some (.string o7)/\
 ∃dX,w.cell? ((a2.add (n8.toNat * 4)).add 1)=some (.int .i64 dX)/\
 ∃o8,w.cell? ((a2.add (n8.toNat * 4)).add 2)=some (.int .i64 o8)/\
 ∃o9,w.cell? ((a2.add (n8.toNat * 4)).add 3)=some (.bool o9)/\
 fnE v1 λf16 first16 tv=>
 zQv prog f16=true/\Calls prog f16 (first16.toList ++ (([.agg #[.string o7,.int .i64 dX,.int .i64 o8,.bool o9]]:List Value) ++ tv.toList)).toArray w λe w3=>
 ∃gP:Bool,e=.returned (.bool gP)/\
 Br gP (
 zQc prog ds w3 λw4=>
 R (.returned (.int .i64 n8)) w4) (
 J1 (IntKind.i64.wrap (n8+1)) w3)) (
 xZN R ds w)
def xJY(R:Rt)(l0:SV)(v1:Value)(n7 n8:Int)(ds:Ds)(w:World):Prop:=
 zQD (λ(J1:(Int)->World->Prop) (s:Int) (w:World)=>xJJ R J1 l0 v1 n7 s ds w) n8 w
def xKu(R:Rt)(l0:SV)(v1:Value)(ds:Ds)(w:World):Prop:=
 xJY R l0 (v1) (l0.len:Int) 0 ds w
theorem F113_p:Pl prog f113 [lS 0,vS 1] xKu:=λR=>
 pc 2 (rest [lS 0,vS 1,iS 7,iS 8] (xJY R) (bk 0 (rest [] (xZN R) lf) (lp [iS 8] [lS 0,vS 1,iS 7,iS 8] (xJJ R) zXY λJ1=>lf)))
theorem yKt (l0:SV) (v1:Value) (w:World) (R:Rt) (h:xKu R l0 v1 [] w):Calls prog 113 #[l0.v,v1] w R:=
 plC F113_p func113 h
def xXI(R:Rt)(aP:ByteArray)(aH aQ:Int)(aR:Bool)(v1:Value)(ds:Ds)(w:World):Prop:=
 alE (.cells #[.string aP,.int .i64 aH,.int .i64 aQ,.bool aR] 129) w λr2 w1=>
 ∃s5,w1.cell? (⟨r2,0,none⟩:Addr)=some (.string s5)/\
 zWF v1 λa2=>
 ∃s6,w1.cell? a2=some (.string s6)/\
 zQc prog ds w1 λw3=>
 R (.returned (.bool (s5.toList == s6.toList))) w3
theorem F114_p:Pl prog f114 [aS 0 [.str,.int .i64,.int .i64,.bool],vS 1] xXI:=λR=>
 lf
theorem yW6 (aP:ByteArray) (aH aQ:Int) (aR:Bool) (v1:Value) (w:World) (R:Rt) (h:xXI R aP aH aQ aR v1 [] w):Calls prog 114 #[.agg #[.string aP,.int .i64 aH,.int .i64 aQ,.bool aR],v1] w R:=
 plC F114_p func114 h
def F82_1(R:Rt)(l0:SV)(s1:ByteArray)(ds:Ds)(w:World):Prop:=
 alE (.cells #[.string s1] 9) w λr3 w1=>
 Calls prog 113 #[l0.v,.func (.func 114) #[] #[.pointer (some (⟨r3,0,none⟩:Addr))]] w1 λe w2=>
 ∃n9:Int,e=.returned (.int .i64 n9)/\
 ∃cS:Int,∃w3,(Builtin.max_ #[3,3] 3 #[.int .i64 n9,.int .i64 0]).run prog w2=.ok (.int .i64 cS) w3/\
 zQc prog ds w3 λw4=>
 R (.returned (.tuple #[.int .i64 cS,.bool (decide (n9 >= 0))])) w4
theorem F82_p:Pl prog f82 [lS 0,sS 1] F82_1:=λR=>
 lf
theorem yVK (l0:SV) (s1:ByteArray) (w:World) (R:Rt) (h:F82_1 R l0 s1 [] w):Calls prog 82 #[l0.v,.string s1] w R:=
 plC F82_p func82 h
end Go.Proofs.YtaeecpjhfmcliaaGreatDoor
/- Shallow texts of functions, printed by program, each checked by the kernel against the loaded code. No condition. -/
namespace Go.Proofs.YtaeecpjhfmcliaaGreatDoor
open Go.Sh Tryz
def xZ9(R:Rt)(ds:Ds)(w:World):Prop:=
 zQc prog ds w λw1=>
 R (.returned (.int .i64 0)) w1
def yVC (R:Rt) (J1:(Int)->World->Prop) (p1:Option Addr) (fC:SV) (mm bF:Int) (ds:Ds) (w:World):Prop:=
 J1 (IntKind.i64.wrap (bF+1)) w
def xKd (R:Rt) (J1:(Int)->World->Prop) (J2:(Int)->World->Prop) (p1 p5:Option Addr) (fC:SV) (mm bF:Int) (dK:SV) (nC db:Int) (ds:Ds) (w:World):Prop:=
 Br (decide (db<nC)) (
 ∃a2,dK.a=some a2/\0<=db/\db<(dK.len:Int)/\
 ∃pa,w.cell? ((a2.add (db.toNat * 4)).add 0)=some (.string pa)/\
 ∃pb,w.cell? ((a2.add (db.toNat * 4)).add 1)=some (.int .i64 pb)/\
 ∃pd,w.cell? ((a2.add (db.toNat * 4)).add 2)=some (.int .i64 pd)/\
 ∃pe,w.cell? ((a2.add (db.toNat * 4)).add 3)=some (.bool pe)/\
 alE (.cells #[.string (⟨#[]⟩:ByteArray),.int .i64 0,.int .i64 0,.bool false] 129) w λr7 w3=>
 stA prog 129 (⟨r7,0,none⟩:Addr) #[.string pa,.int .i64 pb,.int .i64 pd,.bool pe] w3 λw4=>
 dwE w4 λw5=>
 ∃pf,w5.cell? ((⟨r7,0,none⟩:Addr).add 0)=some (.string pf)/\
 ∃ph,w5.cell? ((⟨r7,0,none⟩:Addr).add 1)=some (.int .i64 ph)/\
 ∃pi,w5.cell? ((⟨r7,0,none⟩:Addr).add 2)=some (.int .i64 pi)/\
 ∃pj,w5.cell? ((⟨r7,0,none⟩:Addr).add 3)=some (.bool pj)/\
 zQg p1 λa6=>
 ∃iu,w5.cell? a6=some (.int .i64 iu)/\
 zQg p5 λa7=>
 ∃tw:SV,w5.cell? (a7.add 1)=some (tw.v)/\
 ∃a8,tw.a=some a8/\0<=db/\db<(tw.len:Int)/\
 ∃pk,w5.cell? ((a8.add (db.toNat * 3)).add 0)=some (.int .i64 pk)/\
 ∃j8,w5.cell? ((a8.add (db.toNat * 3)).add 1)=some (.int .i64 j8)/\
 ∃pm,w5.cell? ((a8.add (db.toNat * 3)).add 2)=some (.string pm)/\
 Calls prog 142 #[.agg #[.string pf,.int .i64 ph,.int .i64 pi,.bool pj],.int .i64 iu,.agg #[.int .i64 pk,.int .i64 j8,.string pm]] w5 λe w9=>
 ∃b52:Bool,e=.returned (.bool b52)/\
 Br (!b52) (
 zQc prog ds w9 λaU=>
 R (.returned (.int .i64 1)) aU) (
 J2 (IntKind.i64.wrap (db+1)) w9)) (
 yVC R J1 p1 fC mm bF ds w)
def xKx (R:Rt) (J1:(Int)->World->Prop) (p1 p5:Option Addr) (fC:SV) (mm bF:Int) (dK:SV) (nC db:Int) (ds:Ds) (w:World):Prop:=
 zQD (λ(J2:(Int)->World->Prop) (s:Int) (w:World)=>xKd R J1 J2 p1 p5 fC mm bF dK nC s ds w) db w
def xK5 (R:Rt) (J1:(Int)->World->Prop) (p1:Option Addr) (fC:SV) (mm bF:Int) (ds:Ds) (w:World):Prop:=
 ∃eL,fC.a=some eL/\0<=bF/\bF<(fC.len:Int)/\
 ∃gx,w.cell? ((eL.add (bF.toNat * 2)).add 0)=some (.bool gx)/\
 ∃bp:SV,w.cell? ((eL.add (bF.toNat * 2)).add 1)=some (bp.v)/\
 alE (.cells #[.bool false,.slice none 0 0] 67) w λr5 aX=>
 stA prog 67 (⟨r5,0,none⟩:Addr) #[.bool gx,bp.v] aX λaK=>
 ∃nS:SV,aK.cell? ((⟨r5,0,none⟩:Addr).add 1)=some (nS.v)/\
 zQg p1 λft=>
 ∃gQ:SV,aK.cell? (ft.add 1)=some (gQ.v)/\
 Br ((nS.len:Int) != (gQ.len:Int)) (
 zQc prog ds aK λbC=>
 R (.returned (.int .i64 10)) bC) (
 zQg p1 λjX=>
 ∃dK:SV,aK.cell? (jX.add 1)=some (dK.v)/\
 xKx R J1 p1 (some (⟨r5,0,none⟩:Addr)) fC mm bF dK (dK.len:Int) 0 ds aK)
def xJl (R:Rt) (J1:(Int)->World->Prop) (p1:Option Addr) (fC:SV) (mm bF:Int) (ds:Ds) (w:World):Prop:=
 Br (decide (bF<mm)) (
 xK5 R J1 p1 fC mm bF ds w) (
 xZ9 R ds w)
def xZ1(R:Rt)(p1:Option Addr)(fC:SV)(mm bF:Int)(ds:Ds)(w:World):Prop:=
 zQD (λ(J1:(Int)->World->Prop) (s:Int) (w:World)=>xJl R J1 p1 fC mm s ds w) bF w
def yYh(R:Rt)(aF:Int)(aq ak:SV)(ds:Ds)(w:World):Prop:=
 alE (.cells #[.int .i64 aF,aq.v,ak.v] 35) w λr1 bD=>
 ∃n9,bD.cell? (⟨r1,0,none⟩:Addr)=some (.int .i64 n9)/\
 Calls prog 116 #[.int .i64 n9] bD λe cH=>
 ∃dc:Bool,e=.returned (.bool dc)/\
 Br (!dc) (
 zQc prog ds cH λcR=>
 R (.returned (.int .i64 1)) cR) (
 ∃dN:SV,cH.cell? ((⟨r1,0,none⟩:Addr).add 1)=some (dN.v)/\
 Calls prog 141 #[dN.v] cH λe cP=>
 ∃nD:Int,e=.returned (.int .i64 nD)/\
 Br (nD != 0) (
 zQc prog ds cP λbX=>
 R (.returned (.int .i64 nD)) bX) (
 ∃fH:SV,cP.cell? ((⟨r1,0,none⟩:Addr).add 2)=some (fH.v)/\
 Br (decide ((fH.len:Int) > 300)) (
 zQc prog ds cP λdQ=>
 R (.returned (.int .i64 3)) dQ) (
 ∃fC:SV,cP.cell? ((⟨r1,0,none⟩:Addr).add 2)=some (fC.v)/\
 xZ1 R (some (⟨r1,0,none⟩:Addr)) fC (fC.len:Int) 0 ds cP)))
theorem F106_p:Pl prog f106 [aS 0 [.int .i64,.slice,.slice]] yYh:=λR=>
 pc 9 (rest [pS 1,lS 23,iS 24,iS 25] (xZ1 R) (bk 0 (rest [] (xZ9 R) lf) (lp [iS 25] [pS 1,lS 23,iS 24,iS 25] (xJl R) zXY λJ1=>pc 2 (rest [pS 1,lS 23,iS 24,iS 25] (xK5 R J1) (bk 1 (rest [pS 1,lS 23,iS 24,iS 25] (yVC R J1) lf) (pc 4 (rest [pS 1,pS 5,lS 23,iS 24,iS 25,lS 37,iS 38,iS 39] (xKx R J1) (bk 2 zXY (lp [iS 39] [pS 1,pS 5,lS 23,iS 24,iS 25,lS 37,iS 38,iS 39] (xKd R J1) zXY λJ2=>lf)))))))))
theorem yWv (aF:Int) (aq ak:SV) (w:World) (R:Rt) (h:yYh R aF aq ak [] w):Calls prog 106 #[.agg #[.int .i64 aF,aq.v,ak.v]] w R:=
 plC F106_p func106 h
def xZv(R:Rt)(aP:ByteArray)(aH aQ:Int)(aR:Bool)(n1 fM fN:Int)(fO:ByteArray)(ds:Ds)(w:World):Prop:=
 alE (.cells #[.string aP,.int .i64 aH,.int .i64 aQ,.bool aR] 129) w λr3 w1=>
 alE (.cells #[.int .i64 fM,.int .i64 fN,.string fO] 73) w1 λr5 w2=>
 ∃gb,w2.cell? (⟨r5,0,none⟩:Addr)=some (.int .i64 gb)/\
 Br (gb == 0) (
 ∃lE,w2.cell? ((⟨r3,0,none⟩:Addr).add 3)=some (.bool lE)/\
 Br lE (
 ∃j9,w2.cell? ((⟨r5,0,none⟩:Addr).add 0)=some (.int .i64 j9)/\
 ∃dX,w2.cell? ((⟨r5,0,none⟩:Addr).add 1)=some (.int .i64 dX)/\
 ∃pn,w2.cell? ((⟨r5,0,none⟩:Addr).add 2)=some (.string pn)/\
 ∃rk:Bool,∃w3,(eqS .eql 73 (.tmp 15) (.tmp 16) (.agg #[.int .i64 j9,.int .i64 dX,.string pn]) (.agg #[.int .i64 0,.int .i64 0,.string (⟨#[]⟩:ByteArray)])).run prog w2=.ok (.bool rk) w3/\
 zQc prog ds w3 λw4=>
 R (.returned (.bool rk)) w4) (
 zQc prog ds w2 λw5=>
 R (.returned (.bool false)) w5)) (
 ∃cY,w2.cell? ((⟨r5,0,none⟩:Addr).add 0)=some (.int .i64 cY)/\
 ∃aY,w2.cell? ((⟨r5,0,none⟩:Addr).add 1)=some (.int .i64 aY)/\
 ∃ka,w2.cell? ((⟨r5,0,none⟩:Addr).add 2)=some (.string ka)/\
 Calls prog 117 #[.agg #[.int .i64 cY,.int .i64 aY,.string ka]] w2 λe w6=>
 ∃iQ:Int,e=.returned (.int .i64 iQ)/\
 Br (iQ != 0) (
 zQc prog ds w6 λw7=>
 R (.returned (.bool false)) w7) (
 ∃gy,w6.cell? ((⟨r3,0,none⟩:Addr).add 0)=some (.string gy)/\
 ∃cM,w6.cell? ((⟨r3,0,none⟩:Addr).add 1)=some (.int .i64 cM)/\
 ∃gz,w6.cell? ((⟨r3,0,none⟩:Addr).add 2)=some (.int .i64 gz)/\
 ∃gA,w6.cell? ((⟨r3,0,none⟩:Addr).add 3)=some (.bool gA)/\
 ∃lF,w6.cell? ((⟨r5,0,none⟩:Addr).add 0)=some (.int .i64 lF)/\
 ∃gZ,w6.cell? ((⟨r5,0,none⟩:Addr).add 1)=some (.int .i64 gZ)/\
 ∃po,w6.cell? ((⟨r5,0,none⟩:Addr).add 2)=some (.string po)/\
 Calls prog 83 #[.agg #[.string gy,.int .i64 cM,.int .i64 gz,.bool gA],.int .i64 n1,.agg #[.int .i64 lF,.int .i64 gZ,.string po]] w6 λe w8=>
 ∃lG:Int,∃lH:Int,∃lI:ByteArray,∃fD:Int,e=.returned (.tuple #[.agg #[.int .i64 lG,.int .i64 lH,.string lI],.int .i64 fD])/\
 alE (.cells #[.int .i64 0,.int .i64 0,.string (⟨#[]⟩:ByteArray)] 73) w8 λr7 w9=>
 stA prog 73 (⟨r7,0,none⟩:Addr) #[.int .i64 lG,.int .i64 lH,.string lI] w9 λaU=>
 Br (fD == 0) (
 ∃gB,aU.cell? ((⟨r7,0,none⟩:Addr).add 0)=some (.int .i64 gB)/\
 ∃kb,aU.cell? ((⟨r7,0,none⟩:Addr).add 1)=some (.int .i64 kb)/\
 ∃pq,aU.cell? ((⟨r7,0,none⟩:Addr).add 2)=some (.string pq)/\
 ∃j4,aU.cell? ((⟨r5,0,none⟩:Addr).add 0)=some (.int .i64 j4)/\
 ∃j5,aU.cell? ((⟨r5,0,none⟩:Addr).add 1)=some (.int .i64 j5)/\
 ∃j6,aU.cell? ((⟨r5,0,none⟩:Addr).add 2)=some (.string j6)/\
 ∃vV:Bool,∃aT,(eqS .eql 73 (.tmp 32) (.tmp 33) (.agg #[.int .i64 gB,.int .i64 kb,.string pq]) (.agg #[.int .i64 j4,.int .i64 j5,.string j6])).run prog aU=.ok (.bool vV) aT/\
 zQc prog ds aT λaX=>
 R (.returned (.bool vV)) aX) (
 zQc prog ds aU λaK=>
 R (.returned (.bool false)) aK)))
theorem F142_p:Pl prog f142 [aS 0 [.str,.int .i64,.int .i64,.bool],iS 1,aS 2 [.int .i64,.int .i64,.str]] xZv:=λR=>
 lf
theorem yKY (aP:ByteArray) (aH aQ:Int) (aR:Bool) (n1 fM fN:Int) (fO:ByteArray) (w:World) (R:Rt) (h:xZv R aP aH aQ aR n1 fM fN fO [] w):Calls prog 142 #[.agg #[.string aP,.int .i64 aH,.int .i64 aQ,.bool aR],.int .i64 n1,.agg #[.int .i64 fM,.int .i64 fN,.string fO]] w R:=
 plC F142_p func142 h
def F13_1(R:Rt)(ds:Ds)(w:World):Prop:=
 zQc prog ds w λw1=>
 R (.returned (.int .i64 0)) w1
def F13_2 (R:Rt) (J1:(Int)->World->Prop) (p1:Option Addr) (n4:Int) (ds:Ds) (w:World):Prop:=
 zQg p1 λa2=>
 ∃cI:SV,w.cell? (a2.add 2)=some (cI.v)/\
 Br (decide (n4<(cI.len:Int))) (
 dwE w λw3=>
 zQg p1 λa4=>
 ∃dY:SV,w3.cell? (a4.add 1)=some (dY.v)/\
 zQg p1 λa5=>
 ∃mM,w3.cell? a5=some (.int .i64 mM)/\
 zQg p1 λa6=>
 ∃mB:SV,w3.cell? (a6.add 2)=some (mB.v)/\
 ∃a7,mB.a=some a7/\0<=n4/\n4<(mB.len:Int)/\
 ∃pr,w3.cell? ((a7.add (n4.toNat * 2)).add 0)=some (.bool pr)/\
 ∃dm:SV,w3.cell? ((a7.add (n4.toNat * 2)).add 1)=some (dm.v)/\
 Calls prog 54 #[dY.v,.int .i64 mM,.agg #[.bool pr,dm.v]] w3 λe w8=>
 ∃kT:Int,e=.returned (.int .i64 kT)/\
 Br (kT != 0) (
 zQc prog ds w8 λw9=>
 R (.returned (.int .i64 kT)) w9) (
 J1 (IntKind.i64.wrap (n4+1)) w8)) (
 F13_1 R ds w)
def F13_3(R:Rt)(p1:Option Addr)(n4:Int)(ds:Ds)(w:World):Prop:=
 zQD (λ(J1:(Int)->World->Prop) (s:Int) (w:World)=>F13_2 R J1 p1 s ds w) n4 w
def F13_5(R:Rt)(aF:Int)(aq ak:SV)(ds:Ds)(w:World):Prop:=
 alE (.cells #[.int .i64 aF,aq.v,ak.v] 35) w λr1 aU=>
 ∃n7,aU.cell? (⟨r1,0,none⟩:Addr)=some (.int .i64 n7)/\
 Calls prog 52 #[.int .i64 n7] aU λe aT=>
 ∃b8:Bool,e=.returned (.bool b8)/\
 Br (!b8) (
 zQc prog ds aT λaX=>
 R (.returned (.int .i64 1)) aX) (
 ∃bY:SV,aT.cell? ((⟨r1,0,none⟩:Addr).add 1)=some (bY.v)/\
 Calls prog 53 #[bY.v] aT λe aK=>
 ∃cv:Int,e=.returned (.int .i64 cv)/\
 Br (cv != 0) (
 zQc prog ds aK λbH=>
 R (.returned (.int .i64 cv)) bH) (
 ∃dd:SV,aK.cell? ((⟨r1,0,none⟩:Addr).add 2)=some (dd.v)/\
 Br (decide ((dd.len:Int) > 300)) (
 zQc prog ds aK λbC=>
 R (.returned (.int .i64 3)) bC) (
 F13_3 R (some (⟨r1,0,none⟩:Addr)) 0 ds aK)))
theorem F13_p:Pl prog f13 [aS 0 [.int .i64,.slice,.slice]] F13_5:=λR=>
 pc 9 (rest [pS 1,iS 4] (F13_3 R) (bk 0 (rest [] (F13_1 R) lf) (lp [iS 4] [pS 1,iS 4] (F13_2 R) zXY λJ1=>lf)))
theorem yVU (aF:Int) (aq ak:SV) (w:World) (R:Rt) (h:F13_5 R aF aq ak [] w):Calls prog 13 #[.agg #[.int .i64 aF,aq.v,ak.v]] w R:=
 plC F13_p func13 h
def F54_1(R:Rt)(ds:Ds)(w:World):Prop:=
 zQc prog ds w λw1=>
 R (.returned (.int .i64 0)) w1
def F54_2 (R:Rt) (J1:(Int)->World->Prop) (l0:SV) (n1:Int) (p5:Option Addr) (n7:Int) (ds:Ds) (w:World):Prop:=
 Br (decide (n7<(l0.len:Int))) (
 dwE w λw2=>
 ∃a3,l0.a=some a3/\0<=n7/\n7<(l0.len:Int)/\
 ∃gy,w2.cell? ((a3.add (n7.toNat * 4)).add 0)=some (.string gy)/\
 ∃cM,w2.cell? ((a3.add (n7.toNat * 4)).add 1)=some (.int .i64 cM)/\
 ∃gz,w2.cell? ((a3.add (n7.toNat * 4)).add 2)=some (.int .i64 gz)/\
 ∃gA,w2.cell? ((a3.add (n7.toNat * 4)).add 3)=some (.bool gA)/\
 zQg p5 λa4=>
 ∃dI:SV,w2.cell? (a4.add 1)=some (dI.v)/\
 ∃a5,dI.a=some a5/\0<=n7/\n7<(dI.len:Int)/\
 ∃cB,w2.cell? ((a5.add (n7.toNat * 3)).add 0)=some (.int .i64 cB)/\
 ∃ke,w2.cell? ((a5.add (n7.toNat * 3)).add 1)=some (.int .i64 ke)/\
 ∃pv,w2.cell? ((a5.add (n7.toNat * 3)).add 2)=some (.string pv)/\
 Calls prog 93 #[.agg #[.string gy,.int .i64 cM,.int .i64 gz,.bool gA],.int .i64 n1,.agg #[.int .i64 cB,.int .i64 ke,.string pv]] w2 λe w6=>
 ∃oT:Bool,e=.returned (.bool oT)/\
 Br (!oT) (
 zQc prog ds w6 λw7=>
 R (.returned (.int .i64 1)) w7) (
 J1 (IntKind.i64.wrap (n7+1)) w6)) (
 F54_1 R ds w)
def F54_3(R:Rt)(l0:SV)(n1:Int)(p5:Option Addr)(n7:Int)(ds:Ds)(w:World):Prop:=
 zQD (λ(J1:(Int)->World->Prop) (s:Int) (w:World)=>F54_2 R J1 l0 n1 p5 s ds w) n7 w
def F54_5(R:Rt)(l0:SV)(n1:Int)(nT:Bool)(kf:SV)(ds:Ds)(w:World):Prop:=
 alE (.cells #[.bool nT,kf.v] 67) w λr5 w8=>
 ∃l9:SV,w8.cell? ((⟨r5,0,none⟩:Addr).add 1)=some (l9.v)/\
 Br ((l9.len:Int) != (l0.len:Int)) (
 zQc prog ds w8 λw9=>
 R (.returned (.int .i64 10)) w9) (
 F54_3 R l0 n1 (some (⟨r5,0,none⟩:Addr)) 0 ds w8)
theorem F54_p:Pl prog f54 [lS 0,iS 1,aS 2 [.bool,.slice]] F54_5:=λR=>
 pc 4 (rest [lS 0,iS 1,pS 5,iS 7] (F54_3 R) (bk 0 (rest [] (F54_1 R) lf) (lp [iS 7] [lS 0,iS 1,pS 5,iS 7] (F54_2 R) zXY λJ1=>lf)))
theorem yYk (l0:SV) (n1:Int) (nT:Bool) (kf:SV) (w:World) (R:Rt) (h:F54_5 R l0 n1 nT kf [] w):Calls prog 54 #[l0.v,.int .i64 n1,.agg #[.bool nT,kf.v]] w R:=
 plC F54_p func54 h
end Go.Proofs.YtaeecpjhfmcliaaGreatDoor
/- Shallow texts of functions, printed by program, each checked by the kernel against the loaded code. No condition. -/
namespace Go.Proofs.YtaeecpjhfmcliaaGreatDoor
open Go.Sh Tryz
def xK7(R:Rt)(aF:Int)(aq ak:SV)(ds:Ds)(w:World):Prop:=
 alE (.cells #[.int .i64 aF,aq.v,ak.v] 35) w λr1 w1=>
 ∃hH,w1.cell? ((⟨r1,0,none⟩:Addr).add 0)=some (.int .i64 hH)/\
 ∃dp:SV,w1.cell? ((⟨r1,0,none⟩:Addr).add 1)=some (dp.v)/\
 ∃cw:SV,w1.cell? ((⟨r1,0,none⟩:Addr).add 2)=some (cw.v)/\
 Calls prog 106 #[.agg #[.int .i64 hH,dp.v,cw.v]] w1 λe w2=>
 ∃n6:Int,e=.returned (.int .i64 n6)/\
 Br (n6 != 0) (
 zQc prog ds w2 λw3=>
 R (.returned (.tuple #[.slice none 0 0,.int .i64 n6])) w3) (
 ∃gC,w2.cell? ((⟨r1,0,none⟩:Addr).add 0)=some (.int .i64 gC)/\
 ∃bZ:SV,w2.cell? ((⟨r1,0,none⟩:Addr).add 1)=some (bZ.v)/\
 ∃cb:SV,w2.cell? ((⟨r1,0,none⟩:Addr).add 2)=some (cb.v)/\
 Calls prog 157 #[.agg #[.int .i64 gC,bZ.v,cb.v]] w2 λe w4=>
 ∃bY:SV,e=.returned (bY.v)/\
 zQc prog ds w4 λw5=>
 R (.returned (.tuple #[bY.v,.int .i64 0])) w5)
theorem F165_p:Pl prog f165 [aS 0 [.int .i64,.slice,.slice]] xK7:=λR=>
 lf
theorem yWt (aF:Int) (aq ak:SV) (w:World) (R:Rt) (h:xK7 R aF aq ak [] w):Calls prog 165 #[.agg #[.int .i64 aF,aq.v,ak.v]] w R:=
 plC F165_p func165 h
def xJU(R:Rt)(l3:SV)(ds:Ds)(w:World):Prop:=
 alE (.cells #[.int .u8 13] 5) w λr65 w1=>
 ∃sw:SV,∃w2,(Builtin.append_ #[22,22] 22 #[l3.v,.slice (some ⟨r65,0,none⟩) 1 1]).run prog w1=.ok (sw.v) w2/\
 zQc prog ds w2 λw3=>
 R (.returned (sw.v)) w3
def xZl (R:Rt) (J1:(SV × Int)->World->Prop) (l3 dK:SV) (nC db:Int) (ds:Ds) (w:World):Prop:=
 Br (decide (db<nC)) (
 ∃a4,dK.a=some a4/\0<=db/\db<(dK.len:Int)/\
 ∃pw,w.cell? ((a4.add (db.toNat * 4)).add 0)=some (.string pw)/\
 ∃py,w.cell? ((a4.add (db.toNat * 4)).add 1)=some (.int .i64 py)/\
 ∃pz,w.cell? ((a4.add (db.toNat * 4)).add 2)=some (.int .i64 pz)/\
 ∃pA,w.cell? ((a4.add (db.toNat * 4)).add 3)=some (.bool pA)/\
 alE (.cells #[.string (⟨#[]⟩:ByteArray),.int .i64 0,.int .i64 0,.bool false] 129) w λr5 w5=>
 stA prog 129 (⟨r5,0,none⟩:Addr) #[.string pw,.int .i64 py,.int .i64 pz,.bool pA] w5 λw6=>
 alE (.cells #[.int .u8 0,.int .u8 0,.int .u8 0,.int .u8 0,.int .u8 0,.int .u8 0,.int .u8 0,.int .u8 0,.int .u8 0,.int .u8 0,.int .u8 0,.int .u8 0,.int .u8 0,.int .u8 0,.int .u8 0,.int .u8 0] 227) w6 λr6 w7=>
 dwE w7 λw8=>
 ∃S1:World->Prop,S1 w8/\
 ∃s45,(∀w',S1 w'->w'.cell? (⟨r5,0,none⟩:Addr)=some (.string s45))/\
 ∃jZ:SV,∃w9,(Instr.sliceAt 227 (.pointer (some (⟨r6,0,none⟩:Addr))) none (some (.int .i64 10)) (some (.int .i64 10))).run prog w8=.ok (jZ.v) w9/\
 S1 w9/\
 ∃iu:Int,∃aU,(Builtin.copy_ #[22,9] 3 #[jZ.v,.string s45]).run prog w9=.ok (.int .i64 iu) aU/\
 dwE aU λaT=>
 ∃S2:World->Prop,S2 aT/\
 ∃oM,(∀w',S2 w'->w'.cell? ((⟨r5,0,none⟩:Addr).add 1)=some (.int .i64 oM))/\
 ∃iT,(∀w',S2 w'->w'.cell? ((⟨r5,0,none⟩:Addr).add 2)=some (.int .i64 iT))/\
 Calls prog 145 #[] aT λe aX=>
 ∃m47:Option Nat,e=.returned (.map m47)/\
 ∃S3:World->Prop,S3 aX/\(∀u,S3 u->S2 u)/\
 ∃iV:Int,∃tx:Int,∃tz:Int,∃tA:Value,∃tB:Value,(∀w',S3 w'->(Instr.lookup 176 (.map m47) (.int .i64 oM) false).run prog w'=.ok (.agg #[.int .u8 iV,.int .i64 tx,.int .i64 tz,tA,tB]) w')/\
 0<=(10:Int)/\(10:Int)<(16:Int)/\
 st1 ((⟨r6,0,none⟩:Addr).add ((10:Int).toNat * 1)) (.int .u8 iV) aX λaK=>
 ∃S4:World->Prop,S4 aK/\(∀u,S4 u->S3 u)/\
 0<=(11:Int)/\(11:Int)<(16:Int)/\
 st1 ((⟨r6,0,none⟩:Addr).add ((11:Int).toNat * 1)) (.int .u8 (IntKind.u8.wrap iT)) aK λbH=>
 ∃b58,bH.cell? ((⟨r5,0,none⟩:Addr).add 3)=some (.bool b58)/\
 Br b58 (
 0<=(12:Int)/\(12:Int)<(16:Int)/\
 st1 ((⟨r6,0,none⟩:Addr).add ((12:Int).toNat * 1)) (.int .u8 1) bH λbC=>
 16<=16/\0<=16/\
 ∃iA:SV,∃bT,(Builtin.append_ #[22,22] 22 #[l3.v,.slice (some (if 16=0 then(⟨r6,0,none⟩:Addr)else(⟨r6,0,none⟩:Addr).add (0 * 1))) (16 - 0) (16 - 0)]).run prog bC=.ok (iA.v) bT/\
 J1 (iA,(IntKind.i64.wrap (db+1))) bT) (
 16<=16/\0<=16/\
 ∃iA:SV,∃bD,(Builtin.append_ #[22,22] 22 #[l3.v,.slice (some (if 16=0 then(⟨r6,0,none⟩:Addr)else(⟨r6,0,none⟩:Addr).add (0 * 1))) (16 - 0) (16 - 0)]).run prog bH=.ok (iA.v) bD/\
 J1 (iA,(IntKind.i64.wrap (db+1))) bD)) (
 xJU R l3 ds w)
def yXl(R:Rt)(l3 dK:SV)(nC db:Int)(ds:Ds)(w:World):Prop:=
 zQD (λ(J1:(SV × Int)->World->Prop) (s:SV × Int) (w:World)=>xZl R J1 s.1 dK nC s.2 ds w) (l3,db) w
def xXU(R:Rt)(aF:Int)(aq ak:SV)(ds:Ds)(w:World):Prop:=
 alE (.cells #[.int .i64 aF,aq.v,ak.v] 35) w λr1 cH=>
 dwE cH λcR=>
 ∃S5:World->Prop,S5 cR/\
 ∃n8,(∀w',S5 w'->w'.cell? (⟨r1,0,none⟩:Addr)=some (.int .i64 n8))/\
 ∃iB:SV,(∀w',S5 w'->w'.cell? ((⟨r1,0,none⟩:Addr).add 2)=some (iB.v))/\
 (
 alE (.cells #[.int .u8 67,.int .u8 (IntKind.u8.wrap n8)] 5) cR λcC cP=>
 S5 cP/\
 Calls prog 202 #[.int .i64 (iB.len:Int),.int .i64 4] cP λe bX=>
 ∃bN:SV,e=.returned (bN.v)/\
 S5 bX/\
 ∃de:SV,∃dQ,(Builtin.append_ #[22,22] 22 #[.slice (some ⟨cC,0,none⟩) 2 2,bN.v]).run prog bX=.ok (de.v) dQ/\
 ∃cJ:SV,dQ.cell? ((⟨r1,0,none⟩:Addr).add 1)=some (cJ.v)/\
 Calls prog 159 #[.int .i64 (cJ.len:Int)] dQ λe dM=>
 ∃iQ:Int,e=.returned (.int .i64 iQ)/\
 Calls prog 202 #[.int .i64 iQ,.int .i64 2] dM λe dP=>
 ∃cQ:SV,e=.returned (cQ.v)/\
 ∃cI:SV,∃gK,(Builtin.append_ #[22,22] 22 #[de.v,cQ.v]).run prog dP=.ok (cI.v) gK/\
 ∃cZ:SV,gK.cell? ((⟨r1,0,none⟩:Addr).add 1)=some (cZ.v)/\
 Calls prog 161 #[cZ.v] gK λe fy=>
 ∃bE:Int,e=.returned (.int .i64 bE)/\
 Calls prog 202 #[.int .i64 bE,.int .i64 2] fy λe gR=>
 ∃bG:SV,e=.returned (bG.v)/\
 ∃dY:SV,∃df,(Builtin.append_ #[22,22] 22 #[cI.v,bG.v]).run prog gR=.ok (dY.v) df/\
 ∃fL:SV,df.cell? ((⟨r1,0,none⟩:Addr).add 1)=some (fL.v)/\
 alE (.cells #[.int .u8 (IntKind.u8.wrap (fL.len:Int)),.int .u8 0] 5) df λtC gI=>
 ∃iC:SV,∃hM,(Builtin.append_ #[22,22] 22 #[dY.v,.slice (some ⟨tC,0,none⟩) 2 2]).run prog gI=.ok (iC.v) hM/\
 ∃dK:SV,hM.cell? ((⟨r1,0,none⟩:Addr).add 1)=some (dK.v)/\
 yXl R iC dK (dK.len:Int) 0 ds hM)/\(
 Calls prog 202 #[.int .i64 (iB.len:Int),.int .i64 4] cR λe fX=>
 ∃bN:SV,e=.returned (bN.v)/\
 S5 fX/\
 alE (.cells #[.int .u8 67,.int .u8 (IntKind.u8.wrap n8)] 5) fX λcC fY=>
 S5 fY/\
 ∃de:SV,∃ga,(Builtin.append_ #[22,22] 22 #[.slice (some ⟨cC,0,none⟩) 2 2,bN.v]).run prog fY=.ok (de.v) ga/\
 ∃cJ:SV,ga.cell? ((⟨r1,0,none⟩:Addr).add 1)=some (cJ.v)/\
 Calls prog 159 #[.int .i64 (cJ.len:Int)] ga λe fA=>
 ∃iQ:Int,e=.returned (.int .i64 iQ)/\
 Calls prog 202 #[.int .i64 iQ,.int .i64 2] fA λe kU=>
 ∃cQ:SV,e=.returned (cQ.v)/\
 ∃cI:SV,∃tD,(Builtin.append_ #[22,22] 22 #[de.v,cQ.v]).run prog kU=.ok (cI.v) tD/\
 ∃cZ:SV,tD.cell? ((⟨r1,0,none⟩:Addr).add 1)=some (cZ.v)/\
 Calls prog 161 #[cZ.v] tD λe nE=>
 ∃bE:Int,e=.returned (.int .i64 bE)/\
 Calls prog 202 #[.int .i64 bE,.int .i64 2] nE λe kZ=>
 ∃bG:SV,e=.returned (bG.v)/\
 ∃dY:SV,∃iy,(Builtin.append_ #[22,22] 22 #[cI.v,bG.v]).run prog kZ=.ok (dY.v) iy/\
 ∃fL:SV,iy.cell? ((⟨r1,0,none⟩:Addr).add 1)=some (fL.v)/\
 alE (.cells #[.int .u8 (IntKind.u8.wrap (fL.len:Int)),.int .u8 0] 5) iy λtC nU=>
 ∃iC:SV,∃nF,(Builtin.append_ #[22,22] 22 #[dY.v,.slice (some ⟨tC,0,none⟩) 2 2]).run prog nU=.ok (iC.v) nF/\
 ∃dK:SV,nF.cell? ((⟨r1,0,none⟩:Addr).add 1)=some (dK.v)/\
 yXl R iC dK (dK.len:Int) 0 ds nF)
theorem F157_p:Pl prog f157 [aS 0 [.int .i64,.slice,.slice]] xXU:=λR=>
 pc 6 (rest [lS 3,lS 37,iS 38,iS 39] (yXl R) (bk 0 (rest [lS 3] (xJU R) lf) (lp [lS 3,iS 39] [lS 3,lS 37,iS 38,iS 39] (xZl R) zXY λJ1=>lf)))
theorem yK4 (aF:Int) (aq ak:SV) (w:World) (R:Rt) (h:xXU R aF aq ak [] w):Calls prog 157 #[.agg #[.int .i64 aF,aq.v,ak.v]] w R:=
 plC F157_p func157 h
def xJw(R:Rt)(l5:SV)(ds:Ds)(w:World):Prop:=
 zQc prog ds w λw1=>
 R (.returned (l5.v)) w1
def xZe (R:Rt) (J1:(Int × SV × Int)->World->Prop) (n0:Int) (l5:SV) (n6 n7:Int) (ds:Ds) (w:World):Prop:=
 Br (decide (n7<n6)) (
 alE (.cells #[.int .u8 (IntKind.u8.wrap n0)] 5) w λjW w2=>
 ∃dN:SV,∃w3,(Builtin.append_ #[22,22] 22 #[l5.v,.slice (some ⟨jW,0,none⟩) 1 1]).run prog w2=.ok (dN.v) w3/\
 0<=(8:Int)/\
 J1 ((n0.fdiv (2 ^ 8)),dN,(IntKind.i64.wrap (n7+1))) w3) (
 xJw R l5 ds w)
def xJE(R:Rt)(n0:Int)(l5:SV)(n6 n7:Int)(ds:Ds)(w:World):Prop:=
 zQD (λ(J1:(Int × SV × Int)->World->Prop) (s:Int × SV × Int) (w:World)=>xZe R J1 s.1 s.2.1 n6 s.2.2 ds w) (n0,l5,n7) w
def xJ5(R:Rt)(n0 n1:Int)(ds:Ds)(w:World):Prop:=
 xJE R n0 ⟨none,0,0⟩ n1 0 ds w
theorem F202_p:Pl prog f202 [iS 0,iS 1] xJ5:=λR=>
 pc 3 (rest [iS 0,lS 5,iS 6,iS 7] (xJE R) (bk 0 (rest [lS 5] (xJw R) lf) (lp [iS 0,lS 5,iS 7] [iS 0,lS 5,iS 6,iS 7] (xZe R) zXY λJ1=>lf)))
theorem yWf (n0 n1:Int) (w:World) (R:Rt) (h:xJ5 R n0 n1 [] w):Calls prog 202 #[.int .i64 n0,.int .i64 n1] w R:=
 plC F202_p func202 h
def xJk(R:Rt)(n0:Int)(ds:Ds)(w:World):Prop:=
 zQc prog ds w λw1=>
 R (.returned (.int .i64 (IntKind.i64.wrap ((13:Int)+(IntKind.i64.wrap ((16:Int) * n0)))))) w1
theorem F159_p:Pl prog f159 [iS 0] xJk:=λR=>
 lf
theorem yJO (n0:Int) (w:World) (R:Rt) (h:xJk R n0 [] w):Calls prog 159 #[.int .i64 n0] w R:=
 plC F159_p func159 h
end Go.Proofs.YtaeecpjhfmcliaaGreatDoor
/- Shallow texts of functions, printed by program, each checked by the kernel against the loaded code. No condition. -/
namespace Go.Proofs.YtaeecpjhfmcliaaGreatDoor
open Go.Sh Tryz
def xZZ(R:Rt)(aF:Int)(aq ak:SV)(n1:Int)(ds:Ds)(w:World):Prop:=
 alE (.cells #[.int .i64 aF,aq.v,ak.v] 35) w λr2 w1=>
 ∃dk,w1.cell? ((⟨r2,0,none⟩:Addr).add 0)=some (.int .i64 dk)/\
 ∃cx:SV,w1.cell? ((⟨r2,0,none⟩:Addr).add 1)=some (cx.v)/\
 ∃bO:SV,w1.cell? ((⟨r2,0,none⟩:Addr).add 2)=some (bO.v)/\
 Calls prog 106 #[.agg #[.int .i64 dk,cx.v,bO.v]] w1 λe w2=>
 ∃n8:Int,e=.returned (.int .i64 n8)/\
 Br (n8 != 0) (
 zQc prog ds w2 λw3=>
 R (.returned (.tuple #[.slice none 0 0,.int .i64 n8])) w3) (
 Br (decide (n1<1)) (
 zQc prog ds w2 λw4=>
 R (.returned (.tuple #[.slice none 0 0,.int .i64 4])) w4) (
 ∃dd:SV,w2.cell? ((⟨r2,0,none⟩:Addr).add 2)=some (dd.v)/\
 Br (decide (n1 > (dd.len:Int))) (
 zQc prog ds w2 λw5=>
 R (.returned (.tuple #[.slice none 0 0,.int .i64 4])) w5) (
 dwE w2 λw6=>
 ∃cI:SV,w6.cell? ((⟨r2,0,none⟩:Addr).add 1)=some (cI.v)/\
 ∃bW:SV,w6.cell? ((⟨r2,0,none⟩:Addr).add 2)=some (bW.v)/\
 ∃a7,bW.a=some a7/\0<=(IntKind.i64.wrap (n1 - 1))/\(IntKind.i64.wrap (n1 - 1))<(bW.len:Int)/\
 ∃gx,w6.cell? ((a7.add ((IntKind.i64.wrap (n1 - 1)).toNat * 2)).add 0)=some (.bool gx)/\
 ∃bp:SV,w6.cell? ((a7.add ((IntKind.i64.wrap (n1 - 1)).toNat * 2)).add 1)=some (bp.v)/\
 Calls prog 158 #[cI.v,.agg #[.bool gx,bp.v]] w6 λe w8=>
 ∃fZ:SV,e=.returned (fZ.v)/\
 zQc prog ds w8 λw9=>
 R (.returned (.tuple #[fZ.v,.int .i64 0])) w9)))
theorem F144_p:Pl prog f144 [aS 0 [.int .i64,.slice,.slice],iS 1] xZZ:=λR=>
 lf
theorem yWj (aF:Int) (aq ak:SV) (n1:Int) (w:World) (R:Rt) (h:xZZ R aF aq ak n1 [] w):Calls prog 144 #[.agg #[.int .i64 aF,aq.v,ak.v],.int .i64 n1] w R:=
 plC F144_p func144 h
def xXV(R:Rt)(l5 l6:SV)(p7:Option Addr)(ds:Ds)(w:World):Prop:=
 ∃nV:SV,∃w1,(Builtin.append_ #[22,22] 22 #[l5.v,l6.v]).run prog w=.ok (nV.v) w1/\
 Calls prog 201 #[.pointer p7] w1 λe w2=>
 ∃s69:ByteArray,e=.returned (.string s69)/\
 ∃jM:SV,∃w3,(Builtin.append_ #[22,9] 22 #[nV.v,.string s69]).run prog w2=.ok (jM.v) w3/\
 zQc prog ds w3 λw4=>
 R (.returned (jM.v)) w4
def xKL (R:Rt) (J1:(Int × Int)->World->Prop) (p3:Option Addr) (l5 l6:SV) (p7:Option Addr) (n8:Int) (dZ:SV) (jI cq:Int) (ds:Ds) (w:World):Prop:=
 Br (decide (cq<jI)) (
 ∃a5,dZ.a=some a5/\0<=cq/\cq<(dZ.len:Int)/\
 ∃pB,w.cell? ((a5.add (cq.toNat * 4)).add 0)=some (.string pB)/\
 ∃fD,w.cell? ((a5.add (cq.toNat * 4)).add 1)=some (.int .i64 fD)/\
 ∃pC,w.cell? ((a5.add (cq.toNat * 4)).add 2)=some (.int .i64 pC)/\
 ∃pD,w.cell? ((a5.add (cq.toNat * 4)).add 3)=some (.bool pD)/\
 alE (.cells #[.string (⟨#[]⟩:ByteArray),.int .i64 0,.int .i64 0,.bool false] 129) w λcC w6=>
 stA prog 129 (⟨cC,0,none⟩:Addr) #[.string pB,.int .i64 fD,.int .i64 pC,.bool pD] w6 λw7=>
 zQg p3 λa8=>
 ∃dY:SV,w7.cell? (a8.add 1)=some (dY.v)/\
 ∃a9,dY.a=some a9/\0<=cq/\cq<(dY.len:Int)/\
 ∃cD,w7.cell? ((a9.add (cq.toNat * 3)).add 0)=some (.int .i64 cD)/\
 ∃d7,w7.cell? ((a9.add (cq.toNat * 3)).add 1)=some (.int .i64 d7)/\
 ∃kg,w7.cell? ((a9.add (cq.toNat * 3)).add 2)=some (.string kg)/\
 alE (.cells #[.int .i64 0,.int .i64 0,.string (⟨#[]⟩:ByteArray)] 73) w7 λbU aU=>
 stA prog 73 (⟨bU,0,none⟩:Addr) #[.int .i64 cD,.int .i64 d7,.string kg] aU λaT=>
 ∃b33,aT.cell? ((⟨cC,0,none⟩:Addr).add 3)=some (.bool b33)/\
 Br b33 (
 ∃oL,aT.cell? (⟨bU,0,none⟩:Addr)=some (.int .i64 oL)/\
 Br (oL == 0) (
 dwE aT λaX=>
 IntKind.i64=IntKind.i64/\(8:Int) ≠ 0/\
 ∃mx,l6.a=some mx/\0<=(IntKind.i64.wrap (n8.tdiv 8))/\(IntKind.i64.wrap (n8.tdiv 8))<(l6.len:Int)/\
 ∃j2,aX.cell? (mx.add ((IntKind.i64.wrap (n8.tdiv 8)).toNat * 1))=some (.int .u8 j2)/\
 IntKind.i64=IntKind.i64/\(8:Int) ≠ 0/\
 0<=(n8.tmod 8)/\
 ∃ft,l6.a=some ft/\0<=(IntKind.i64.wrap (n8.tdiv 8))/\(IntKind.i64.wrap (n8.tdiv 8))<(l6.len:Int)/\
 st1 (ft.add ((IntKind.i64.wrap (n8.tdiv 8)).toNat * 1)) (.int .u8 (IntKind.u8.wrap ((BitVec.ofInt 8 j2 ||| BitVec.ofInt 8 (IntKind.u8.wrap ((1:Int) * 2 ^ (min (n8.tmod 8).toNat 8)))).toNat:Nat))) aX λbC=>
 ∃mN,bC.cell? (⟨bU,0,none⟩:Addr)=some (.int .i64 mN)/\
 Br (mN == 0) (
 ∃iT,bC.cell? ((⟨cC,0,none⟩:Addr).add 2)=some (.int .i64 iT)/\
 Calls prog 155 #[.string (⟨#[32]⟩:ByteArray),.int .i64 iT] bC λe bT=>
 ∃lB:ByteArray,e=.returned (.string lB)/\
 Calls prog 199 #[.pointer p7,.string lB] bT λe bD=>
 ∃hZ:Int,∃ia:Value,e=.returned (.tuple #[.int .i64 hZ,ia])/\
 J1 ((IntKind.i64.wrap (n8+1)),(IntKind.i64.wrap (cq+1))) bD) (
 dwE bC λcH=>
 ∃S2:World->Prop,S2 cH/\
 ∃mO,(∀w',S2 w'->w'.cell? ((⟨cC,0,none⟩:Addr).add 1)=some (.int .i64 mO))/\
 ∃d8,(∀w',S2 w'->w'.cell? ((⟨cC,0,none⟩:Addr).add 0)=some (.string d8))/\
 ∃eb,(∀w',S2 w'->w'.cell? ((⟨cC,0,none⟩:Addr).add 1)=some (.int .i64 eb))/\
 ∃ed,(∀w',S2 w'->w'.cell? ((⟨cC,0,none⟩:Addr).add 2)=some (.int .i64 ed))/\
 ∃eg,(∀w',S2 w'->w'.cell? ((⟨cC,0,none⟩:Addr).add 3)=some (.bool eg))/\
 ∃cE,(∀w',S2 w'->w'.cell? ((⟨bU,0,none⟩:Addr).add 0)=some (.int .i64 cE))/\
 ∃ei,(∀w',S2 w'->w'.cell? ((⟨bU,0,none⟩:Addr).add 1)=some (.int .i64 ei))/\
 ∃ej,(∀w',S2 w'->w'.cell? ((⟨bU,0,none⟩:Addr).add 2)=some (.string ej))/\
 Calls prog 145 #[] cH λe cR=>
 ∃mP:Option Nat,e=.returned (.map mP)/\
 ∃S3:World->Prop,S3 cR/\(∀u,S3 u->S2 u)/\
 ∃ib:Int,∃fE:Int,∃fF:Int,∃eo:Value,∃ic:Value,(∀w',S3 w'->(Instr.lookup 176 (.map mP) (.int .i64 mO) false).run prog w'=.ok (.agg #[.int .u8 ib,.int .i64 fE,.int .i64 fF,eo,ic]) w')/\
 fnE eo λf63 first63 ie=>
 zQv prog f63=true/\Calls prog f63 (first63.toList ++ (([.agg #[.string d8,.int .i64 eb,.int .i64 ed,.bool eg],.agg #[.int .i64 cE,.int .i64 ei,.string ej]]:List Value) ++ ie.toList)).toArray cR λe cP=>
 ∃mQ:ByteArray,e=.returned (.string mQ)/\
 Calls prog 199 #[.pointer p7,.string mQ] cP λe bX=>
 ∃ig:Int,∃ii:Value,e=.returned (.tuple #[.int .i64 ig,ii])/\
 J1 ((IntKind.i64.wrap (n8+1)),(IntKind.i64.wrap (cq+1))) bX)) (
 ∃mN,aT.cell? (⟨bU,0,none⟩:Addr)=some (.int .i64 mN)/\
 Br (mN == 0) (
 ∃iT,aT.cell? ((⟨cC,0,none⟩:Addr).add 2)=some (.int .i64 iT)/\
 Calls prog 155 #[.string (⟨#[32]⟩:ByteArray),.int .i64 iT] aT λe dQ=>
 ∃lB:ByteArray,e=.returned (.string lB)/\
 Calls prog 199 #[.pointer p7,.string lB] dQ λe dM=>
 ∃hZ:Int,∃ia:Value,e=.returned (.tuple #[.int .i64 hZ,ia])/\
 J1 ((IntKind.i64.wrap (n8+1)),(IntKind.i64.wrap (cq+1))) dM) (
 dwE aT λdP=>
 ∃S4:World->Prop,S4 dP/\
 ∃mO,(∀w',S4 w'->w'.cell? ((⟨cC,0,none⟩:Addr).add 1)=some (.int .i64 mO))/\
 ∃d8,(∀w',S4 w'->w'.cell? ((⟨cC,0,none⟩:Addr).add 0)=some (.string d8))/\
 ∃eb,(∀w',S4 w'->w'.cell? ((⟨cC,0,none⟩:Addr).add 1)=some (.int .i64 eb))/\
 ∃ed,(∀w',S4 w'->w'.cell? ((⟨cC,0,none⟩:Addr).add 2)=some (.int .i64 ed))/\
 ∃eg,(∀w',S4 w'->w'.cell? ((⟨cC,0,none⟩:Addr).add 3)=some (.bool eg))/\
 ∃cE,(∀w',S4 w'->w'.cell? ((⟨bU,0,none⟩:Addr).add 0)=some (.int .i64 cE))/\
 ∃ei,(∀w',S4 w'->w'.cell? ((⟨bU,0,none⟩:Addr).add 1)=some (.int .i64 ei))/\
 ∃ej,(∀w',S4 w'->w'.cell? ((⟨bU,0,none⟩:Addr).add 2)=some (.string ej))/\
 Calls prog 145 #[] dP λe gK=>
 ∃mP:Option Nat,e=.returned (.map mP)/\
 ∃S5:World->Prop,S5 gK/\(∀u,S5 u->S4 u)/\
 ∃ib:Int,∃fE:Int,∃fF:Int,∃eo:Value,∃ic:Value,(∀w',S5 w'->(Instr.lookup 176 (.map mP) (.int .i64 mO) false).run prog w'=.ok (.agg #[.int .u8 ib,.int .i64 fE,.int .i64 fF,eo,ic]) w')/\
 fnE eo λf63 first63 ie=>
 zQv prog f63=true/\Calls prog f63 (first63.toList ++ (([.agg #[.string d8,.int .i64 eb,.int .i64 ed,.bool eg],.agg #[.int .i64 cE,.int .i64 ei,.string ej]]:List Value) ++ ie.toList)).toArray gK λe fy=>
 ∃mQ:ByteArray,e=.returned (.string mQ)/\
 Calls prog 199 #[.pointer p7,.string mQ] fy λe gR=>
 ∃ig:Int,∃ii:Value,e=.returned (.tuple #[.int .i64 ig,ii])/\
 J1 ((IntKind.i64.wrap (n8+1)),(IntKind.i64.wrap (cq+1))) gR))) (
 ∃mN,aT.cell? (⟨bU,0,none⟩:Addr)=some (.int .i64 mN)/\
 Br (mN == 0) (
 ∃iT,aT.cell? ((⟨cC,0,none⟩:Addr).add 2)=some (.int .i64 iT)/\
 Calls prog 155 #[.string (⟨#[32]⟩:ByteArray),.int .i64 iT] aT λe df=>
 ∃lB:ByteArray,e=.returned (.string lB)/\
 Calls prog 199 #[.pointer p7,.string lB] df λe gI=>
 ∃hZ:Int,∃ia:Value,e=.returned (.tuple #[.int .i64 hZ,ia])/\
 J1 (n8,(IntKind.i64.wrap (cq+1))) gI) (
 dwE aT λhM=>
 ∃S6:World->Prop,S6 hM/\
 ∃mO,(∀w',S6 w'->w'.cell? ((⟨cC,0,none⟩:Addr).add 1)=some (.int .i64 mO))/\
 ∃d8,(∀w',S6 w'->w'.cell? ((⟨cC,0,none⟩:Addr).add 0)=some (.string d8))/\
 ∃eb,(∀w',S6 w'->w'.cell? ((⟨cC,0,none⟩:Addr).add 1)=some (.int .i64 eb))/\
 ∃ed,(∀w',S6 w'->w'.cell? ((⟨cC,0,none⟩:Addr).add 2)=some (.int .i64 ed))/\
 ∃eg,(∀w',S6 w'->w'.cell? ((⟨cC,0,none⟩:Addr).add 3)=some (.bool eg))/\
 ∃cE,(∀w',S6 w'->w'.cell? ((⟨bU,0,none⟩:Addr).add 0)=some (.int .i64 cE))/\
 ∃ei,(∀w',S6 w'->w'.cell? ((⟨bU,0,none⟩:Addr).add 1)=some (.int .i64 ei))/\
 ∃ej,(∀w',S6 w'->w'.cell? ((⟨bU,0,none⟩:Addr).add 2)=some (.string ej))/\
 Calls prog 145 #[] hM λe fX=>
 ∃mP:Option Nat,e=.returned (.map mP)/\
 ∃S7:World->Prop,S7 fX/\(∀u,S7 u->S6 u)/\
 ∃ib:Int,∃fE:Int,∃fF:Int,∃eo:Value,∃ic:Value,(∀w',S7 w'->(Instr.lookup 176 (.map mP) (.int .i64 mO) false).run prog w'=.ok (.agg #[.int .u8 ib,.int .i64 fE,.int .i64 fF,eo,ic]) w')/\
 fnE eo λf63 first63 ie=>
 zQv prog f63=true/\Calls prog f63 (first63.toList ++ (([.agg #[.string d8,.int .i64 eb,.int .i64 ed,.bool eg],.agg #[.int .i64 cE,.int .i64 ei,.string ej]]:List Value) ++ ie.toList)).toArray fX λe fY=>
 ∃mQ:ByteArray,e=.returned (.string mQ)/\
 Calls prog 199 #[.pointer p7,.string mQ] fY λe ga=>
 ∃ig:Int,∃ii:Value,e=.returned (.tuple #[.int .i64 ig,ii])/\
 J1 (n8,(IntKind.i64.wrap (cq+1))) ga))) (
 xXV R l5 l6 p7 ds w)
def yJx(R:Rt)(p3:Option Addr)(l5 l6:SV)(p7:Option Addr)(n8:Int)(dZ:SV)(jI cq:Int)(ds:Ds)(w:World):Prop:=
 zQD (λ(J1:(Int × Int)->World->Prop) (s:Int × Int) (w:World)=>xKL R J1 p3 l5 l6 p7 s.1 dZ jI s.2 ds w) (n8,cq) w
def xKg(R:Rt)(l0:SV)(jN:Bool)(bI:SV)(ds:Ds)(w:World):Prop:=
 alE (.cells #[.bool jN,bI.v] 67) w λr3 fA=>
 alE (.cells #[.int .u8 32] 5) fA λjW kU=>
 ∃jY,kU.cell? (⟨r3,0,none⟩:Addr)=some (.bool jY)/\
 Br jY (
 ∃mz:Addr,(some ⟨jW,0,none⟩)=some mz/\0<=(0:Int)/\(0:Int)<(1:Int)/\
 st1 (mz.add ((0:Int).toNat * 1)) (.int .u8 42) kU λnE=>
 Calls prog 203 #[l0.v] nE λe kZ=>
 ∃gO:Int,e=.returned (.int .i64 gO)/\
 ∃fH:SV,∃iy,(Instr.makeSlice 22 (.int .i64 gO) (.int .i64 gO)).run prog kZ=.ok (fH.v) iy/\
 alE (.cells #[.pointer none,.slice none 0 0] 220) iy λr7 nU=>
 yJx R (some (⟨r3,0,none⟩:Addr)) ⟨(some ⟨jW,0,none⟩),1,1⟩ fH (some (⟨r7,0,none⟩:Addr)) 0 l0 (l0.len:Int) 0 ds nU) (
 Calls prog 203 #[l0.v] kU λe nF=>
 ∃gO:Int,e=.returned (.int .i64 gO)/\
 ∃fH:SV,∃tE,(Instr.makeSlice 22 (.int .i64 gO) (.int .i64 gO)).run prog nF=.ok (fH.v) tE/\
 alE (.cells #[.pointer none,.slice none 0 0] 220) tE λr7 mK=>
 yJx R (some (⟨r3,0,none⟩:Addr)) ⟨(some ⟨jW,0,none⟩),1,1⟩ fH (some (⟨r7,0,none⟩:Addr)) 0 l0 (l0.len:Int) 0 ds mK)
theorem F158_p:Pl prog f158 [lS 0,aS 1 [.bool,.slice]] xKg:=λR=>
 pc 8 (rest [pS 3,lS 5,lS 6,pS 7,iS 8,lS 20,iS 21,iS 22] (yJx R) (bk 0 (rest [lS 5,lS 6,pS 7] (xXV R) lf) (lp [iS 8,iS 22] [pS 3,lS 5,lS 6,pS 7,iS 8,lS 20,iS 21,iS 22] (xKL R) zXY λJ1=>lf)))
theorem yK3 (l0:SV) (jN:Bool) (bI:SV) (w:World) (R:Rt) (h:xKg R l0 jN bI [] w):Calls prog 158 #[l0.v,.agg #[.bool jN,bI.v]] w R:=
 plC F158_p func158 h
def xKE(R:Rt)(aP:ByteArray)(aH aQ:Int)(aR:Bool)(bh bA:Int)(cu:ByteArray)(ds:Ds)(w:World):Prop:=
 alE (.cells #[.string aP,.int .i64 aH,.int .i64 aQ,.bool aR] 129) w λr2 w1=>
 alE (.cells #[.int .i64 bh,.int .i64 bA,.string cu] 73) w1 λr3 w2=>
 dwE w2 λw3=>
 ∃S1:World->Prop,S1 w3/\
 ∃s6,(∀w',S1 w'->w'.cell? ((⟨r3,0,none⟩:Addr).add 2)=some (.string s6))/\
 ∃n8,(∀w',S1 w'->w'.cell? ((⟨r2,0,none⟩:Addr).add 2)=some (.int .i64 n8))/\
 ∃pE,(∀w',S1 w'->w'.cell? ((⟨r3,0,none⟩:Addr).add 2)=some (.string pE))/\
 Calls prog 155 #[.string (⟨#[32]⟩:ByteArray),.int .i64 (IntKind.i64.wrap (n8 - (pE.size:Int)))] w3 λe w4=>
 ∃mC:ByteArray,e=.returned (.string mC)/\
 S1 w4/\
 ((s6.size+mC.size:Nat):Int)<=9223372036854775807/\
 zQc prog ds w4 λw5=>
 R (.returned (.string (s6 ++ mC))) w5
theorem F186_p:Pl prog f186 [aS 0 [.str,.int .i64,.int .i64,.bool],aS 1 [.int .i64,.int .i64,.str]] xKE:=λR=>
 lf
theorem yKD (aP:ByteArray) (aH aQ:Int) (aR:Bool) (bh bA:Int) (cu:ByteArray) (w:World) (R:Rt) (h:xKE R aP aH aQ aR bh bA cu [] w):Calls prog 186 #[.agg #[.string aP,.int .i64 aH,.int .i64 aQ,.bool aR],.agg #[.int .i64 bh,.int .i64 bA,.string cu]] w R:=
 plC F186_p func186 h
end Go.Proofs.YtaeecpjhfmcliaaGreatDoor
/- Shallow texts of functions, printed by program, each checked by the kernel against the loaded code. No condition. -/
namespace Go.Proofs.YtaeecpjhfmcliaaGreatDoor
open Go.Sh Tryz
def xZU(R:Rt)(p0:Option Addr)(ds:Ds)(w:World):Prop:=
 dwE w λw1=>
 ∃S1:World->Prop,S1 w1/\
 zQg p0 λa2=>
 ∃l6:SV,(∀w',S1 w'->w'.cell? (a2.add 1)=some (l6.v))/\
 zQg p0 λa3=>
 ∃bY:SV,(∀w',S1 w'->w'.cell? (a3.add 1)=some (bY.v))/\
 ∃p7:Option Addr,∃w4,(Builtin.unsafeSliceData_ #[22] 243 #[l6.v]).run prog w1=.ok (.pointer p7) w4/\
 S1 w4/\
 ∃mC:ByteArray,∃w5,(Builtin.unsafeString_ #[243,3] 9 #[.pointer p7,.int .i64 (bY.len:Int)]).run prog w4=.ok (.string mC) w5/\
 zQc prog ds w5 λw6=>
 R (.returned (.string mC)) w6
theorem F201_p:Pl prog f201 [pS 0] xZU:=λR=>
 lf
theorem yKm (p0:Option Addr) (w:World) (R:Rt) (h:xZU R p0 [] w):Calls prog 201 #[.pointer p0] w R:=
 plC F201_p func201 h
end Go.Proofs.YtaeecpjhfmcliaaGreatDoor
/- Shallow texts of functions, printed by program, each checked by the kernel against the loaded code. No condition. -/
namespace Go.Proofs.YtaeecpjhfmcliaaGreatDoor
open Go.Sh Tryz
def xJn(R:Rt)(aF aH:Int)(dJ:ByteArray)(bh bA:Int)(cu:ByteArray)(ds:Ds)(w:World):Prop:=
 alE (.cells #[.int .i64 aF,.int .i64 aH,.string dJ] 73) w λr2 w1=>
 alE (.cells #[.int .i64 bh,.int .i64 bA,.string cu] 73) w1 λr3 w2=>
 ∃n6,w2.cell? (⟨r2,0,none⟩:Addr)=some (.int .i64 n6)/\
 ∃n8,w2.cell? (⟨r3,0,none⟩:Addr)=some (.int .i64 n8)/\
 Br (n6 == n8) (
 ∃cv,w2.cell? ((⟨r2,0,none⟩:Addr).add 1)=some (.int .i64 cv)/\
 ∃nD,w2.cell? ((⟨r3,0,none⟩:Addr).add 1)=some (.int .i64 nD)/\
 Br (cv == nD) (
 ∃lA,w2.cell? ((⟨r2,0,none⟩:Addr).add 2)=some (.string lA)/\
 ∃s21,w2.cell? ((⟨r3,0,none⟩:Addr).add 2)=some (.string s21)/\
 zQc prog ds w2 λw3=>
 R (.returned (.bool (lA.toList == s21.toList))) w3) (
 zQc prog ds w2 λw4=>
 R (.returned (.bool false)) w4)) (
 zQc prog ds w2 λw5=>
 R (.returned (.bool false)) w5)
theorem F140_p:Pl prog f140 [aS 0 [.int .i64,.int .i64,.str],aS 1 [.int .i64,.int .i64,.str]] xJn:=λR=>
 lf
theorem yKr (aF aH:Int) (dJ:ByteArray) (bh bA:Int) (cu:ByteArray) (w:World) (R:Rt) (h:xJn R aF aH dJ bh bA cu [] w):Calls prog 140 #[.agg #[.int .i64 aF,.int .i64 aH,.string dJ],.agg #[.int .i64 bh,.int .i64 bA,.string cu]] w R:=
 plC F140_p func140 h
end Go.Proofs.YtaeecpjhfmcliaaGreatDoor
/- Shallow texts of functions, printed by program, each checked by the kernel against the loaded code. No condition. -/
namespace Go.Proofs.YtaeecpjhfmcliaaGreatDoor
open Go.Sh Tryz
def xXJ(R:Rt)(l0:SV)(ds:Ds)(w:World):Prop:=
 Calls prog 141 #[l0.v] w λe w1=>
 ∃n6:Int,e=.returned (.int .i64 n6)/\
 Br (n6 != 0) (
 zQc prog ds w1 λw2=>
 R (.returned (.tuple #[.int .i64 0,.int .i64 n6])) w2) (
 Calls prog 161 #[l0.v] w1 λe w3=>
 ∃cS:Int,e=.returned (.int .i64 cS)/\
 zQc prog ds w3 λw4=>
 R (.returned (.tuple #[.int .i64 cS,.int .i64 0])) w4)
theorem F128_p:Pl prog f128 [lS 0] xXJ:=λR=>
 lf
theorem yKv (l0:SV) (w:World) (R:Rt) (h:xXJ R l0 [] w):Calls prog 128 #[l0.v] w R:=
 plC F128_p func128 h
end Go.Proofs.YtaeecpjhfmcliaaGreatDoor
/- Shallow texts of functions, printed by program, each checked by the kernel against the loaded code. No condition. -/
namespace Go.Proofs.YtaeecpjhfmcliaaGreatDoor
open Go.Sh Tryz
end Go.Proofs.YtaeecpjhfmcliaaGreatDoor
/- Shallow texts of functions, printed by program, each checked by the kernel against the loaded code. No condition. -/
namespace Go.Proofs.YtaeecpjhfmcliaaGreatDoor
open Go.Sh Tryz
def xJ2(R:Rt)(p2 p5:Option Addr)(ds:Ds)(w:World):Prop:=
 zQg p5 λa1=>
 ∃gx,w.cell? (a1.add 0)=some (.bool gx)/\
 ∃bp:SV,w.cell? (a1.add 1)=some (bp.v)/\
 zQg p2 λa2=>
 stA prog 67 a2 #[.bool gx,bp.v] w λw3=>
 zQc prog ds w3 λw4=>
 zQg p2 λa5=>
 ∃c8,w4.cell? (a5.add 0)=some (.bool c8)/\
 ∃ab:SV,w4.cell? (a5.add 1)=some (ab.v)/\
 R (.returned (.tuple #[.agg #[.bool c8,ab.v],.int .i64 0])) w4
def xZi (R:Rt) (J1:(Int)->World->Prop) (p2 p5:Option Addr) (bN:SV) (iz n16:Int) (ds:Ds) (w:World):Prop:=
 Br (decide (n16<iz)) (
 ∃a6,bN.a=some a6/\0<=n16/\n16<(bN.len:Int)/\
 ∃gv,w.cell? ((a6.add (n16.toNat * 4)).add 0)=some (.string gv)/\
 ∃aY,w.cell? ((a6.add (n16.toNat * 4)).add 1)=some (.int .i64 aY)/\
 ∃gw,w.cell? ((a6.add (n16.toNat * 4)).add 2)=some (.int .i64 gw)/\
 ∃dW,w.cell? ((a6.add (n16.toNat * 4)).add 3)=some (.bool dW)/\
 alE (.cells #[.string (⟨#[]⟩:ByteArray),.int .i64 0,.int .i64 0,.bool false] 129) w λr7 w7=>
 stA prog 129 (⟨r7,0,none⟩:Addr) #[.string gv,.int .i64 aY,.int .i64 gw,.bool dW] w7 λw8=>
 dwE w8 λw9=>
 ∃S1:World->Prop,S1 w9/\
 zQg p5 λeJ=>
 ∃cQ:SV,(∀w',S1 w'->w'.cell? (eJ.add 1)=some (cQ.v))/\
 ∃pF,(∀w',S1 w'->w'.cell? ((⟨r7,0,none⟩:Addr).add 0)=some (.string pF))/\
 ∃pG,(∀w',S1 w'->w'.cell? ((⟨r7,0,none⟩:Addr).add 1)=some (.int .i64 pG))/\
 ∃pH,(∀w',S1 w'->w'.cell? ((⟨r7,0,none⟩:Addr).add 2)=some (.int .i64 pH))/\
 ∃pI,(∀w',S1 w'->w'.cell? ((⟨r7,0,none⟩:Addr).add 3)=some (.bool pI))/\
 Calls prog 118 #[.agg #[.string pF,.int .i64 pG,.int .i64 pH,.bool pI]] w9 λe aT=>
 ∃kh:Int,∃cM:Int,∃ki:ByteArray,e=.returned (.agg #[.int .i64 kh,.int .i64 cM,.string ki])/\
 S1 aT/\
 alE (.cells #[.int .i64 kh,.int .i64 cM,.string ki] 73) aT λwP aX=>
 S1 aX/\
 ∃cZ:SV,∃aK,(Builtin.append_ #[38,38] 38 #[cQ.v,.slice (some ⟨wP,0,none⟩) 1 1]).run prog aX=.ok (cZ.v) aK/\
 zQg p5 λft=>
 st1 (ft.add 1) (cZ.v) aK λbC=>
 J1 (IntKind.i64.wrap (n16+1)) bC) (
 xJ2 R p2 p5 ds w)
def xKF(R:Rt)(p2 p5:Option Addr)(bN:SV)(iz n16:Int)(ds:Ds)(w:World):Prop:=
 zQD (λ(J1:(Int)->World->Prop) (s:Int) (w:World)=>xZi R J1 p2 p5 bN iz s ds w) n16 w
def xJ0(R:Rt)(l0:SV)(ds:Ds)(w:World):Prop:=
 alE (.cells #[.bool false,.slice none 0 0] 67) w λr2 bT=>
 Calls prog 141 #[l0.v] bT λe bD=>
 ∃n9:Int,e=.returned (.int .i64 n9)/\
 Br (n9 != 0) (
 stA prog 67 (⟨r2,0,none⟩:Addr) #[.bool false,.slice none 0 0] bD λcH=>
 zQc prog ds cH λcR=>
 ∃c8,cR.cell? ((⟨r2,0,none⟩:Addr).add 0)=some (.bool c8)/\
 ∃ab:SV,cR.cell? ((⟨r2,0,none⟩:Addr).add 1)=some (ab.v)/\
 R (.returned (.tuple #[.agg #[.bool c8,ab.v],.int .i64 n9])) cR) (
 alE (.cells #[.bool false,.slice none 0 0] 67) bD λr5 cP=>
 xKF R (some (⟨r2,0,none⟩:Addr)) (some (⟨r5,0,none⟩:Addr)) l0 (l0.len:Int) 0 ds cP)
theorem F164_p:Pl prog f164 [lS 0] xJ0:=λR=>
 pc 6 (rest [pS 2,pS 5,lS 14,iS 15,iS 16] (xKF R) (bk 0 (rest [pS 2,pS 5] (xJ2 R) lf) (lp [iS 16] [pS 2,pS 5,lS 14,iS 15,iS 16] (xZi R) zXY λJ1=>lf)))
theorem yKi (l0:SV) (w:World) (R:Rt) (h:xJ0 R l0 [] w):Calls prog 164 #[l0.v] w R:=
 plC F164_p func164 h
def F70_1(R:Rt)(nW:Bool)(aq:SV)(jN:Bool)(bI:SV)(ds:Ds)(w:World):Prop:=
 alE (.cells #[.bool nW,aq.v] 67) w λr2 w1=>
 alE (.cells #[.bool jN,bI.v] 67) w1 λr3 w2=>
 ∃b6,w2.cell? (⟨r2,0,none⟩:Addr)=some (.bool b6)/\
 ∃b8,w2.cell? (⟨r3,0,none⟩:Addr)=some (.bool b8)/\
 Br (b6 == b8) (
 ∃iB:SV,w2.cell? ((⟨r2,0,none⟩:Addr).add 1)=some (iB.v)/\
 ∃bN:SV,w2.cell? ((⟨r3,0,none⟩:Addr).add 1)=some (bN.v)/\
 Calls prog 105 #[iB.v,bN.v] w2 λe w3=>
 ∃gJ:Bool,e=.returned (.bool gJ)/\
 zQc prog ds w3 λw4=>
 R (.returned (.bool gJ)) w4) (
 zQc prog ds w2 λw5=>
 R (.returned (.bool false)) w5)
theorem F70_p:Pl prog f70 [aS 0 [.bool,.slice],aS 1 [.bool,.slice]] F70_1:=λR=>
 lf
theorem yWW (nW:Bool) (aq:SV) (jN:Bool) (bI:SV) (w:World) (R:Rt) (h:F70_1 R nW aq jN bI [] w):Calls prog 70 #[.agg #[.bool nW,aq.v],.agg #[.bool jN,bI.v]] w R:=
 plC F70_p func70 h
def xX7(R:Rt)(ds:Ds)(w:World):Prop:=
 zQc prog ds w λw1=>
 R (.returned (.bool true)) w1
def xZ2 (R:Rt) (J1:(Int)->World->Prop) (l0 l1:SV) (n5:Int) (ds:Ds) (w:World):Prop:=
 Br (decide (n5<(l0.len:Int))) (
 dwE w λw2=>
 ∃a3,l0.a=some a3/\0<=n5/\n5<(l0.len:Int)/\
 ∃dU,w2.cell? ((a3.add (n5.toNat * 3)).add 0)=some (.int .i64 dU)/\
 ∃cL,w2.cell? ((a3.add (n5.toNat * 3)).add 1)=some (.int .i64 cL)/\
 ∃dV,w2.cell? ((a3.add (n5.toNat * 3)).add 2)=some (.string dV)/\
 ∃a4,l1.a=some a4/\0<=n5/\n5<(l1.len:Int)/\
 ∃kj,w2.cell? ((a4.add (n5.toNat * 3)).add 0)=some (.int .i64 kj)/\
 ∃km,w2.cell? ((a4.add (n5.toNat * 3)).add 1)=some (.int .i64 km)/\
 ∃pJ,w2.cell? ((a4.add (n5.toNat * 3)).add 2)=some (.string pJ)/\
 Calls prog 140 #[.agg #[.int .i64 dU,.int .i64 cL,.string dV],.agg #[.int .i64 kj,.int .i64 km,.string pJ]] w2 λe w5=>
 ∃nX:Bool,e=.returned (.bool nX)/\
 Br (!nX) (
 zQc prog ds w5 λw6=>
 R (.returned (.bool false)) w6) (
 J1 (IntKind.i64.wrap (n5+1)) w5)) (
 xX7 R ds w)
def xZn(R:Rt)(l0 l1:SV)(n5:Int)(ds:Ds)(w:World):Prop:=
 zQD (λ(J1:(Int)->World->Prop) (s:Int) (w:World)=>xZ2 R J1 l0 l1 s ds w) n5 w
def xX9(R:Rt)(l0 l1:SV)(ds:Ds)(w:World):Prop:=
 Br ((l0.len:Int) != (l1.len:Int)) (
 zQc prog ds w λw7=>
 R (.returned (.bool false)) w7) (
 xZn R l0 l1 0 ds w)
theorem F105_p:Pl prog f105 [lS 0,lS 1] xX9:=λR=>
 pc 4 (rest [lS 0,lS 1,iS 5] (xZn R) (bk 0 (rest [] (xX7 R) lf) (lp [iS 5] [lS 0,lS 1,iS 5] (xZ2 R) zXY λJ1=>lf)))
theorem yJN (l0 l1:SV) (w:World) (R:Rt) (h:xX9 R l0 l1 [] w):Calls prog 105 #[l0.v,l1.v] w R:=
 plC F105_p func105 h
end Go.Proofs.YtaeecpjhfmcliaaGreatDoor
/- Shallow texts of functions, printed by program, each checked by the kernel against the loaded code. No condition. -/
namespace Go.Proofs.YtaeecpjhfmcliaaGreatDoor
open Go.Sh Tryz
def F45_1(R:Rt)(n0:Int)(ds:Ds)(w:World):Prop:=
 alE (.cells #[.int .i64 0,.int .i64 0,.string (⟨#[]⟩:ByteArray)] 73) w λr2 w1=>
 stA prog 73 (⟨r2,0,none⟩:Addr) #[.int .i64 2,.int .i64 n0,.string (⟨#[]⟩:ByteArray)] w1 λw2=>
 zQc prog ds w2 λw3=>
 ∃ag,w3.cell? ((⟨r2,0,none⟩:Addr).add 0)=some (.int .i64 ag)/\
 ∃aB,w3.cell? ((⟨r2,0,none⟩:Addr).add 1)=some (.int .i64 aB)/\
 ∃aC,w3.cell? ((⟨r2,0,none⟩:Addr).add 2)=some (.string aC)/\
 R (.returned (.agg #[.int .i64 ag,.int .i64 aB,.string aC])) w3
theorem F45_p:Pl prog f45 [iS 0] F45_1:=λR=>
 lf
theorem yVB (n0:Int) (w:World) (R:Rt) (h:F45_1 R n0 [] w):Calls prog 45 #[.int .i64 n0] w R:=
 plC F45_p func45 h
end Go.Proofs.YtaeecpjhfmcliaaGreatDoor
/- Shallow texts of functions, printed by program, each checked by the kernel against the loaded code. No condition. -/
namespace Go.Proofs.YtaeecpjhfmcliaaGreatDoor
open Go.Sh Tryz
def F72_1(R:Rt)(l8:SV)(ds:Ds)(w:World):Prop:=
 zQc prog ds w λw1=>
 R (.returned (.tuple #[l8.v,.int .i64 0])) w1
def yKP (R:Rt) (J1:(SV × Int)->World->Prop) (p2 p3:Option Addr) (l8:SV) (db fG:Int) (ds:Ds) (w:World):Prop:=
 J1 (l8,(IntKind.i64.wrap (fG+1))) w
def F72_3 (R:Rt) (J1:(SV × Int)->World->Prop) (p2 p3:Option Addr) (l8:SV) (db fG:Int) (ds:Ds) (w:World):Prop:=
 Br (decide (fG<db)) (
 dwE w λw2=>
 zQg p2 λa3=>
 ∃nG:SV,w2.cell? (a3.add 2)=some (nG.v)/\
 Br (decide (fG >= (nG.len:Int))) (
 alE (.cells #[.int .i64 (IntKind.i64.wrap (fG+1))] 3) w2 λrx w4=>
 ∃gS:SV,∃w5,(Builtin.append_ #[52,52] 52 #[l8.v,.slice (some ⟨rx,0,none⟩) 1 1]).run prog w4=.ok (gS.v) w5/\
 yKP R J1 p2 p3 gS db fG ds w5) (
 zQg p3 λa6=>
 ∃mR:SV,w2.cell? (a6.add 2)=some (mR.v)/\
 Br (decide (fG >= (mR.len:Int))) (
 alE (.cells #[.int .i64 (IntKind.i64.wrap (fG+1))] 3) w2 λrx w7=>
 ∃gS:SV,∃w8,(Builtin.append_ #[52,52] 52 #[l8.v,.slice (some ⟨rx,0,none⟩) 1 1]).run prog w7=.ok (gS.v) w8/\
 yKP R J1 p2 p3 gS db fG ds w8) (
 zQg p2 λa9=>
 ∃tF:SV,w2.cell? (a9.add 2)=some (tF.v)/\
 ∃eJ,tF.a=some eJ/\0<=fG/\fG<(tF.len:Int)/\
 ∃tG,w2.cell? (eJ.add (fG.toNat * 2))=some (.bool tG)/\
 zQg p3 λeL=>
 ∃tH:SV,w2.cell? (eL.add 2)=some (tH.v)/\
 ∃iR,tH.a=some iR/\0<=fG/\fG<(tH.len:Int)/\
 ∃oY,w2.cell? (iR.add (fG.toNat * 2))=some (.bool oY)/\
 ∃b68:Bool,(∀w,(eqS .neq 4 (.tmp 61) (.tmp 67) (.bool tG) (.bool oY)).run prog w=.ok (.bool b68) w)/\
 Br b68 (
 alE (.cells #[.int .i64 (IntKind.i64.wrap (fG+1))] 3) w2 λrx aK=>
 ∃gS:SV,∃bH,(Builtin.append_ #[52,52] 52 #[l8.v,.slice (some ⟨rx,0,none⟩) 1 1]).run prog aK=.ok (gS.v) bH/\
 yKP R J1 p2 p3 gS db fG ds bH) (
 zQg p2 λkO=>
 ∃jO:SV,w2.cell? (kO.add 2)=some (jO.v)/\
 ∃jX,jO.a=some jX/\0<=fG/\fG<(jO.len:Int)/\
 ∃kV:SV,w2.cell? ((jX.add (fG.toNat * 2)).add 1)=some (kV.v)/\
 zQg p3 λnY=>
 ∃tI:SV,w2.cell? (nY.add 2)=some (tI.v)/\
 ∃gn,tI.a=some gn/\0<=fG/\fG<(tI.len:Int)/\
 ∃sA:SV,w2.cell? ((gn.add (fG.toNat * 2)).add 1)=some (sA.v)/\
 Calls prog 108 #[kV.v,sA.v] w2 λe cR=>
 ∃b83:Bool,e=.returned (.bool b83)/\
 Br (!b83) (
 alE (.cells #[.int .i64 (IntKind.i64.wrap (fG+1))] 3) cR λrx cP=>
 ∃gS:SV,∃bX,(Builtin.append_ #[52,52] 52 #[l8.v,.slice (some ⟨rx,0,none⟩) 1 1]).run prog cP=.ok (gS.v) bX/\
 yKP R J1 p2 p3 gS db fG ds bX) (
 yKP R J1 p2 p3 l8 db fG ds cR))))) (
 F72_1 R l8 ds w)
def F72_4(R:Rt)(p2 p3:Option Addr)(l8:SV)(db fG:Int)(ds:Ds)(w:World):Prop:=
 zQD (λ(J1:(SV × Int)->World->Prop) (s:SV × Int) (w:World)=>F72_3 R J1 p2 p3 s.1 db s.2 ds w) (l8,fG) w
def F72_6(R:Rt)(aF:Int)(aq ak:SV)(bh:Int)(bI bJ:SV)(ds:Ds)(w:World):Prop:=
 alE (.cells #[.int .i64 aF,aq.v,ak.v] 35) w λr2 dQ=>
 alE (.cells #[.int .i64 bh,bI.v,bJ.v] 35) dQ λr3 dM=>
 ∃gC,dM.cell? ((⟨r2,0,none⟩:Addr).add 0)=some (.int .i64 gC)/\
 ∃bZ:SV,dM.cell? ((⟨r2,0,none⟩:Addr).add 1)=some (bZ.v)/\
 ∃cb:SV,dM.cell? ((⟨r2,0,none⟩:Addr).add 2)=some (cb.v)/\
 Calls prog 106 #[.agg #[.int .i64 gC,bZ.v,cb.v]] dM λe dP=>
 ∃cS:Int,e=.returned (.int .i64 cS)/\
 Br (cS != 0) (
 zQc prog ds dP λgK=>
 R (.returned (.tuple #[.slice none 0 0,.int .i64 cS])) gK) (
 ∃j9,dP.cell? ((⟨r3,0,none⟩:Addr).add 0)=some (.int .i64 j9)/\
 ∃iW:SV,dP.cell? ((⟨r3,0,none⟩:Addr).add 1)=some (iW.v)/\
 ∃iX:SV,dP.cell? ((⟨r3,0,none⟩:Addr).add 2)=some (iX.v)/\
 Calls prog 106 #[.agg #[.int .i64 j9,iW.v,iX.v]] dP λe fy=>
 ∃n16:Int,e=.returned (.int .i64 n16)/\
 Br (n16 != 0) (
 zQc prog ds fy λgR=>
 R (.returned (.tuple #[.slice none 0 0,.int .i64 n16])) gR) (
 ∃jI,fy.cell? (⟨r2,0,none⟩:Addr)=some (.int .i64 jI)/\
 ∃jV,fy.cell? (⟨r3,0,none⟩:Addr)=some (.int .i64 jV)/\
 Br (jI != jV) (
 zQc prog ds fy λdf=>
 R (.returned (.tuple #[.slice none 0 0,.int .i64 10])) df) (
 ∃bG:SV,fy.cell? ((⟨r2,0,none⟩:Addr).add 1)=some (bG.v)/\
 ∃fZ:SV,fy.cell? ((⟨r3,0,none⟩:Addr).add 1)=some (fZ.v)/\
 Calls prog 107 #[bG.v,fZ.v] fy λe gI=>
 ∃oT:Bool,e=.returned (.bool oT)/\
 Br (!oT) (
 zQc prog ds gI λhM=>
 R (.returned (.tuple #[.slice none 0 0,.int .i64 10])) hM) (
 ∃j0:SV,gI.cell? ((⟨r2,0,none⟩:Addr).add 2)=some (j0.v)/\
 ∃dK:SV,gI.cell? ((⟨r3,0,none⟩:Addr).add 2)=some (dK.v)/\
 ∃db:Int,∃fX,(Builtin.max_ #[3,3] 3 #[.int .i64 (j0.len:Int),.int .i64 (dK.len:Int)]).run prog gI=.ok (.int .i64 db) fX/\
 F72_4 R (some (⟨r2,0,none⟩:Addr)) (some (⟨r3,0,none⟩:Addr)) ⟨none,0,0⟩ db 0 ds fX))))
theorem F72_p:Pl prog f72 [aS 0 [.int .i64,.slice,.slice],aS 1 [.int .i64,.slice,.slice]] F72_6:=λR=>
 pc 11 (rest [pS 2,pS 3,lS 8,iS 39,iS 40] (F72_4 R) (bk 0 (rest [lS 8] (F72_1 R) lf) (lp [lS 8,iS 40] [pS 2,pS 3,lS 8,iS 39,iS 40] (F72_3 R) zXY λJ1=>pc 3 (rest [pS 2,pS 3,lS 8,iS 39,iS 40] (yKP R J1) lf))))
theorem yYZ (aF:Int) (aq ak:SV) (bh:Int) (bI bJ:SV) (w:World) (R:Rt) (h:F72_6 R aF aq ak bh bI bJ [] w):Calls prog 72 #[.agg #[.int .i64 aF,aq.v,ak.v],.agg #[.int .i64 bh,bI.v,bJ.v]] w R:=
 plC F72_p func72 h
def xJX(R:Rt)(ds:Ds)(w:World):Prop:=
 zQc prog ds w λw1=>
 R (.returned (.bool true)) w1
def xZW (R:Rt) (J1:(Int)->World->Prop) (l0 l1:SV) (cv cX:Int) (ds:Ds) (w:World):Prop:=
 Br (decide (cX<cv)) (
 dwE w λw2=>
 ∃a3,l0.a=some a3/\0<=cX/\cX<(l0.len:Int)/\
 ∃gv,w2.cell? ((a3.add (cX.toNat * 4)).add 0)=some (.string gv)/\
 ∃aY,w2.cell? ((a3.add (cX.toNat * 4)).add 1)=some (.int .i64 aY)/\
 ∃gw,w2.cell? ((a3.add (cX.toNat * 4)).add 2)=some (.int .i64 gw)/\
 ∃dW,w2.cell? ((a3.add (cX.toNat * 4)).add 3)=some (.bool dW)/\
 ∃a4,l1.a=some a4/\0<=cX/\cX<(l1.len:Int)/\
 ∃gy,w2.cell? ((a4.add (cX.toNat * 4)).add 0)=some (.string gy)/\
 ∃cM,w2.cell? ((a4.add (cX.toNat * 4)).add 1)=some (.int .i64 cM)/\
 ∃gz,w2.cell? ((a4.add (cX.toNat * 4)).add 2)=some (.int .i64 gz)/\
 ∃gA,w2.cell? ((a4.add (cX.toNat * 4)).add 3)=some (.bool gA)/\
 ∃nZ:Bool,(∀w,(eqS .neq 129 (.tmp 19) (.tmp 23) (.agg #[.string gv,.int .i64 aY,.int .i64 gw,.bool dW]) (.agg #[.string gy,.int .i64 cM,.int .i64 gz,.bool gA])).run prog w=.ok (.bool nZ) w)/\
 Br nZ (
 zQc prog ds w2 λw5=>
 R (.returned (.bool false)) w5) (
 J1 (IntKind.i64.wrap (cX+1)) w2)) (
 xJX R ds w)
def xJZ(R:Rt)(l0 l1:SV)(cv cX:Int)(ds:Ds)(w:World):Prop:=
 zQD (λ(J1:(Int)->World->Prop) (s:Int) (w:World)=>xZW R J1 l0 l1 cv s ds w) cX w
def xZY(R:Rt)(l0 l1:SV)(ds:Ds)(w:World):Prop:=
 Br ((l0.len:Int) != (l1.len:Int)) (
 zQc prog ds w λw6=>
 R (.returned (.bool false)) w6) (
 xJZ R l0 l1 (l0.len:Int) 0 ds w)
theorem F107_p:Pl prog f107 [lS 0,lS 1] xZY:=λR=>
 pc 4 (rest [lS 0,lS 1,iS 12,iS 13] (xJZ R) (bk 0 (rest [] (xJX R) lf) (lp [iS 13] [lS 0,lS 1,iS 12,iS 13] (xZW R) zXY λJ1=>lf)))
theorem yWz (l0 l1:SV) (w:World) (R:Rt) (h:xZY R l0 l1 [] w):Calls prog 107 #[l0.v,l1.v] w R:=
 plC F107_p func107 h
def xJS(R:Rt)(ds:Ds)(w:World):Prop:=
 zQc prog ds w λw1=>
 R (.returned (.bool true)) w1
def xKf (R:Rt) (J1:(Int)->World->Prop) (l0 l1:SV) (cv cX:Int) (ds:Ds) (w:World):Prop:=
 Br (decide (cX<cv)) (
 dwE w λw2=>
 ∃a3,l0.a=some a3/\0<=cX/\cX<(l0.len:Int)/\
 ∃cY,w2.cell? ((a3.add (cX.toNat * 3)).add 0)=some (.int .i64 cY)/\
 ∃aY,w2.cell? ((a3.add (cX.toNat * 3)).add 1)=some (.int .i64 aY)/\
 ∃ka,w2.cell? ((a3.add (cX.toNat * 3)).add 2)=some (.string ka)/\
 ∃a4,l1.a=some a4/\0<=cX/\cX<(l1.len:Int)/\
 ∃kh,w2.cell? ((a4.add (cX.toNat * 3)).add 0)=some (.int .i64 kh)/\
 ∃cM,w2.cell? ((a4.add (cX.toNat * 3)).add 1)=some (.int .i64 cM)/\
 ∃ki,w2.cell? ((a4.add (cX.toNat * 3)).add 2)=some (.string ki)/\
 ∃nZ:Bool,(∀w,(eqS .neq 73 (.tmp 19) (.tmp 23) (.agg #[.int .i64 cY,.int .i64 aY,.string ka]) (.agg #[.int .i64 kh,.int .i64 cM,.string ki])).run prog w=.ok (.bool nZ) w)/\
 Br nZ (
 zQc prog ds w2 λw5=>
 R (.returned (.bool false)) w5) (
 J1 (IntKind.i64.wrap (cX+1)) w2)) (
 xJS R ds w)
def xZO(R:Rt)(l0 l1:SV)(cv cX:Int)(ds:Ds)(w:World):Prop:=
 zQD (λ(J1:(Int)->World->Prop) (s:Int) (w:World)=>xKf R J1 l0 l1 cv s ds w) cX w
def xZw(R:Rt)(l0 l1:SV)(ds:Ds)(w:World):Prop:=
 Br ((l0.len:Int) != (l1.len:Int)) (
 zQc prog ds w λw6=>
 R (.returned (.bool false)) w6) (
 xZO R l0 l1 (l0.len:Int) 0 ds w)
theorem F108_p:Pl prog f108 [lS 0,lS 1] xZw:=λR=>
 pc 4 (rest [lS 0,lS 1,iS 12,iS 13] (xZO R) (bk 0 (rest [] (xJS R) lf) (lp [iS 13] [lS 0,lS 1,iS 12,iS 13] (xKf R) zXY λJ1=>lf)))
theorem yJG (l0 l1:SV) (w:World) (R:Rt) (h:xZw R l0 l1 [] w):Calls prog 108 #[l0.v,l1.v] w R:=
 plC F108_p func108 h
def F69_1(R:Rt)(ds:Ds)(w:World):Prop:=
 zQc prog ds w λw1=>
 R (.returned (.bool true)) w1
def F69_2 (R:Rt) (J1:(Int)->World->Prop) (l0 l1:SV) (n5:Int) (ds:Ds) (w:World):Prop:=
 Br (decide (n5<(l0.len:Int))) (
 dwE w λw2=>
 ∃a3,l0.a=some a3/\0<=n5/\n5<(l0.len:Int)/\
 ∃pK,w2.cell? ((a3.add (n5.toNat * 4)).add 0)=some (.string pK)/\
 ∃cL,w2.cell? ((a3.add (n5.toNat * 4)).add 1)=some (.int .i64 cL)/\
 ∃pL,w2.cell? ((a3.add (n5.toNat * 4)).add 2)=some (.int .i64 pL)/\
 ∃ko,w2.cell? ((a3.add (n5.toNat * 4)).add 3)=some (.bool ko)/\
 ∃a4,l1.a=some a4/\0<=n5/\n5<(l1.len:Int)/\
 ∃pM,w2.cell? ((a4.add (n5.toNat * 4)).add 0)=some (.string pM)/\
 ∃km,w2.cell? ((a4.add (n5.toNat * 4)).add 1)=some (.int .i64 km)/\
 ∃pN,w2.cell? ((a4.add (n5.toNat * 4)).add 2)=some (.int .i64 pN)/\
 ∃pO,w2.cell? ((a4.add (n5.toNat * 4)).add 3)=some (.bool pO)/\
 ∃nX:Bool,(∀w,(eqS .neq 129 (.tmp 20) (.tmp 24) (.agg #[.string pK,.int .i64 cL,.int .i64 pL,.bool ko]) (.agg #[.string pM,.int .i64 km,.int .i64 pN,.bool pO])).run prog w=.ok (.bool nX) w)/\
 Br nX (
 zQc prog ds w2 λw5=>
 R (.returned (.bool false)) w5) (
 J1 (IntKind.i64.wrap (n5+1)) w2)) (
 F69_1 R ds w)
def F69_3(R:Rt)(l0 l1:SV)(n5:Int)(ds:Ds)(w:World):Prop:=
 zQD (λ(J1:(Int)->World->Prop) (s:Int) (w:World)=>F69_2 R J1 l0 l1 s ds w) n5 w
def F69_5(R:Rt)(l0 l1:SV)(ds:Ds)(w:World):Prop:=
 Br ((l0.len:Int) != (l1.len:Int)) (
 zQc prog ds w λw6=>
 R (.returned (.bool false)) w6) (
 F69_3 R l0 l1 0 ds w)
theorem F69_p:Pl prog f69 [lS 0,lS 1] F69_5:=λR=>
 pc 4 (rest [lS 0,lS 1,iS 5] (F69_3 R) (bk 0 (rest [] (F69_1 R) lf) (lp [iS 5] [lS 0,lS 1,iS 5] (F69_2 R) zXY λJ1=>lf)))
theorem yYC (l0 l1:SV) (w:World) (R:Rt) (h:F69_5 R l0 l1 [] w):Calls prog 69 #[l0.v,l1.v] w R:=
 plC F69_p func69 h
end Go.Proofs.YtaeecpjhfmcliaaGreatDoor
/- Shallow texts of functions, printed by program, each checked by the kernel against the loaded code. No condition. -/
namespace Go.Proofs.YtaeecpjhfmcliaaGreatDoor
open Go.Sh Tryz
def xKc(R:Rt)(n0:Int)(ds:Ds)(w:World):Prop:=
 IntKind.i64=IntKind.i64/\(4:Int) ≠ 0/\
 Br ((n0.tmod 4) == 0) (
 IntKind.i64=IntKind.i64/\(100:Int) ≠ 0/\
 Br ((n0.tmod 100) != 0) (
 zQc prog ds w λw1=>
 R (.returned (.bool true)) w1) (
 IntKind.i64=IntKind.i64/\(400:Int) ≠ 0/\
 zQc prog ds w λw2=>
 R (.returned (.bool ((n0.tmod 400) == 0))) w2)) (
 zQc prog ds w λw3=>
 R (.returned (.bool false)) w3)
theorem F239_p:Pl prog f239 [iS 0] xKc:=λR=>
 lf
theorem yJF (n0:Int) (w:World) (R:Rt) (h:xKc R n0 [] w):Calls prog 239 #[.int .i64 n0] w R:=
 plC F239_p func239 h
def xKs(R:Rt)(n0 n1:Int)(ds:Ds)(w:World):Prop:=
 alE (.cells #[.int .i64 0,.int .i64 0,.int .i64 0,.int .i64 0,.int .i64 0,.int .i64 0,.int .i64 0,.int .i64 0,.int .i64 0,.int .i64 0,.int .i64 0,.int .i64 0] 258) w λr5 w1=>
 stA prog 258 (⟨r5,0,none⟩:Addr) #[.int .i64 31,.int .i64 28,.int .i64 31,.int .i64 30,.int .i64 31,.int .i64 30,.int .i64 31,.int .i64 31,.int .i64 30,.int .i64 31,.int .i64 30,.int .i64 31] w1 λw2=>
 Br (n1 == 2) (
 Calls prog 239 #[.int .i64 n0] w2 λe w3=>
 ∃ml:Bool,e=.returned (.bool ml)/\
 Br ml (
 zQc prog ds w3 λw4=>
 R (.returned (.int .i64 29)) w4) (
 0<=(IntKind.i64.wrap (n1 - 1))/\(IntKind.i64.wrap (n1 - 1))<(12:Int)/\
 ∃n16,w3.cell? ((⟨r5,0,none⟩:Addr).add ((IntKind.i64.wrap (n1 - 1)).toNat * 1))=some (.int .i64 n16)/\
 zQc prog ds w3 λw5=>
 R (.returned (.int .i64 n16)) w5)) (
 0<=(IntKind.i64.wrap (n1 - 1))/\(IntKind.i64.wrap (n1 - 1))<(12:Int)/\
 ∃n16,w2.cell? ((⟨r5,0,none⟩:Addr).add ((IntKind.i64.wrap (n1 - 1)).toNat * 1))=some (.int .i64 n16)/\
 zQc prog ds w2 λw6=>
 R (.returned (.int .i64 n16)) w6)
theorem F236_p:Pl prog f236 [iS 0,iS 1] xKs:=λR=>
 lf
theorem yW9 (n0 n1:Int) (w:World) (R:Rt) (h:xKs R n0 n1 [] w):Calls prog 236 #[.int .i64 n0,.int .i64 n1] w R:=
 plC F236_p func236 h
def xJt(R:Rt)(n0:Int)(ds:Ds)(w:World):Prop:=
 IntKind.i64=IntKind.i64/\(4:Int) ≠ 0/\
 IntKind.i64=IntKind.i64/\(100:Int) ≠ 0/\
 IntKind.i64=IntKind.i64/\(400:Int) ≠ 0/\
 zQc prog ds w λw1=>
 R (.returned (.int .i64 (IntKind.i64.wrap ((IntKind.i64.wrap ((IntKind.i64.wrap ((IntKind.i64.wrap ((365:Int) * (IntKind.i64.wrap (n0 - 1))))+(IntKind.i64.wrap ((IntKind.i64.wrap (n0 - 1)).tdiv 4)))) - (IntKind.i64.wrap ((IntKind.i64.wrap (n0 - 1)).tdiv 100))))+(IntKind.i64.wrap ((IntKind.i64.wrap (n0 - 1)).tdiv 400)))))) w1
theorem F237_p:Pl prog f237 [iS 0] xJt:=λR=>
 lf
theorem yWq (n0:Int) (w:World) (R:Rt) (h:xJt R n0 [] w):Calls prog 237 #[.int .i64 n0] w R:=
 plC F237_p func237 h
def xJB(R:Rt)(n8:Int)(ds:Ds)(w:World):Prop:=
 zQc prog ds w λw1=>
 R (.returned (.tuple #[.int .i64 n8,.int .i64 0])) w1
def xKA (R:Rt) (J1:(Int × Int)->World->Prop) (n0 n8 fG j2:Int) (ds:Ds) (w:World):Prop:=
 Br (decide (j2<fG)) (
 Calls prog 236 #[.int .i64 n0,.int .i64 (IntKind.i64.wrap (j2+1))] w λe w2=>
 ∃ct:Int,e=.returned (.int .i64 ct)/\
 J1 ((IntKind.i64.wrap (n8+ct)),(IntKind.i64.wrap (j2+1))) w2) (
 xJB R n8 ds w)
def xZa(R:Rt)(n0 n8 fG j2:Int)(ds:Ds)(w:World):Prop:=
 zQD (λ(J1:(Int × Int)->World->Prop) (s:Int × Int) (w:World)=>xKA R J1 n0 s.1 fG s.2 ds w) (n8,j2) w
def zWH(R:Rt)(n0 n1 n2:Int)(vV:Bool)(ds:Ds)(w:World):Prop:=
 Br vV (
 zQc prog ds w λw3=>
 R (.returned (.tuple #[.int .i64 0,.int .i64 1])) w3) (
 Calls prog 237 #[.int .i64 n0] w λe w4=>
 ∃kT:Int,e=.returned (.int .i64 kT)/\
 xZa R n0 (IntKind.i64.wrap (kT+n2)) (IntKind.i64.wrap (n1 - 1)) 0 ds w4)
def xXG(R:Rt)(n0 n1 n2:Int)(ds:Ds)(w:World):Prop:=
 Br (decide (n0<1)) (
 zWH R n0 n1 n2 true ds w) (
 Br (decide (n0 > 9999)) (
 zWH R n0 n1 n2 true ds w) (
 Br (decide (n1<1)) (
 zWH R n0 n1 n2 true ds w) (
 Br (decide (n1 > 12)) (
 zWH R n0 n1 n2 true ds w) (
 Br (decide (n2<1)) (
 zWH R n0 n1 n2 true ds w) (
 Calls prog 236 #[.int .i64 n0,.int .i64 n1] w λe w5=>
 ∃lc:Int,e=.returned (.int .i64 lc)/\
 zWH R n0 n1 n2 (decide (n2 > lc)) ds w5)))))
def xKn(R:Rt)(n0 n1 n2:Int)(ds:Ds)(w:World):Prop:=
 xXG R n0 n1 n2 ds w
theorem F226_p:Pl prog f226 [iS 0,iS 1,iS 2] xKn:=λR=>
 pc 1 (rest [iS 0,iS 1,iS 2] (xXG R) (pc 1 (rest [iS 0,iS 1,iS 2,bS 34] (zWH R) (pc 3 (rest [iS 0,iS 8,iS 40,iS 41] (xZa R) (bk 0 (rest [iS 8] (xJB R) lf) (lp [iS 8,iS 41] [iS 0,iS 8,iS 40,iS 41] (xKA R) zXY λJ1=>lf)))))))
theorem yJI (n0 n1 n2:Int) (w:World) (R:Rt) (h:xKn R n0 n1 n2 [] w):Calls prog 226 #[.int .i64 n0,.int .i64 n1,.int .i64 n2] w R:=
 plC F226_p func226 h
def xX5(R:Rt)(n6 n7 n8:Int)(ds:Ds)(w:World):Prop:=
 zQc prog ds w λw1=>
 R (.returned (.tuple #[.int .i64 n6,.int .i64 n8,.int .i64 n7,.int .i64 0])) w1
def xJQ (R:Rt) (J1:(Int × Int)->World->Prop) (n6 n7 n8:Int) (ds:Ds) (w:World):Prop:=
 Calls prog 236 #[.int .i64 n6,.int .i64 n8] w λe w2=>
 ∃tf:Int,e=.returned (.int .i64 tf)/\
 Br (decide (n7 > tf)) (
 Calls prog 236 #[.int .i64 n6,.int .i64 n8] w2 λe w3=>
 ∃kT:Int,e=.returned (.int .i64 kT)/\
 J1 ((IntKind.i64.wrap (n7 - kT)),(IntKind.i64.wrap (n8+1))) w3) (
 xX5 R n6 n7 n8 ds w2)
def xXR(R:Rt)(n6 n7 n8:Int)(ds:Ds)(w:World):Prop:=
 zQD (λ(J1:(Int × Int)->World->Prop) (s:Int × Int) (w:World)=>xJQ R J1 n6 s.1 s.2 ds w) (n7,n8) w
def xKD(R:Rt)(n0 n6:Int)(ds:Ds)(w:World):Prop:=
 Calls prog 237 #[.int .i64 n6] w λe w4=>
 ∃bE:Int,e=.returned (.int .i64 bE)/\
 xXR R n6 (IntKind.i64.wrap (n0 - bE)) 1 ds w4
def yYw (R:Rt) (J1:(Int)->World->Prop) (n0 n6:Int) (ds:Ds) (w:World):Prop:=
 Calls prog 237 #[.int .i64 (IntKind.i64.wrap (n6+1))] w λe w5=>
 ∃jL:Int,e=.returned (.int .i64 jL)/\
 Br (decide (jL<n0)) (
 J1 (IntKind.i64.wrap (n6+1)) w5) (
 xKD R n0 n6 ds w5)
def xZF(R:Rt)(n0 n6:Int)(ds:Ds)(w:World):Prop:=
 zQD (λ(J1:(Int)->World->Prop) (s:Int) (w:World)=>yYw R J1 n0 s ds w) n6 w
def xKa(R:Rt)(n0:Int)(ds:Ds)(w:World):Prop:=
 Calls prog 191 #[.int .i64 n0] w λe w6=>
 ∃dc:Bool,e=.returned (.bool dc)/\
 Br (!dc) (
 zQc prog ds w6 λw7=>
 R (.returned (.tuple #[.int .i64 0,.int .i64 0,.int .i64 0,.int .i64 1])) w7) (
 Br (n0 == 0) (
 zQc prog ds w6 λw8=>
 R (.returned (.tuple #[.int .i64 0,.int .i64 0,.int .i64 0,.int .i64 0])) w8) (
 IntKind.i64=IntKind.i64/\(366:Int) ≠ 0/\
 xZF R n0 (IntKind.i64.wrap ((IntKind.i64.wrap (n0.tdiv 366))+1)) ds w6))
theorem F234_p:Pl prog f234 [iS 0] xKa:=λR=>
 pc 6 (rest [iS 0,iS 6] (xZF R) (bk 0 (rest [iS 0,iS 6] (xKD R) (pc 1 (rest [iS 6,iS 7,iS 8] (xXR R) (bk 2 (rest [iS 6,iS 7,iS 8] (xX5 R) lf) (lp [iS 7,iS 8] [iS 6,iS 7,iS 8] (xJQ R) zXY λJ1=>lf))))) (lp [iS 6] [iS 0,iS 6] (yYw R) zXY λJ1=>lf)))
theorem yK5 (n0:Int) (w:World) (R:Rt) (h:xKa R n0 [] w):Calls prog 234 #[.int .i64 n0] w R:=
 plC F234_p func234 h
def xKq(R:Rt)(n0 n1:Int)(ds:Ds)(w:World):Prop:=
 Calls prog 154 #[.int .i64 n0] w λe w1=>
 ∃s7:ByteArray,e=.returned (.string s7)/\
 Calls prog 155 #[.string (⟨#[48]⟩:ByteArray),.int .i64 (IntKind.i64.wrap (n1 - (s7.size:Int)))] w1 λe w2=>
 ∃nM:ByteArray,e=.returned (.string nM)/\
 ((nM.size+s7.size:Nat):Int)<=9223372036854775807/\
 zQc prog ds w2 λw3=>
 R (.returned (.string (nM ++ s7))) w3
theorem F235_p:Pl prog f235 [iS 0,iS 1] xKq:=λR=>
 lf
theorem yW8 (n0 n1:Int) (w:World) (R:Rt) (h:xKq R n0 n1 [] w):Calls prog 235 #[.int .i64 n0,.int .i64 n1] w R:=
 plC F235_p func235 h
def xX4(R:Rt)(n0:Int)(ds:Ds)(w:World):Prop:=
 Calls prog 234 #[.int .i64 n0] w λe w1=>
 ∃gc:Int,∃eu:Int,∃tJ:Int,∃wQ:Int,e=.returned (.tuple #[.int .i64 gc,.int .i64 eu,.int .i64 tJ,.int .i64 wQ])/\
 Calls prog 235 #[.int .i64 gc,.int .i64 4] w1 λe w2=>
 ∃rj:ByteArray,e=.returned (.string rj)/\
 Calls prog 235 #[.int .i64 eu,.int .i64 2] w2 λe w3=>
 ∃vW:ByteArray,e=.returned (.string vW)/\
 ((rj.size+vW.size:Nat):Int)<=9223372036854775807/\
 Calls prog 235 #[.int .i64 tJ,.int .i64 2] w3 λe w4=>
 ∃wR:ByteArray,e=.returned (.string wR)/\
 (((rj ++ vW).size+wR.size:Nat):Int)<=9223372036854775807/\
 zQc prog ds w4 λw5=>
 R (.returned (.string ((rj ++ vW) ++ wR))) w5
theorem F225_p:Pl prog f225 [iS 0] xX4:=λR=>
 lf
theorem yWx (n0:Int) (w:World) (R:Rt) (h:xX4 R n0 [] w):Calls prog 225 #[.int .i64 n0] w R:=
 plC F225_p func225 h
def xZb(R:Rt)(n0:Int)(ds:Ds)(w:World):Prop:=
 Calls prog 191 #[.int .i64 n0] w λe w1=>
 ∃b5:Bool,e=.returned (.bool b5)/\
 Br (!b5) (
 zQc prog ds w1 λw2=>
 R (.returned (.tuple #[.string (⟨#[]⟩:ByteArray),.int .i64 1])) w2) (
 Br (n0 == 0) (
 zQc prog ds w1 λw3=>
 R (.returned (.tuple #[.string (⟨#[32,32,32,32,32,32,32,32]⟩:ByteArray),.int .i64 0])) w3) (
 Calls prog 225 #[.int .i64 n0] w1 λe w4=>
 ∃pE:ByteArray,e=.returned (.string pE)/\
 zQc prog ds w4 λw5=>
 R (.returned (.tuple #[.string pE,.int .i64 0])) w5))
theorem F212_p:Pl prog f212 [iS 0] xZb:=λR=>
 lf
theorem yKj (n0:Int) (w:World) (R:Rt) (h:xZb R n0 [] w):Calls prog 212 #[.int .i64 n0] w R:=
 plC F212_p func212 h
end Go.Proofs.YtaeecpjhfmcliaaGreatDoor
/- Shallow texts of functions, printed by program, each checked by the kernel against the loaded code. No condition. -/
namespace Go.Proofs.YtaeecpjhfmcliaaGreatDoor
open Go.Sh Tryz
def xKr(R:Rt)(aP:ByteArray)(aH aQ:Int)(aR:Bool)(bh bA:Int)(cu:ByteArray)(ds:Ds)(w:World):Prop:=
 alE (.cells #[.string aP,.int .i64 aH,.int .i64 aQ,.bool aR] 129) w λr2 w1=>
 alE (.cells #[.int .i64 bh,.int .i64 bA,.string cu] 73) w1 λr3 w2=>
 ∃n6,w2.cell? ((⟨r3,0,none⟩:Addr).add 1)=some (.int .i64 n6)/\
 ∃n8,w2.cell? ((⟨r3,0,none⟩:Addr).add 1)=some (.int .i64 n8)/\
 0<=(IntKind.i64.wrap (n8+1))/\(IntKind.i64.wrap (n8+1)).toNat<=(⟨#[70,84]⟩:ByteArray).size/\0<=n6/\n6.toNat<=(IntKind.i64.wrap (n8+1)).toNat/\
 zQc prog ds w2 λw3=>
 R (.returned (.string ((⟨#[70,84]⟩:ByteArray).extract n6.toNat ((IntKind.i64.wrap (n8+1)).toNat)))) w3
theorem F180_p:Pl prog f180 [aS 0 [.str,.int .i64,.int .i64,.bool],aS 1 [.int .i64,.int .i64,.str]] xKr:=λR=>
 lf
theorem yKE (aP:ByteArray) (aH aQ:Int) (aR:Bool) (bh bA:Int) (cu:ByteArray) (w:World) (R:Rt) (h:xKr R aP aH aQ aR bh bA cu [] w):Calls prog 180 #[.agg #[.string aP,.int .i64 aH,.int .i64 aQ,.bool aR],.agg #[.int .i64 bh,.int .i64 bA,.string cu]] w R:=
 plC F180_p func180 h
def xJg(R:Rt)(aP:ByteArray)(aH aQ:Int)(aR:Bool)(bh bA:Int)(cu:ByteArray)(ds:Ds)(w:World):Prop:=
 alE (.cells #[.string aP,.int .i64 aH,.int .i64 aQ,.bool aR] 129) w λr2 w1=>
 alE (.cells #[.int .i64 bh,.int .i64 bA,.string cu] 73) w1 λr3 w2=>
 ∃n9,w2.cell? ((⟨r3,0,none⟩:Addr).add 1)=some (.int .i64 n9)/\
 ∃cS,w2.cell? ((⟨r2,0,none⟩:Addr).add 2)=some (.int .i64 cS)/\
 Calls prog 121 #[.int .i64 n9,.int .i64 cS] w2 λe w3=>
 ∃pP:ByteArray,∃gD:Int,e=.returned (.tuple #[.string pP,.int .i64 gD])/\
 zQc prog ds w3 λw4=>
 R (.returned (.string pP)) w4
theorem F182_p:Pl prog f182 [aS 0 [.str,.int .i64,.int .i64,.bool],aS 1 [.int .i64,.int .i64,.str]] xJg:=λR=>
 lf
theorem yWp (aP:ByteArray) (aH aQ:Int) (aR:Bool) (bh bA:Int) (cu:ByteArray) (w:World) (R:Rt) (h:xJg R aP aH aQ aR bh bA cu [] w):Calls prog 182 #[.agg #[.string aP,.int .i64 aH,.int .i64 aQ,.bool aR],.agg #[.int .i64 bh,.int .i64 bA,.string cu]] w R:=
 plC F182_p func182 h
def xJ4(R:Rt)(aP:ByteArray)(aH aQ:Int)(aR:Bool)(bh bA:Int)(cu:ByteArray)(ds:Ds)(w:World):Prop:=
 alE (.cells #[.string aP,.int .i64 aH,.int .i64 aQ,.bool aR] 129) w λr2 w1=>
 alE (.cells #[.int .i64 bh,.int .i64 bA,.string cu] 73) w1 λr3 w2=>
 ∃n9,w2.cell? ((⟨r3,0,none⟩:Addr).add 1)=some (.int .i64 n9)/\
 Calls prog 212 #[.int .i64 n9] w2 λe w3=>
 ∃pQ:ByteArray,∃gm:Int,e=.returned (.tuple #[.string pQ,.int .i64 gm])/\
 zQc prog ds w3 λw4=>
 R (.returned (.string pQ)) w4
theorem F184_p:Pl prog f184 [aS 0 [.str,.int .i64,.int .i64,.bool],aS 1 [.int .i64,.int .i64,.str]] xJ4:=λR=>
 lf
theorem yKB (aP:ByteArray) (aH aQ:Int) (aR:Bool) (bh bA:Int) (cu:ByteArray) (w:World) (R:Rt) (h:xJ4 R aP aH aQ aR bh bA cu [] w):Calls prog 184 #[.agg #[.string aP,.int .i64 aH,.int .i64 aQ,.bool aR],.agg #[.int .i64 bh,.int .i64 bA,.string cu]] w R:=
 plC F184_p func184 h
def xZR(R:Rt)(aP:ByteArray)(aH aQ:Int)(aR:Bool)(bh bA:Int)(cu:ByteArray)(ds:Ds)(w:World):Prop:=
 alE (.cells #[.string aP,.int .i64 aH,.int .i64 aQ,.bool aR] 129) w λr2 w1=>
 alE (.cells #[.int .i64 bh,.int .i64 bA,.string cu] 73) w1 λr3 w2=>
 ∃n6,w2.cell? ((⟨r3,0,none⟩:Addr).add 1)=some (.int .i64 n6)/\
 Br (n6 == 0) (
 ∃n9,w2.cell? ((⟨r2,0,none⟩:Addr).add 2)=some (.int .i64 n9)/\
 Calls prog 155 #[.string (⟨#[32]⟩:ByteArray),.int .i64 n9] w2 λe w3=>
 ∃pE:ByteArray,e=.returned (.string pE)/\
 zQc prog ds w3 λw4=>
 R (.returned (.string pE)) w4) (
 ∃gp,w2.cell? ((⟨r2,0,none⟩:Addr).add 0)=some (.string gp)/\
 ∃gq,w2.cell? ((⟨r2,0,none⟩:Addr).add 1)=some (.int .i64 gq)/\
 ∃gr,w2.cell? ((⟨r2,0,none⟩:Addr).add 2)=some (.int .i64 gr)/\
 ∃gt,w2.cell? ((⟨r2,0,none⟩:Addr).add 3)=some (.bool gt)/\
 ∃pR,w2.cell? ((⟨r3,0,none⟩:Addr).add 0)=some (.int .i64 pR)/\
 ∃gD,w2.cell? ((⟨r3,0,none⟩:Addr).add 1)=some (.int .i64 gD)/\
 ∃pT,w2.cell? ((⟨r3,0,none⟩:Addr).add 2)=some (.string pT)/\
 Calls prog 182 #[.agg #[.string gp,.int .i64 gq,.int .i64 gr,.bool gt],.agg #[.int .i64 pR,.int .i64 gD,.string pT]] w2 λe w5=>
 ∃mC:ByteArray,e=.returned (.string mC)/\
 zQc prog ds w5 λw6=>
 R (.returned (.string mC)) w6)
theorem F188_p:Pl prog f188 [aS 0 [.str,.int .i64,.int .i64,.bool],aS 1 [.int .i64,.int .i64,.str]] xZR:=λR=>
 lf
theorem yWy (aP:ByteArray) (aH aQ:Int) (aR:Bool) (bh bA:Int) (cu:ByteArray) (w:World) (R:Rt) (h:xZR R aP aH aQ aR bh bA cu [] w):Calls prog 188 #[.agg #[.string aP,.int .i64 aH,.int .i64 aQ,.bool aR],.agg #[.int .i64 bh,.int .i64 bA,.string cu]] w R:=
 plC F188_p func188 h
end Go.Proofs.YtaeecpjhfmcliaaGreatDoor
/- Shallow texts of functions, printed by program, each checked by the kernel against the loaded code. No condition. -/
namespace Go.Proofs.YtaeecpjhfmcliaaGreatDoor
open Go.Sh Tryz
def xKk(R:Rt)(l3:SV)(ds:Ds)(w:World):Prop:=
 alE (.cells #[.int .u8 26] 5) w λwS w1=>
 ∃bW:SV,∃w2,(Builtin.append_ #[22,22] 22 #[l3.v,.slice (some ⟨wS,0,none⟩) 1 1]).run prog w1=.ok (bW.v) w2/\
 zQc prog ds w2 λw3=>
 R (.returned (bW.v)) w3
def xKh (R:Rt) (J1:(SV × Int)->World->Prop) (p1:Option Addr) (l3 l9:SV) (gb cS:Int) (ds:Ds) (w:World):Prop:=
 Br (decide (cS<gb)) (
 ∃a4,l9.a=some a4/\0<=cS/\cS<(l9.len:Int)/\
 ∃pU,w.cell? ((a4.add (cS.toNat * 2)).add 0)=some (.bool pU)/\
 ∃cc:SV,w.cell? ((a4.add (cS.toNat * 2)).add 1)=some (cc.v)/\
 alE (.cells #[.bool false,.slice none 0 0] 67) w λr5 w5=>
 stA prog 67 (⟨r5,0,none⟩:Addr) #[.bool pU,cc.v] w5 λw6=>
 zQg p1 λa7=>
 ∃dd:SV,w6.cell? (a7.add 1)=some (dd.v)/\
 ∃pV,w6.cell? ((⟨r5,0,none⟩:Addr).add 0)=some (.bool pV)/\
 ∃ce:SV,w6.cell? ((⟨r5,0,none⟩:Addr).add 1)=some (ce.v)/\
 Calls prog 158 #[dd.v,.agg #[.bool pV,ce.v]] w6 λe w8=>
 ∃fH:SV,e=.returned (fH.v)/\
 ∃dZ:SV,∃w9,(Builtin.append_ #[22,22] 22 #[l3.v,fH.v]).run prog w8=.ok (dZ.v) w9/\
 J1 (dZ,(IntKind.i64.wrap (cS+1))) w9) (
 xKk R l3 ds w)
def xZf(R:Rt)(p1:Option Addr)(l3 l9:SV)(gb cS:Int)(ds:Ds)(w:World):Prop:=
 zQD (λ(J1:(SV × Int)->World->Prop) (s:SV × Int) (w:World)=>xKh R J1 p1 s.1 l9 gb s.2 ds w) (l3,cS) w
def xKi(R:Rt)(aF:Int)(aq ak:SV)(ds:Ds)(w:World):Prop:=
 alE (.cells #[.int .i64 aF,aq.v,ak.v] 35) w λr1 aU=>
 ∃mT,aU.cell? ((⟨r1,0,none⟩:Addr).add 0)=some (.int .i64 mT)/\
 ∃gd:SV,aU.cell? ((⟨r1,0,none⟩:Addr).add 1)=some (gd.v)/\
 ∃gf:SV,aU.cell? ((⟨r1,0,none⟩:Addr).add 2)=some (gf.v)/\
 Calls prog 157 #[.agg #[.int .i64 mT,gd.v,gf.v]] aU λe aT=>
 ∃l7:SV,e=.returned (l7.v)/\
 ∃l9:SV,aT.cell? ((⟨r1,0,none⟩:Addr).add 2)=some (l9.v)/\
 xZf R (some (⟨r1,0,none⟩:Addr)) l7 l9 (l9.len:Int) 0 ds aT
theorem F123_p:Pl prog f123 [aS 0 [.int .i64,.slice,.slice]] xKi:=λR=>
 pc 3 (rest [pS 1,lS 3,lS 9,iS 10,iS 11] (xZf R) (bk 0 (rest [lS 3] (xKk R) lf) (lp [lS 3,iS 11] [pS 1,lS 3,lS 9,iS 10,iS 11] (xKh R) zXY λJ1=>lf)))
theorem yKN (aF:Int) (aq ak:SV) (w:World) (R:Rt) (h:xKi R aF aq ak [] w):Calls prog 123 #[.agg #[.int .i64 aF,aq.v,ak.v]] w R:=
 plC F123_p func123 h
def F86_1(R:Rt)(aF:Int)(aq ak:SV)(ds:Ds)(w:World):Prop:=
 alE (.cells #[.int .i64 aF,aq.v,ak.v] 35) w λr1 w1=>
 ∃hH,w1.cell? ((⟨r1,0,none⟩:Addr).add 0)=some (.int .i64 hH)/\
 ∃dp:SV,w1.cell? ((⟨r1,0,none⟩:Addr).add 1)=some (dp.v)/\
 ∃cw:SV,w1.cell? ((⟨r1,0,none⟩:Addr).add 2)=some (cw.v)/\
 Calls prog 106 #[.agg #[.int .i64 hH,dp.v,cw.v]] w1 λe w2=>
 ∃n6:Int,e=.returned (.int .i64 n6)/\
 Br (n6 != 0) (
 zQc prog ds w2 λw3=>
 R (.returned (.tuple #[.slice none 0 0,.int .i64 n6])) w3) (
 ∃gC,w2.cell? ((⟨r1,0,none⟩:Addr).add 0)=some (.int .i64 gC)/\
 ∃bZ:SV,w2.cell? ((⟨r1,0,none⟩:Addr).add 1)=some (bZ.v)/\
 ∃cb:SV,w2.cell? ((⟨r1,0,none⟩:Addr).add 2)=some (cb.v)/\
 Calls prog 123 #[.agg #[.int .i64 gC,bZ.v,cb.v]] w2 λe w4=>
 ∃bY:SV,e=.returned (bY.v)/\
 zQc prog ds w4 λw5=>
 R (.returned (.tuple #[bY.v,.int .i64 0])) w5)
theorem F86_p:Pl prog f86 [aS 0 [.int .i64,.slice,.slice]] F86_1:=λR=>
 lf
theorem yYB (aF:Int) (aq ak:SV) (w:World) (R:Rt) (h:F86_1 R aF aq ak [] w):Calls prog 86 #[.agg #[.int .i64 aF,aq.v,ak.v]] w R:=
 plC F86_p func86 h
end Go.Proofs.YtaeecpjhfmcliaaGreatDoor
/- Shallow texts of functions, printed by program, each checked by the kernel against the loaded code. No condition. -/
namespace Go.Proofs.YtaeecpjhfmcliaaGreatDoor
open Go.Sh Tryz
def xZz(R:Rt)(s0:ByteArray)(ds:Ds)(w:World):Prop:=
 alE (.cells #[.int .i64 0,.int .i64 0,.string (⟨#[]⟩:ByteArray)] 73) w λr2 w1=>
 alE (.cells #[.int .i64 0,.int .i64 0,.string (⟨#[]⟩:ByteArray)] 73) w1 λr4 w2=>
 stA prog 73 (⟨r4,0,none⟩:Addr) #[.int .i64 1,.int .i64 0,.string (⟨#[]⟩:ByteArray)] w2 λw3=>
 Br (s0.toList == (⟨#[84]⟩:ByteArray).toList) (
 st1 ((⟨r4,0,none⟩:Addr).add 1) (.int .i64 1) w3 λw4=>
 ∃gc,w4.cell? ((⟨r4,0,none⟩:Addr).add 0)=some (.int .i64 gc)/\
 ∃eu,w4.cell? ((⟨r4,0,none⟩:Addr).add 1)=some (.int .i64 eu)/\
 ∃li,w4.cell? ((⟨r4,0,none⟩:Addr).add 2)=some (.string li)/\
 Br (s0.toList == (⟨#[84]⟩:ByteArray).toList) (
 stA prog 73 (⟨r2,0,none⟩:Addr) #[.int .i64 gc,.int .i64 eu,.string li] w4 λw5=>
 zQc prog ds w5 λw6=>
 ∃ag,w6.cell? ((⟨r2,0,none⟩:Addr).add 0)=some (.int .i64 ag)/\
 ∃aB,w6.cell? ((⟨r2,0,none⟩:Addr).add 1)=some (.int .i64 aB)/\
 ∃aC,w6.cell? ((⟨r2,0,none⟩:Addr).add 2)=some (.string aC)/\
 R (.returned (.tuple #[.agg #[.int .i64 ag,.int .i64 aB,.string aC],.bool true])) w6) (
 stA prog 73 (⟨r2,0,none⟩:Addr) #[.int .i64 gc,.int .i64 eu,.string li] w4 λw7=>
 zQc prog ds w7 λw8=>
 ∃ag,w8.cell? ((⟨r2,0,none⟩:Addr).add 0)=some (.int .i64 ag)/\
 ∃aB,w8.cell? ((⟨r2,0,none⟩:Addr).add 1)=some (.int .i64 aB)/\
 ∃aC,w8.cell? ((⟨r2,0,none⟩:Addr).add 2)=some (.string aC)/\
 R (.returned (.tuple #[.agg #[.int .i64 ag,.int .i64 aB,.string aC],.bool (s0.toList == (⟨#[70]⟩:ByteArray).toList)])) w8)) (
 ∃gc,w3.cell? ((⟨r4,0,none⟩:Addr).add 0)=some (.int .i64 gc)/\
 ∃eu,w3.cell? ((⟨r4,0,none⟩:Addr).add 1)=some (.int .i64 eu)/\
 ∃li,w3.cell? ((⟨r4,0,none⟩:Addr).add 2)=some (.string li)/\
 Br (s0.toList == (⟨#[84]⟩:ByteArray).toList) (
 stA prog 73 (⟨r2,0,none⟩:Addr) #[.int .i64 gc,.int .i64 eu,.string li] w3 λw9=>
 zQc prog ds w9 λaU=>
 ∃ag,aU.cell? ((⟨r2,0,none⟩:Addr).add 0)=some (.int .i64 ag)/\
 ∃aB,aU.cell? ((⟨r2,0,none⟩:Addr).add 1)=some (.int .i64 aB)/\
 ∃aC,aU.cell? ((⟨r2,0,none⟩:Addr).add 2)=some (.string aC)/\
 R (.returned (.tuple #[.agg #[.int .i64 ag,.int .i64 aB,.string aC],.bool true])) aU) (
 stA prog 73 (⟨r2,0,none⟩:Addr) #[.int .i64 gc,.int .i64 eu,.string li] w3 λaT=>
 zQc prog ds aT λaX=>
 ∃ag,aX.cell? ((⟨r2,0,none⟩:Addr).add 0)=some (.int .i64 ag)/\
 ∃aB,aX.cell? ((⟨r2,0,none⟩:Addr).add 1)=some (.int .i64 aB)/\
 ∃aC,aX.cell? ((⟨r2,0,none⟩:Addr).add 2)=some (.string aC)/\
 R (.returned (.tuple #[.agg #[.int .i64 ag,.int .i64 aB,.string aC],.bool (s0.toList == (⟨#[70]⟩:ByteArray).toList)])) aX))
theorem F181_p:Pl prog f181 [sS 0] xZz:=λR=>
 lf
theorem yKK (s0:ByteArray) (w:World) (R:Rt) (h:xZz R s0 [] w):Calls prog 181 #[.string s0] w R:=
 plC F181_p func181 h
def xZh(R:Rt)(s0:ByteArray)(ds:Ds)(w:World):Prop:=
 alE (.cells #[.int .i64 0,.int .i64 0,.string (⟨#[]⟩:ByteArray)] 73) w λr2 w1=>
 Calls prog 211 #[.string s0] w1 λe w2=>
 ∃n5:Int,e=.returned (.int .i64 n5)/\
 Calls prog 190 #[.string s0,.string (⟨#[32]⟩:ByteArray)] w2 λe w3=>
 ∃s8:ByteArray,e=.returned (.string s8)/\
 stA prog 73 (⟨r2,0,none⟩:Addr) #[.int .i64 2,.int .i64 n5,.string (⟨#[]⟩:ByteArray)] w3 λw4=>
 zQc prog ds w4 λw5=>
 ∃ag,w5.cell? ((⟨r2,0,none⟩:Addr).add 0)=some (.int .i64 ag)/\
 ∃aB,w5.cell? ((⟨r2,0,none⟩:Addr).add 1)=some (.int .i64 aB)/\
 ∃aC,w5.cell? ((⟨r2,0,none⟩:Addr).add 2)=some (.string aC)/\
 R (.returned (.tuple #[.agg #[.int .i64 ag,.int .i64 aB,.string aC],.bool (!(s8.toList == (⟨#[]⟩:ByteArray).toList))])) w5
theorem F183_p:Pl prog f183 [sS 0] xZh:=λR=>
 lf
theorem yKO (s0:ByteArray) (w:World) (R:Rt) (h:xZh R s0 [] w):Calls prog 183 #[.string s0] w R:=
 plC F183_p func183 h
def xXC(R:Rt)(s0:ByteArray)(ds:Ds)(w:World):Prop:=
 alE (.cells #[.int .i64 0,.int .i64 0,.string (⟨#[]⟩:ByteArray)] 73) w λr2 w1=>
 Calls prog 213 #[.string s0] w1 λe w2=>
 ∃mU:Int,∃mV:Bool,e=.returned (.tuple #[.int .i64 mU,.bool mV])/\
 stA prog 73 (⟨r2,0,none⟩:Addr) #[.int .i64 3,.int .i64 mU,.string (⟨#[]⟩:ByteArray)] w2 λw3=>
 zQc prog ds w3 λw4=>
 ∃ag,w4.cell? ((⟨r2,0,none⟩:Addr).add 0)=some (.int .i64 ag)/\
 ∃aB,w4.cell? ((⟨r2,0,none⟩:Addr).add 1)=some (.int .i64 aB)/\
 ∃aC,w4.cell? ((⟨r2,0,none⟩:Addr).add 2)=some (.string aC)/\
 R (.returned (.tuple #[.agg #[.int .i64 ag,.int .i64 aB,.string aC],.bool mV])) w4
theorem F185_p:Pl prog f185 [sS 0] xXC:=λR=>
 lf
theorem yK8 (s0:ByteArray) (w:World) (R:Rt) (h:xXC R s0 [] w):Calls prog 185 #[.string s0] w R:=
 plC F185_p func185 h
def xJW(R:Rt)(s0:ByteArray)(ds:Ds)(w:World):Prop:=
 alE (.cells #[.int .i64 0,.int .i64 0,.string (⟨#[]⟩:ByteArray)] 73) w λr2 w1=>
 Calls prog 119 #[.string s0,.string (⟨#[32]⟩:ByteArray)] w1 λe w2=>
 ∃s5:ByteArray,e=.returned (.string s5)/\
 stA prog 73 (⟨r2,0,none⟩:Addr) #[.int .i64 4,.int .i64 0,.string s5] w2 λw3=>
 zQc prog ds w3 λw4=>
 ∃ag,w4.cell? ((⟨r2,0,none⟩:Addr).add 0)=some (.int .i64 ag)/\
 ∃aB,w4.cell? ((⟨r2,0,none⟩:Addr).add 1)=some (.int .i64 aB)/\
 ∃aC,w4.cell? ((⟨r2,0,none⟩:Addr).add 2)=some (.string aC)/\
 R (.returned (.tuple #[.agg #[.int .i64 ag,.int .i64 aB,.string aC],.bool true])) w4
theorem F187_p:Pl prog f187 [sS 0] xJW:=λR=>
 lf
theorem yKL (s0:ByteArray) (w:World) (R:Rt) (h:xJW R s0 [] w):Calls prog 187 #[.string s0] w R:=
 plC F187_p func187 h
def xKy(R:Rt)(s0:ByteArray)(ds:Ds)(w:World):Prop:=
 alE (.cells #[.int .i64 0,.int .i64 0,.string (⟨#[]⟩:ByteArray)] 73) w λr2 w1=>
 Calls prog 211 #[.string s0] w1 λe w2=>
 ∃n5:Int,e=.returned (.int .i64 n5)/\
 stA prog 73 (⟨r2,0,none⟩:Addr) #[.int .i64 2,.int .i64 n5,.string (⟨#[]⟩:ByteArray)] w2 λw3=>
 zQc prog ds w3 λw4=>
 ∃ag,w4.cell? ((⟨r2,0,none⟩:Addr).add 0)=some (.int .i64 ag)/\
 ∃aB,w4.cell? ((⟨r2,0,none⟩:Addr).add 1)=some (.int .i64 aB)/\
 ∃aC,w4.cell? ((⟨r2,0,none⟩:Addr).add 2)=some (.string aC)/\
 R (.returned (.tuple #[.agg #[.int .i64 ag,.int .i64 aB,.string aC],.bool true])) w4
theorem F189_p:Pl prog f189 [sS 0] xKy:=λR=>
 lf
theorem yWi (s0:ByteArray) (w:World) (R:Rt) (h:xKy R s0 [] w):Calls prog 189 #[.string s0] w R:=
 plC F189_p func189 h
def yYA(R:Rt)(s0:ByteArray)(ds:Ds)(w:World):Prop:=
 Br (s0.toList == (⟨#[32,32,32,32,32,32,32,32]⟩:ByteArray).toList) (
 zQc prog ds w λw1=>
 R (.returned (.tuple #[.int .i64 0,.bool true])) w1) (
 Br ((s0.size:Int) != 8) (
 zQc prog ds w λw2=>
 R (.returned (.tuple #[.int .i64 0,.bool false])) w2) (
 Calls prog 190 #[.string s0,.string (⟨#[48,49,50,51,52,53,54,55,56,57]⟩:ByteArray)] w λe w3=>
 ∃mC:ByteArray,e=.returned (.string mC)/\
 Br (!(mC.toList == (⟨#[]⟩:ByteArray).toList)) (
 zQc prog ds w3 λw4=>
 R (.returned (.tuple #[.int .i64 0,.bool false])) w4) (
 dwE w3 λw5=>
 0<=(4:Int)/\(4:Int).toNat<=s0.size/\0<=(4:Int).toNat/\
 0<=(6:Int)/\(6:Int).toNat<=s0.size/\0<=(4:Int)/\(4:Int).toNat<=(6:Int).toNat/\
 s0.size<=s0.size/\0<=(6:Int)/\(6:Int).toNat<=s0.size/\
 Calls prog 211 #[.string (s0.extract 0 ((4:Int).toNat))] w5 λe w6=>
 ∃jL:Int,e=.returned (.int .i64 jL)/\
 Calls prog 211 #[.string (s0.extract ((4:Int).toNat) ((6:Int).toNat))] w6 λe w7=>
 ∃cq:Int,e=.returned (.int .i64 cq)/\
 Calls prog 211 #[.string (s0.extract ((6:Int).toNat) s0.size)] w7 λe w8=>
 ∃bF:Int,e=.returned (.int .i64 bF)/\
 Calls prog 226 #[.int .i64 jL,.int .i64 cq,.int .i64 bF] w8 λe w9=>
 ∃ez:Int,∃fD:Int,e=.returned (.tuple #[.int .i64 ez,.int .i64 fD])/\
 zQc prog ds w9 λaU=>
 R (.returned (.tuple #[.int .i64 ez,.bool (fD == 0)])) aU)))
theorem F213_p:Pl prog f213 [sS 0] yYA:=λR=>
 lf
theorem yKC (s0:ByteArray) (w:World) (R:Rt) (h:yYA R s0 [] w):Calls prog 213 #[.string s0] w R:=
 plC F213_p func213 h
def yQT(R:Rt)(n3 n4:Int)(ds:Ds)(w:World):Prop:=
 zQc prog ds w λw1=>
 R (.returned (.int .i64 (IntKind.i64.wrap (n3 * n4)))) w1
def xKp (R:Rt) (J1:(Int × Int)->World->Prop) (s0:ByteArray) (n3 n4 bE fW:Int) (ds:Ds) (w:World):Prop:=
 Br (decide (fW<bE)) (
 ∃b32:UInt8,0<=fW/\s0[fW.toNat]?=some b32/\
 Br (decide ((b32.toNat:Int)<48)) (
 yQT R n3 n4 ds w) (
 ∃tK:UInt8,0<=fW/\s0[fW.toNat]?=some tK/\
 Br (decide ((tK.toNat:Int) > 57)) (
 yQT R n3 n4 ds w) (
 ∃vX:UInt8,0<=fW/\s0[fW.toNat]?=some vX/\
 ∃ct:Int,∃w2,(Builtin.min_ #[3,3] 3 #[.int .i64 (IntKind.i64.wrap ((IntKind.i64.wrap (n4 * 10))+(IntKind.i64.wrap (IntKind.u8.wrap ((vX.toNat:Int) - 48))))),.int .i64 1000000000000000]).run prog w=.ok (.int .i64 ct) w2/\
 J1 (ct,(IntKind.i64.wrap (fW+1))) w2))) (
 yQT R n3 n4 ds w)
def xZp(R:Rt)(s0:ByteArray)(n3 n4 bE fW:Int)(ds:Ds)(w:World):Prop:=
 zQD (λ(J1:(Int × Int)->World->Prop) (s:Int × Int) (w:World)=>xKp R J1 s0 n3 s.1 bE s.2 ds w) (n4,fW) w
def zWU(R:Rt)(s0:ByteArray)(n3:Int)(ds:Ds)(w:World):Prop:=
 xZp R s0 n3 0 (s0.size:Int) 0 ds w
def xZJ(R:Rt)(s0:ByteArray)(ds:Ds)(w:World):Prop:=
 Calls prog 224 #[.string s0,.string (⟨#[32]⟩:ByteArray)] w λe w3=>
 ∃s7:ByteArray,e=.returned (.string s7)/\
 Br (!(s7.toList == (⟨#[]⟩:ByteArray).toList)) (
 ∃cO:UInt8,0<=(0:Int)/\s7[(0:Int).toNat]?=some cO/\
 Br ((cO.toNat:Int) == 45) (
 ∃tL:UInt8,0<=(0:Int)/\s7[(0:Int).toNat]?=some tL/\
 Br ((tL.toNat:Int) == 45) (
 s7.size<=s7.size/\0<=(1:Int)/\(1:Int).toNat<=s7.size/\
 zWU R (s7.extract ((1:Int).toNat) s7.size) (-1) ds w3) (
 s7.size<=s7.size/\0<=(1:Int)/\(1:Int).toNat<=s7.size/\
 zWU R (s7.extract ((1:Int).toNat) s7.size) 1 ds w3)) (
 ∃gP:UInt8,0<=(0:Int)/\s7[(0:Int).toNat]?=some gP/\
 Br ((gP.toNat:Int) == 43) (
 ∃tL:UInt8,0<=(0:Int)/\s7[(0:Int).toNat]?=some tL/\
 Br ((tL.toNat:Int) == 45) (
 s7.size<=s7.size/\0<=(1:Int)/\(1:Int).toNat<=s7.size/\
 zWU R (s7.extract ((1:Int).toNat) s7.size) (-1) ds w3) (
 s7.size<=s7.size/\0<=(1:Int)/\(1:Int).toNat<=s7.size/\
 zWU R (s7.extract ((1:Int).toNat) s7.size) 1 ds w3)) (
 zWU R s7 1 ds w3))) (
 zWU R s7 1 ds w3)
theorem F211_p:Pl prog f211 [sS 0] xZJ:=λR=>
 pc 5 (rest [sS 0,iS 3] (zWU R) (pc 2 (rest [sS 0,iS 3,iS 4,iS 26,iS 27] (xZp R) (bk 0 (rest [iS 3,iS 4] (yQT R) lf) (lp [iS 4,iS 27] [sS 0,iS 3,iS 4,iS 26,iS 27] (xKp R) zXY λJ1=>lf)))))
theorem yJS (s0:ByteArray) (w:World) (R:Rt) (h:xZJ R s0 [] w):Calls prog 211 #[.string s0] w R:=
 plC F211_p func211 h
end Go.Proofs.YtaeecpjhfmcliaaGreatDoor
/- Shallow texts of functions, printed by program, each checked by the kernel against the loaded code. No condition. -/
namespace Go.Proofs.YtaeecpjhfmcliaaGreatDoor
open Go.Sh Tryz
def F18_1(R:Rt)(ds:Ds)(w:World):Prop:=
 zQc prog ds w λw1=>
 R (.returned (.bool true)) w1
def F18_2 (R:Rt) (J1:(Int)->World->Prop) (p2 p3:Option Addr) (n5:Int) (ds:Ds) (w:World):Prop:=
 zQg p2 λa2=>
 ∃nS:SV,w.cell? (a2.add 2)=some (nS.v)/\
 Br (decide (n5<(nS.len:Int))) (
 dwE w λw3=>
 zQg p2 λa4=>
 ∃jP:SV,w3.cell? (a4.add 2)=some (jP.v)/\
 ∃a5,jP.a=some a5/\0<=n5/\n5<(jP.len:Int)/\
 ∃pW,w3.cell? ((a5.add (n5.toNat * 2)).add 0)=some (.bool pW)/\
 ∃iY:SV,w3.cell? ((a5.add (n5.toNat * 2)).add 1)=some (iY.v)/\
 zQg p3 λa6=>
 ∃mW:SV,w3.cell? (a6.add 2)=some (mW.v)/\
 ∃a7,mW.a=some a7/\0<=n5/\n5<(mW.len:Int)/\
 ∃kq,w3.cell? ((a7.add (n5.toNat * 2)).add 0)=some (.bool kq)/\
 ∃dq:SV,w3.cell? ((a7.add (n5.toNat * 2)).add 1)=some (dq.v)/\
 Calls prog 70 #[.agg #[.bool pW,iY.v],.agg #[.bool kq,dq.v]] w3 λe w8=>
 ∃b45:Bool,e=.returned (.bool b45)/\
 Br (!b45) (
 zQc prog ds w8 λw9=>
 R (.returned (.bool false)) w9) (
 J1 (IntKind.i64.wrap (n5+1)) w8)) (
 F18_1 R ds w)
def F18_3(R:Rt)(p2 p3:Option Addr)(n5:Int)(ds:Ds)(w:World):Prop:=
 zQD (λ(J1:(Int)->World->Prop) (s:Int) (w:World)=>F18_2 R J1 p2 p3 s ds w) n5 w
def F18_5(R:Rt)(aF:Int)(aq ak:SV)(bh:Int)(bI bJ:SV)(ds:Ds)(w:World):Prop:=
 alE (.cells #[.int .i64 aF,aq.v,ak.v] 35) w λr2 aU=>
 alE (.cells #[.int .i64 bh,bI.v,bJ.v] 35) aU λr3 aT=>
 ∃n7,aT.cell? (⟨r2,0,none⟩:Addr)=some (.int .i64 n7)/\
 ∃n9,aT.cell? (⟨r3,0,none⟩:Addr)=some (.int .i64 n9)/\
 Br (n7 != n9) (
 zQc prog ds aT λaX=>
 R (.returned (.bool false)) aX) (
 ∃dN:SV,aT.cell? ((⟨r2,0,none⟩:Addr).add 1)=some (dN.v)/\
 ∃de:SV,aT.cell? ((⟨r3,0,none⟩:Addr).add 1)=some (de.v)/\
 Calls prog 69 #[dN.v,de.v] aT λe aK=>
 ∃gP:Bool,e=.returned (.bool gP)/\
 Br (!gP) (
 zQc prog ds aK λbH=>
 R (.returned (.bool false)) bH) (
 ∃cQ:SV,aK.cell? ((⟨r2,0,none⟩:Addr).add 2)=some (cQ.v)/\
 ∃bW:SV,aK.cell? ((⟨r3,0,none⟩:Addr).add 2)=some (bW.v)/\
 Br ((cQ.len:Int) != (bW.len:Int)) (
 zQc prog ds aK λbC=>
 R (.returned (.bool false)) bC) (
 F18_3 R (some (⟨r2,0,none⟩:Addr)) (some (⟨r3,0,none⟩:Addr)) 0 ds aK)))
theorem F18_p:Pl prog f18 [aS 0 [.int .i64,.slice,.slice],aS 1 [.int .i64,.slice,.slice]] F18_5:=λR=>
 pc 4 (rest [pS 2,pS 3,iS 5] (F18_3 R) (bk 0 (rest [] (F18_1 R) lf) (lp [iS 5] [pS 2,pS 3,iS 5] (F18_2 R) zXY λJ1=>lf)))
theorem yVQ (aF:Int) (aq ak:SV) (bh:Int) (bI bJ:SV) (w:World) (R:Rt) (h:F18_5 R aF aq ak bh bI bJ [] w):Calls prog 18 #[.agg #[.int .i64 aF,aq.v,ak.v],.agg #[.int .i64 bh,bI.v,bJ.v]] w R:=
 plC F18_p func18 h
end Go.Proofs.YtaeecpjhfmcliaaGreatDoor
