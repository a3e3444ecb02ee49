import Derived.Test.YtaeecpjhfmcliaaGreatDoorProg
import Derived.Test.YtaeecpjhfmcliaaGreatDoorShTwentyEight
/- Shallow texts of functions, printed by program, each checked by the kernel against the loaded code. No condition. -/
set_option maxRecDepth 100000
set_option linter.unusedVariables false
namespace Go.Proofs.YtaeecpjhfmcliaaGreatDoor
open Go.Sh Tryz
def xZB(R:Rt)(aF aG:Int)(eb:ByteArray)(ds:Ds)(w:World):Prop:=
 alE (.cells #[.int .i64 aF,.int .i64 aG,.string eb] 73) w λr1 w1=>
 ∃s4,w1.cell? ((⟨r1,0,none⟩:Addr).add 2)=some (.string s4)/\
 Br (decide ((s4.size:Int) > 2048)) (
 zQd prog ds w1 λw2=>
 R (.returned (.int .i64 3)) w2) (
 ∃c8,w1.cell? ((⟨r1,0,none⟩:Addr).add 0)=some (.int .i64 c8)/\
 ∃bX,w1.cell? ((⟨r1,0,none⟩:Addr).add 1)=some (.int .i64 bX)/\
 ∃qE,w1.cell? ((⟨r1,0,none⟩:Addr).add 2)=some (.string qE)/\
 Calls prog 147 #[.agg #[.int .i64 c8,.int .i64 bX,.string qE]] w1 λe w3=>
 ∃b8:Bool,e=.returned (.bool b8)/\
 Br (!b8) (
 zQd prog ds w3 λw4=>
 R (.returned (.int .i64 1)) w4) (
 zQd prog ds w3 λw5=>
 R (.returned (.int .i64 0)) w5))
theorem F117_p:Pl prog f117 [aS 0 [.int .i64,.int .i64,.str]] xZB:=λR=>
 lf
theorem yZX (aF aG:Int) (eb:ByteArray) (w:World) (R:Rt) (h:xZB R aF aG eb [] w):Calls prog 117 #[.agg #[.int .i64 aF,.int .i64 aG,.string eb]] w R:=
 plC F117_p func117 h
def zVy(R:Rt)(p1:Option Addr)(n22:Int)(ds:Ds)(w:World):Prop:=
 Br (n22 == 0) (
 zQf p1 λa1=>
 ∃bo,w.cell? (a1.add 1)=some (.int .i64 bo)/\
 zQd prog ds w λw2=>
 R (.returned (.bool (bo == 0))) w2) (
 Br (n22 == 1) (
 zQf p1 λa3=>
 ∃qF,w.cell? (a3.add 1)=some (.int .i64 qF)/\
 Br (qF == 0) (
 zQd prog ds w λw4=>
 R (.returned (.bool true)) w4) (
 zQf p1 λa5=>
 ∃n35,w.cell? (a5.add 1)=some (.int .i64 n35)/\
 zQd prog ds w λw6=>
 R (.returned (.bool (n35 == 1))) w6)) (
 Br (n22 == 2) (
 zQf p1 λa7=>
 ∃n41,w.cell? (a7.add 1)=some (.int .i64 n41)/\
 Calls prog 153 #[.int .i64 n41] w λe w8=>
 ∃xy:Bool,e=.returned (.bool xy)/\
 zQd prog ds w8 λw9=>
 R (.returned (.bool xy)) w9) (
 Br (n22 == 3) (
 zQf p1 λej=>
 ∃fV,w.cell? (ej.add 1)=some (.int .i64 fV)/\
 Calls prog 191 #[.int .i64 fV] w λe aQ=>
 ∃xz:Bool,e=.returned (.bool xz)/\
 zQd prog ds aQ λaR=>
 R (.returned (.bool xz)) aR) (
 zQf p1 λjS=>
 ∃lN,w.cell? jS=some (.int .i64 lN)/\
 zQd prog ds w λbI=>
 R (.returned (.bool (lN == 4))) bI))))
def xXZ(R:Rt)(aF aG:Int)(eb:ByteArray)(ds:Ds)(w:World):Prop:=
 alE (.cells #[.int .i64 aF,.int .i64 aG,.string eb] 73) w λr1 bv=>
 ∃n4,bv.cell? (⟨r1,0,none⟩:Addr)=some (.int .i64 n4)/\
 Br (n4 != 4) (
 ∃s8,bv.cell? ((⟨r1,0,none⟩:Addr).add 2)=some (.string s8)/\
 Br (!(s8.toList == (⟨#[]⟩:ByteArray).toList)) (
 zQd prog ds bv λbK=>
 R (.returned (.bool false)) bK) (
 ∃cx,bv.cell? (⟨r1,0,none⟩:Addr)=some (.int .i64 cx)/\
 Br (cx == 4) (
 ∃kg,bv.cell? ((⟨r1,0,none⟩:Addr).add 1)=some (.int .i64 kg)/\
 Br (kg != 0) (
 zQd prog ds bv λbA=>
 R (.returned (.bool false)) bA) (
 ∃n22,bv.cell? (⟨r1,0,none⟩:Addr)=some (.int .i64 n22)/\
 zVy R (some (⟨r1,0,none⟩:Addr)) n22 ds bv)) (
 ∃n22,bv.cell? (⟨r1,0,none⟩:Addr)=some (.int .i64 n22)/\
 zVy R (some (⟨r1,0,none⟩:Addr)) n22 ds bv))) (
 ∃cx,bv.cell? (⟨r1,0,none⟩:Addr)=some (.int .i64 cx)/\
 Br (cx == 4) (
 ∃kg,bv.cell? ((⟨r1,0,none⟩:Addr).add 1)=some (.int .i64 kg)/\
 Br (kg != 0) (
 zQd prog ds bv λbY=>
 R (.returned (.bool false)) bY) (
 ∃n22,bv.cell? (⟨r1,0,none⟩:Addr)=some (.int .i64 n22)/\
 zVy R (some (⟨r1,0,none⟩:Addr)) n22 ds bv)) (
 ∃n22,bv.cell? (⟨r1,0,none⟩:Addr)=some (.int .i64 n22)/\
 zVy R (some (⟨r1,0,none⟩:Addr)) n22 ds bv))
theorem F147_p:Pl prog f147 [aS 0 [.int .i64,.int .i64,.str]] xXZ:=λR=>
 pc 4 (rest [pS 1,iS 22] (zVy R) lf)
theorem yJN (aF aG:Int) (eb:ByteArray) (w:World) (R:Rt) (h:xXZ R aF aG eb [] w):Calls prog 147 #[.agg #[.int .i64 aF,.int .i64 aG,.string eb]] w R:=
 plC F147_p func147 h
def xQ2(R:Rt)(n0:Int)(ds:Ds)(w:World):Prop:=
 Br (decide (n0 >= (-1000000000000000))) (
 zQd prog ds w λw1=>
 R (.returned (.bool (decide (n0<=1000000000000000)))) w1) (
 zQd prog ds w λw2=>
 R (.returned (.bool false)) w2)
theorem F153_p:Pl prog f153 [iS 0] xQ2:=λR=>
 lf
theorem yJS (n0:Int) (w:World) (R:Rt) (h:xQ2 R n0 [] w):Calls prog 153 #[.int .i64 n0] w R:=
 plC F153_p func153 h
def xXp(R:Rt)(n0:Int)(ds:Ds)(w:World):Prop:=
 Br (decide (n0 >= 0)) (
 zQd prog ds w λw1=>
 R (.returned (.bool (decide (n0<=3652059)))) w1) (
 zQd prog ds w λw2=>
 R (.returned (.bool false)) w2)
theorem F191_p:Pl prog f191 [iS 0] xXp:=λR=>
 lf
theorem yJw (n0:Int) (w:World) (R:Rt) (h:xXp R n0 [] w):Calls prog 191 #[.int .i64 n0] w R:=
 plC F191_p func191 h
end Go.Proofs.YtaeecpjhfmcliaaGreatDoor
/- Shallow texts of functions, printed by program, each checked by the kernel against the loaded code. No condition. -/
namespace Go.Proofs.YtaeecpjhfmcliaaGreatDoor
open Go.Sh Tryz
def yXW(R:Rt)(p1 p3:Option Addr)(b4:Bool)(ds:Ds)(w:World):Prop:=
 Br b4 (
 zQf p1 λa1=>
 ∃o9,w.cell? a1=some (.string o9)/\
 Calls prog 146 #[.string o9] w λe w2=>
 ∃fY:Bool,e=.returned (.bool fY)/\
 Br fY (
 zQf p1 λa3=>
 ∃n20,w2.cell? (a3.add 2)=some (.int .i64 n20)/\
 zQf p3 λa4=>
 ∃n22,w2.cell? (a4.add 1)=some (.int .i64 n22)/\
 Br (decide (n20 >= n22)) (
 zQf p1 λa5=>
 ∃n27,w2.cell? (a5.add 2)=some (.int .i64 n27)/\
 zQf p3 λa6=>
 ∃n29,w2.cell? (a6.add 2)=some (.int .i64 n29)/\
 zQd prog ds w2 λw7=>
 R (.returned (.bool (decide (n27<=n29)))) w7) (
 zQd prog ds w2 λw8=>
 R (.returned (.bool false)) w8)) (
 zQd prog ds w2 λw9=>
 R (.returned (.bool false)) w9)) (
 zQd prog ds w λaM=>
 R (.returned (.bool false)) aM)
def xQU(R:Rt)(aN:ByteArray)(aG aO:Int)(aP:Bool)(ds:Ds)(w:World):Prop:=
 alE (.cells #[.string aN,.int .i64 aG,.int .i64 aO,.bool aP] 129) w λr1 aQ=>
 dwE aQ λaR=>
 ∃S1:World->Prop,S1 aR/\
 ∃n8,(∀w',S1 w'->w'.cell? ((⟨r1,0,none⟩:Addr).add 1)=some (.int .i64 n8))/\
 (
 Calls prog 145 #[] aR λe aZ=>
 ∃m6:Option Nat,e=.returned (.map m6)/\
 ∃S2:World->Prop,S2 aZ/\(∀u,S2 u->S1 u)/\
 ∃fA:Int,∃fC:Int,∃fD:Int,∃fE:Value,∃fF:Value,∃kO:Bool,(∀w',S2 w'->(Instr.lookup 176 (.map m6) (.int .i64 n8) true).run prog w'=.ok (.tuple #[.agg #[.int .u8 fA,.int .i64 fC,.int .i64 fD,fE,fF],.bool kO]) w')/\
 alE (.cells #[.int .u8 0,.int .i64 0,.int .i64 0,.nilFunc,.nilFunc] 174) aZ λr3 bI=>
 ∃S3:World->Prop,S3 bI/\(∀u,S3 u->S2 u)/\
 stA prog 174 (⟨r3,0,none⟩:Addr) #[.int .u8 fA,.int .i64 fC,.int .i64 fD,fE,fF] bI λbv=>
 yXW R (some (⟨r1,0,none⟩:Addr)) (some (⟨r3,0,none⟩:Addr)) kO ds bv)/\(
 alE (.cells #[.int .u8 0,.int .i64 0,.int .i64 0,.nilFunc,.nilFunc] 174) aR λr3 bK=>
 ∃S4:World->Prop,S4 bK/\(∀u,S4 u->S1 u)/\
 Calls prog 145 #[] bK λe bA=>
 ∃m6:Option Nat,e=.returned (.map m6)/\
 ∃S5:World->Prop,S5 bA/\(∀u,S5 u->S4 u)/\
 ∃fA:Int,∃fC:Int,∃fD:Int,∃fE:Value,∃fF:Value,∃kO:Bool,(∀w',S5 w'->(Instr.lookup 176 (.map m6) (.int .i64 n8) true).run prog w'=.ok (.tuple #[.agg #[.int .u8 fA,.int .i64 fC,.int .i64 fD,fE,fF],.bool kO]) w')/\
 stA prog 174 (⟨r3,0,none⟩:Addr) #[.int .u8 fA,.int .i64 fC,.int .i64 fD,fE,fF] bA λbY=>
 yXW R (some (⟨r1,0,none⟩:Addr)) (some (⟨r3,0,none⟩:Addr)) kO ds bY)
theorem F115_p:Pl prog f115 [aS 0 [.str,.int .i64,.int .i64,.bool]] xQU:=λR=>
 pc 2 (rest [pS 1,pS 3,bS 4] (yXW R) lf)
theorem yZO (aN:ByteArray) (aG aO:Int) (aP:Bool) (w:World) (R:Rt) (h:xQU R aN aG aO aP [] w):Calls prog 115 #[.agg #[.string aN,.int .i64 aG,.int .i64 aO,.bool aP]] w R:=
 plC F115_p func115 h
def yW7(R:Rt)(s0:ByteArray)(ds:Ds)(w:World):Prop:=
 Br (!(s0.toList == (⟨#[]⟩:ByteArray).toList)) (
 Br (decide ((s0.size:Int)<=10)) (
 Calls prog 190 #[.string s0,.string (⟨#[65,66,67,68,69,70,71,72,73,74,75,76,77,78,79,80,81,82,83,84,85,86,87,88,89,90,48,49,50,51,52,53,54,55,56,57,95]⟩:ByteArray)] w λe w1=>
 ∃lO:ByteArray,e=.returned (.string lO)/\
 Br (lO.toList == (⟨#[]⟩:ByteArray).toList) (
 ∃pa:UInt8,0<=(0:Int)/\s0[(0:Int).toNat]?=some pa/\
 Br (decide ((pa.toNat:Int) >= 65)) (
 ∃qG:UInt8,0<=(0:Int)/\s0[(0:Int).toNat]?=some qG/\
 zQd prog ds w1 λw2=>
 R (.returned (.bool (decide ((qG.toNat:Int)<=90)))) w2) (
 zQd prog ds w1 λw3=>
 R (.returned (.bool false)) w3)) (
 zQd prog ds w1 λw4=>
 R (.returned (.bool false)) w4)) (
 zQd prog ds w λw5=>
 R (.returned (.bool false)) w5)) (
 zQd prog ds w λw6=>
 R (.returned (.bool false)) w6)
theorem F146_p:Pl prog f146 [sS 0] yW7:=λR=>
 lf
theorem yJs (s0:ByteArray) (w:World) (R:Rt) (h:yW7 R s0 [] w):Calls prog 146 #[.string s0] w R:=
 plC F146_p func146 h
def xQ9(R:Rt)(ds:Ds)(w:World):Prop:=
 alE (.map #[] 0) w λr1 w1=>
 doE prog (Instr.mapUpdate 176 (.map (some r1)) (.int .i64 1) (.agg #[.int .u8 76,.int .i64 1,.int .i64 1,.func (.func 180) #[] #[],.func (.func 181) #[] #[]])) w1 λw2=>
 doE prog (Instr.mapUpdate 176 (.map (some r1)) (.int .i64 2) (.agg #[.int .u8 78,.int .i64 1,.int .i64 15,.func (.func 182) #[] #[],.func (.func 183) #[] #[]])) w2 λw3=>
 doE prog (Instr.mapUpdate 176 (.map (some r1)) (.int .i64 3) (.agg #[.int .u8 68,.int .i64 8,.int .i64 8,.func (.func 184) #[] #[],.func (.func 185) #[] #[]])) w3 λw4=>
 doE prog (Instr.mapUpdate 176 (.map (some r1)) (.int .i64 4) (.agg #[.int .u8 67,.int .i64 1,.int .i64 254,.func (.func 186) #[] #[],.func (.func 187) #[] #[]])) w4 λw5=>
 doE prog (Instr.mapUpdate 176 (.map (some r1)) (.int .i64 5) (.agg #[.int .u8 77,.int .i64 8,.int .i64 8,.func (.func 188) #[] #[],.func (.func 189) #[] #[]])) w5 λw6=>
 zQd prog ds w6 λw7=>
 R (.returned (.map (some r1))) w7
theorem F145_p:Pl prog f145 [] xQ9:=λR=>
 lf
theorem yJT  (w:World) (R:Rt) (h:xQ9 R [] w):Calls prog 145 #[] w R:=
 plC F145_p func145 h
def xQN(R:Rt)(n0:Int)(ds:Ds)(w:World):Prop:=
 Br (decide (n0 >= 0)) (
 zQd prog ds w λw1=>
 R (.returned (.bool (decide (n0<=2)))) w1) (
 zQd prog ds w λw2=>
 R (.returned (.bool false)) w2)
theorem F116_p:Pl prog f116 [iS 0] xQN:=λR=>
 lf
theorem yJV (n0:Int) (w:World) (R:Rt) (h:xQN R n0 [] w):Calls prog 116 #[.int .i64 n0] w R:=
 plC F116_p func116 h
def xZe(R:Rt)(aN:ByteArray)(aG aO:Int)(aP:Bool)(ds:Ds)(w:World):Prop:=
 alE (.cells #[.string aN,.int .i64 aG,.int .i64 aO,.bool aP] 129) w λr1 w1=>
 alE (.cells #[.int .i64 0,.int .i64 0,.string (⟨#[]⟩:ByteArray)] 73) w1 λr2 w2=>
 ∃n4,w2.cell? ((⟨r1,0,none⟩:Addr).add 1)=some (.int .i64 n4)/\
 Br (n4 == 5) (
 stA prog 73 (⟨r2,0,none⟩:Addr) #[.int .i64 2,.int .i64 0,.string (⟨#[]⟩:ByteArray)] w2 λw3=>
 zQd prog ds w3 λw4=>
 ∃ag,w4.cell? ((⟨r2,0,none⟩:Addr).add 0)=some (.int .i64 ag)/\
 ∃ap,w4.cell? ((⟨r2,0,none⟩:Addr).add 1)=some (.int .i64 ap)/\
 ∃aq,w4.cell? ((⟨r2,0,none⟩:Addr).add 2)=some (.string aq)/\
 R (.returned (.agg #[.int .i64 ag,.int .i64 ap,.string aq])) w4) (
 ∃n8,w2.cell? ((⟨r1,0,none⟩:Addr).add 1)=some (.int .i64 n8)/\
 stA prog 73 (⟨r2,0,none⟩:Addr) #[.int .i64 n8,.int .i64 0,.string (⟨#[]⟩:ByteArray)] w2 λw5=>
 zQd prog ds w5 λw6=>
 ∃ag,w6.cell? ((⟨r2,0,none⟩:Addr).add 0)=some (.int .i64 ag)/\
 ∃ap,w6.cell? ((⟨r2,0,none⟩:Addr).add 1)=some (.int .i64 ap)/\
 ∃aq,w6.cell? ((⟨r2,0,none⟩:Addr).add 2)=some (.string aq)/\
 R (.returned (.agg #[.int .i64 ag,.int .i64 ap,.string aq])) w6)
theorem F118_p:Pl prog f118 [aS 0 [.str,.int .i64,.int .i64,.bool]] xZe:=λR=>
 lf
theorem yKp (aN:ByteArray) (aG aO:Int) (aP:Bool) (w:World) (R:Rt) (h:xZe R aN aG aO aP [] w):Calls prog 118 #[.agg #[.string aN,.int .i64 aG,.int .i64 aO,.bool aP]] w R:=
 plC F118_p func118 h
end Go.Proofs.YtaeecpjhfmcliaaGreatDoor
/- Shallow texts of functions, printed by program, each checked by the kernel against the loaded code. No condition. -/
namespace Go.Proofs.YtaeecpjhfmcliaaGreatDoor
open Go.Sh Tryz
def yWq(R:Rt)(n1:Int)(s6:ByteArray)(ds:Ds)(w:World):Prop:=
 Calls prog 155 #[.string (⟨#[32]⟩:ByteArray),.int .i64 (IntKind.i64.wrap (n1 - (s6.size:Int)))] w λe w1=>
 ∃t6:ByteArray,e=.returned (.string t6)/\
 ((t6.size+s6.size:Nat):Int)<=9223372036854775807/\
 zQd prog ds w1 λw2=>
 R (.returned (.tuple #[.string (t6 ++ s6),.int .i64 0])) w2
def xX3(R:Rt)(n0 n1:Int)(ds:Ds)(w:World):Prop:=
 Calls prog 153 #[.int .i64 n0] w λe w3=>
 ∃b8:Bool,e=.returned (.bool b8)/\
 Br (!b8) (
 zQd prog ds w3 λw4=>
 R (.returned (.tuple #[.string (⟨#[]⟩:ByteArray),.int .i64 1])) w4) (
 Br (decide (n1<1)) (
 zQd prog ds w3 λw5=>
 R (.returned (.tuple #[.string (⟨#[]⟩:ByteArray),.int .i64 1])) w5) (
 Br (decide (n1 > 254)) (
 zQd prog ds w3 λw6=>
 R (.returned (.tuple #[.string (⟨#[]⟩:ByteArray),.int .i64 1])) w6) (
 Calls prog 154 #[.int .i64 n0] w3 λe w7=>
 ∃lB:ByteArray,e=.returned (.string lB)/\
 Br (decide ((lB.size:Int) > n1)) (
 Calls prog 155 #[.string (⟨#[42]⟩:ByteArray),.int .i64 n1] w7 λe w8=>
 ∃s25:ByteArray,e=.returned (.string s25)/\
 zQd prog ds w8 λw9=>
 R (.returned (.tuple #[.string s25,.int .i64 0])) w9) (
 yWq R n1 lB ds w7))))
theorem F121_p:Pl prog f121 [iS 0,iS 1] xX3:=λR=>
 pc 6 (rest [iS 1,sS 6] (yWq R) lf)
theorem yJu (n0 n1:Int) (w:World) (R:Rt) (h:xX3 R n0 n1 [] w):Calls prog 121 #[.int .i64 n0,.int .i64 n1] w R:=
 plC F121_p func121 h
def xQO(R:Rt)(n0:Int)(ds:Ds)(w:World):Prop:=
 Br (decide (n0<0)) (
 Calls prog 154 #[.int .i64 (IntKind.i64.wrap (0 - n0))] w λe w1=>
 ∃s8:ByteArray,e=.returned (.string s8)/\
 (((⟨#[45]⟩:ByteArray).size+s8.size:Nat):Int)<=9223372036854775807/\
 zQd prog ds w1 λw2=>
 R (.returned (.string ((⟨#[45]⟩:ByteArray) ++ s8))) w2) (
 Br (decide (n0<10)) (
 0<=(IntKind.i64.wrap (n0+1))/\(IntKind.i64.wrap (n0+1)).toNat<=(⟨#[48,49,50,51,52,53,54,55,56,57]⟩:ByteArray).size/\0<=n0/\n0.toNat<=(IntKind.i64.wrap (n0+1)).toNat/\
 zQd prog ds w λw3=>
 R (.returned (.string ((⟨#[48,49,50,51,52,53,54,55,56,57]⟩:ByteArray).extract n0.toNat ((IntKind.i64.wrap (n0+1)).toNat)))) w3) (
 dwE w λw4=>
 IntKind.i64=IntKind.i64/\(10:Int) ≠ 0/\
 IntKind.i64=IntKind.i64/\(10:Int) ≠ 0/\
 IntKind.i64=IntKind.i64/\(10:Int) ≠ 0/\
 0<=(IntKind.i64.wrap ((n0.tmod 10)+1))/\(IntKind.i64.wrap ((n0.tmod 10)+1)).toNat<=(⟨#[48,49,50,51,52,53,54,55,56,57]⟩:ByteArray).size/\0<=(n0.tmod 10)/\(n0.tmod 10).toNat<=(IntKind.i64.wrap ((n0.tmod 10)+1)).toNat/\
 Calls prog 154 #[.int .i64 (IntKind.i64.wrap (n0.tdiv 10))] w4 λe w5=>
 ∃lB:ByteArray,e=.returned (.string lB)/\
 ((lB.size+((⟨#[48,49,50,51,52,53,54,55,56,57]⟩:ByteArray).extract ((n0.tmod 10).toNat) ((IntKind.i64.wrap ((n0.tmod 10)+1)).toNat)).size:Nat):Int)<=9223372036854775807/\
 zQd prog ds w5 λw6=>
 R (.returned (.string (lB ++ ((⟨#[48,49,50,51,52,53,54,55,56,57]⟩:ByteArray).extract ((n0.tmod 10).toNat) ((IntKind.i64.wrap ((n0.tmod 10)+1)).toNat))))) w6))
theorem F154_p:Pl prog f154 [iS 0] xQO:=λR=>
 lf
theorem zV5 (n0:Int) (w:World) (R:Rt) (h:xQO R n0 [] w):Calls prog 154 #[.int .i64 n0] w R:=
 plC F154_p func154 h
end Go.Proofs.YtaeecpjhfmcliaaGreatDoor
/- Shallow texts of functions, printed by program, each checked by the kernel against the loaded code. No condition. -/
namespace Go.Proofs.YtaeecpjhfmcliaaGreatDoor
open Go.Sh Tryz
def xQ3(R:Rt)(s0:ByteArray)(n1:Int)(ds:Ds)(w:World):Prop:=
 Calls prog 152 #[.string s0,.int .i64 n1] w λe w1=>
 ∃mC:Bool,∃eQ:Int,e=.returned (.tuple #[.bool mC,.int .i64 eQ])/\
 Br mC (
 zQd prog ds w1 λw2=>
 R (.returned (.bool (eQ == 0))) w2) (
 zQd prog ds w1 λw3=>
 R (.returned (.bool false)) w3)
theorem F120_p:Pl prog f120 [sS 0,iS 1] xQ3:=λR=>
 lf
theorem yJK (s0:ByteArray) (n1:Int) (w:World) (R:Rt) (h:xQ3 R s0 n1 [] w):Calls prog 120 #[.string s0,.int .i64 n1] w R:=
 plC F120_p func120 h
def xQj(R:Rt)(ds:Ds)(w:World):Prop:=
 zQd prog ds w λw1=>
 R (.returned (.tuple #[.bool true,.int .i64 0])) w1
def xXg (R:Rt) (J1:(Int)->World->Prop) (p7:Option Addr) (cU:SV) (n22 iF:Int) (ds:Ds) (w:World):Prop:=
 Br (decide (iF<n22)) (
 ∃a2,cU.a=some a2/\0<=iF/\iF<(cU.len:Int)/\
 ∃bo,w.cell? (a2.add (iF.toNat * 1))=some (.int .u8 bo)/\
 zQf p7 λa3=>
 0<=bo/\bo<(256:Int)/\
 ∃n29,w.cell? (a3.add (bo.toNat * 1))=some (.int .i32 n29)/\
 Br (decide (n29<0)) (
 zQd prog ds w λw4=>
 R (.returned (.tuple #[.bool false,.int .i64 0])) w4) (
 J1 (IntKind.i64.wrap (iF+1)) w)) (
 xQj R ds w)
def xXx(R:Rt)(p7:Option Addr)(cU:SV)(n22 iF:Int)(ds:Ds)(w:World):Prop:=
 zQW (λ(J1:(Int)->World->Prop) (s:Int) (w:World)=>xXg R J1 p7 cU n22 s ds w) iF w
def xZl(R:Rt)(s0:ByteArray)(n1:Int)(ds:Ds)(w:World):Prop:=
 alE (.cells #[.string s0] 9) w λkh w5=>
 Calls prog 195 #[.int .i64 n1,.slice (some ⟨kh,0,none⟩) 1 1] w5 λe w6=>
 ∃cx:Int,e=.returned (.int .i64 cx)/\
 Br (cx != 0) (
 zQd prog ds w6 λw7=>
 R (.returned (.tuple #[.bool false,.int .i64 cx])) w7) (
 Calls prog 196 #[] w6 λe w8=>
 ∃t7:Array Value,t7.size=768/\e=.returned (.agg t7)/\
 ∃t8:Array Value,t8.size=256/\∃w9,(Instr.index 213 (.agg t7) (.int .i64 n1)).run prog w8=.ok (.agg t8) w9/\
 alE (.cells (zc prog 212) 212) w9 λr7 aM=>
 stA prog 212 (⟨r7,0,none⟩:Addr) t8 aM λaQ=>
 ∃cU:SV,∃aR,(convert 9 22 (.string s0)).run prog aQ=.ok (cU.v) aR/\
 xXx R (some (⟨r7,0,none⟩:Addr)) cU (cU.len:Int) 0 ds aR)
theorem F152_p:Pl prog f152 [sS 0,iS 1] xZl:=λR=>
 pc 6 (rest [pS 7,lS 21,iS 22,iS 23] (xXx R) (bk 0 (rest [] (xQj R) lf) (lp [iS 23] [pS 7,lS 21,iS 22,iS 23] (xXg R) zZU λJ1=>lf)))
theorem yJP (s0:ByteArray) (n1:Int) (w:World) (R:Rt) (h:xZl R s0 n1 [] w):Calls prog 152 #[.string s0,.int .i64 n1] w R:=
 plC F152_p func152 h
def xQu(R:Rt)(n0:Int)(ds:Ds)(w:World):Prop:=
 Br (decide (n0<0)) (
 zQd prog ds w λw1=>
 R (.returned (.int .i64 1)) w1) (
 Br (decide (n0 > 2)) (
 zQd prog ds w λw2=>
 R (.returned (.int .i64 1)) w2) (
 zQd prog ds w λw3=>
 R (.returned (.int .i64 0)) w3))
def xQz (R:Rt) (J1:(Int)->World->Prop) (n0:Int) (l7:SV) (n8 n9:Int) (ds:Ds) (w:World):Prop:=
 Br (decide (n9<n8)) (
 ∃a4,l7.a=some a4/\0<=n9/\n9<(l7.len:Int)/\
 ∃lO,w.cell? (a4.add (n9.toNat * 1))=some (.string lO)/\
 Br (decide ((lO.size:Int) > 2048)) (
 zQd prog ds w λw5=>
 R (.returned (.int .i64 3)) w5) (
 J1 (IntKind.i64.wrap (n9+1)) w)) (
 xQu R n0 ds w)
def xQm(R:Rt)(n0:Int)(l7:SV)(n8 n9:Int)(ds:Ds)(w:World):Prop:=
 zQW (λ(J1:(Int)->World->Prop) (s:Int) (w:World)=>xQz R J1 n0 l7 n8 s ds w) n9 w
def xXY(R:Rt)(n0:Int)(l1:SV)(ds:Ds)(w:World):Prop:=
 xQm R n0 l1 (l1.len:Int) 0 ds w
theorem F195_p:Pl prog f195 [iS 0,lS 1] xXY:=λR=>
 pc 2 (rest [iS 0,lS 7,iS 8,iS 9] (xQm R) (bk 0 (rest [iS 0] (xQu R) lf) (lp [iS 9] [iS 0,lS 7,iS 8,iS 9] (xQz R) zZU λJ1=>lf)))
theorem yJC (n0:Int) (l1:SV) (w:World) (R:Rt) (h:xXY R n0 l1 [] w):Calls prog 195 #[.int .i64 n0,l1.v] w R:=
 plC F195_p func195 h
def yV3(R:Rt)(p0 p1:Option Addr)(ds:Ds)(w:World):Prop:=
 zQf p1 λa1=>
 ∃ua:Array Value,ua.size=768/\(∀i,i<768->w.cell? (a1.add i)=ua[i]?)/\
 zQf p0 λa2=>
 stA prog 213 a2 ua w λw3=>
 zQd prog ds w3 λw4=>
 zQf p0 λa5=>
 ∃ub:Array Value,ub.size=768/\(∀i,i<768->w4.cell? (a5.add i)=ub[i]?)/\
 R (.returned (.agg ub)) w4
def xX8 (R:Rt) (J1:(Int)->World->Prop) (p0 p1:Option Addr) (n5:Int) (ds:Ds) (w:World):Prop:=
 Br (decide (n5<=239)) (
 zQf p1 λa6=>
 0<=(2:Int)/\(2:Int)<(3:Int)/\
 0<=n5/\n5<(256:Int)/\
 st1 ((a6.add ((2:Int).toNat * 256)).add (n5.toNat * 1)) (.int .i32 (IntKind.i32.wrap ((1088:Int)+(IntKind.i32.wrap (IntKind.i64.wrap (n5 - 224)))))) w λw7=>
 J1 (IntKind.i64.wrap (n5+1)) w7) (
 yV3 R p0 p1 ds w)
def xXR(R:Rt)(p0 p1:Option Addr)(n5:Int)(ds:Ds)(w:World):Prop:=
 zQW (λ(J1:(Int)->World->Prop) (s:Int) (w:World)=>xX8 R J1 p0 p1 s ds w) n5 w
def xZi(R:Rt)(p0 p1:Option Addr)(ds:Ds)(w:World):Prop:=
 xXR R p0 p1 224 ds w
def xZ8 (R:Rt) (J1:(Int)->World->Prop) (p0 p1:Option Addr) (n4:Int) (ds:Ds) (w:World):Prop:=
 Br (decide (n4<=175)) (
 zQf p1 λa8=>
 0<=(2:Int)/\(2:Int)<(3:Int)/\
 0<=n4/\n4<(256:Int)/\
 st1 ((a8.add ((2:Int).toNat * 256)).add (n4.toNat * 1)) (.int .i32 (IntKind.i32.wrap ((1040:Int)+(IntKind.i32.wrap (IntKind.i64.wrap (n4 - 128)))))) w λw9=>
 J1 (IntKind.i64.wrap (n4+1)) w9) (
 xZi R p0 p1 ds w)
def yYZ(R:Rt)(p0 p1:Option Addr)(n4:Int)(ds:Ds)(w:World):Prop:=
 zQW (λ(J1:(Int)->World->Prop) (s:Int) (w:World)=>xZ8 R J1 p0 p1 s ds w) n4 w
def xXS(R:Rt)(p0 p1:Option Addr)(ds:Ds)(w:World):Prop:=
 yYZ R p0 p1 128 ds w
def yKU (R:Rt) (J1:(Int)->World->Prop) (p0 p1:Option Addr) (n6:Int) (ds:Ds) (w:World):Prop:=
 Br (decide (n6<256)) (
 zQf p1 λej=>
 0<=(1:Int)/\(1:Int)<(3:Int)/\
 0<=n6/\n6<(256:Int)/\
 st1 ((ej.add ((1:Int).toNat * 256)).add (n6.toNat * 1)) (.int .i32 (IntKind.i32.wrap n6)) w λaQ=>
 Br (decide (n6 >= 128)) (
 zQf p1 λjs=>
 0<=(0:Int)/\(0:Int)<(3:Int)/\
 0<=n6/\n6<(256:Int)/\
 st1 ((js.add ((0:Int).toNat * 256)).add (n6.toNat * 1)) (.int .i32 (-1)) aQ λaZ=>
 zQf p1 λfG=>
 0<=(2:Int)/\(2:Int)<(3:Int)/\
 0<=n6/\n6<(256:Int)/\
 st1 ((fG.add ((2:Int).toNat * 256)).add (n6.toNat * 1)) (.int .i32 (-1)) aZ λbv=>
 J1 (IntKind.i64.wrap (n6+1)) bv) (
 zQf p1 λgp=>
 0<=(0:Int)/\(0:Int)<(3:Int)/\
 0<=n6/\n6<(256:Int)/\
 st1 ((gp.add ((0:Int).toNat * 256)).add (n6.toNat * 1)) (.int .i32 (IntKind.i32.wrap n6)) aQ λbA=>
 zQf p1 λiG=>
 0<=(2:Int)/\(2:Int)<(3:Int)/\
 0<=n6/\n6<(256:Int)/\
 st1 ((iG.add ((2:Int).toNat * 256)).add (n6.toNat * 1)) (.int .i32 (IntKind.i32.wrap n6)) bA λce=>
 J1 (IntKind.i64.wrap (n6+1)) ce)) (
 xXS R p0 p1 ds w)
def yWb(R:Rt)(p0 p1:Option Addr)(n6:Int)(ds:Ds)(w:World):Prop:=
 zQW (λ(J1:(Int)->World->Prop) (s:Int) (w:World)=>yKU R J1 p0 p1 s ds w) n6 w
def yVg(R:Rt)(ds:Ds)(w:World):Prop:=
 alE (.cells (zc prog 213) 213) w λr0 cf=>
 alE (.cells (zc prog 213) 213) cf λr1 bt=>
 yWb R (some (⟨r0,0,none⟩:Addr)) (some (⟨r1,0,none⟩:Addr)) 0 ds bt
theorem F196_p:Pl prog f196 [] yVg:=λR=>
 pc 3 (rest [pS 0,pS 1,iS 6] (yWb R) (bk 0 (rest [pS 0,pS 1] (xXS R) (pc 1 (rest [pS 0,pS 1,iS 4] (yYZ R) (bk 2 (rest [pS 0,pS 1] (xZi R) (pc 1 (rest [pS 0,pS 1,iS 5] (xXR R) (bk 4 (rest [pS 0,pS 1] (yV3 R) lf) (lp [iS 5] [pS 0,pS 1,iS 5] (xX8 R) zZU λJ1=>lf))))) (lp [iS 4] [pS 0,pS 1,iS 4] (xZ8 R) zZU λJ1=>lf))))) (lp [iS 6] [pS 0,pS 1,iS 6] (yKU R) zZU λJ1=>lf)))
theorem yJn  (w:World) (R:Rt) (h:yVg R [] w):Calls prog 196 #[] w R:=
 plC F196_p func196 h
end Go.Proofs.YtaeecpjhfmcliaaGreatDoor
/- Shallow texts of functions, printed by program, each checked by the kernel against the loaded code. No condition. -/
namespace Go.Proofs.YtaeecpjhfmcliaaGreatDoor
open Go.Sh Tryz
def F83_1(R:Rt)(n1:Int)(p3 p5 p6:Option Addr)(ki:Int)(ds:Ds)(w:World):Prop:=
 Br (ki == 4) (
 zQf p5 λa1=>
 ∃s46,w.cell? (a1.add 2)=some (.string s46)/\
 zQf p5 λa2=>
 ∃xA,w.cell? (a2.add 2)=some (.string xA)/\
 zQf p3 λa3=>
 ∃kG,w.cell? (a3.add 2)=some (.int .i64 kG)/\
 ∃mD:Int,∃w4,(Builtin.min_ #[3,3] 3 #[.int .i64 (xA.size:Int),.int .i64 kG]).run prog w=.ok (.int .i64 mD) w4/\
 0<=mD/\mD.toNat<=s46.size/\0<=mD.toNat/\
 Calls prog 119 #[.string (s46.extract 0 mD.toNat),.string (⟨#[32]⟩:ByteArray)] w4 λe w5=>
 ∃jT:ByteArray,e=.returned (.string jT)/\
 zQf p5 λa6=>
 st1 (a6.add 2) (.string jT) w5 λw7=>
 zQf p5 λa8=>
 ∃xB,w7.cell? (a8.add 2)=some (.string xB)/\
 Calls prog 120 #[.string xB,.int .i64 n1] w7 λe w9=>
 ∃xC:Bool,e=.returned (.bool xC)/\
 Br (!xC) (
 zQf p6 λej=>
 stA prog 73 ej #[.int .i64 0,.int .i64 0,.string (⟨#[]⟩:ByteArray)] w9 λaQ=>
 zQd prog ds aQ λaR=>
 zQf p6 λjS=>
 ∃ag,aR.cell? (jS.add 0)=some (.int .i64 ag)/\
 ∃ap,aR.cell? (jS.add 1)=some (.int .i64 ap)/\
 ∃aq,aR.cell? (jS.add 2)=some (.string aq)/\
 R (.returned (.tuple #[.agg #[.int .i64 ag,.int .i64 ap,.string aq],.int .i64 10])) aR) (
 zQf p5 λfG=>
 ∃c9,w9.cell? (fG.add 0)=some (.int .i64 c9)/\
 ∃da,w9.cell? (fG.add 1)=some (.int .i64 da)/\
 ∃db,w9.cell? (fG.add 2)=some (.string db)/\
 zQf p6 λgq=>
 stA prog 73 gq #[.int .i64 c9,.int .i64 da,.string db] w9 λbK=>
 zQd prog ds bK λbA=>
 zQf p6 λiG=>
 ∃ag,bA.cell? (iG.add 0)=some (.int .i64 ag)/\
 ∃ap,bA.cell? (iG.add 1)=some (.int .i64 ap)/\
 ∃aq,bA.cell? (iG.add 2)=some (.string aq)/\
 R (.returned (.tuple #[.agg #[.int .i64 ag,.int .i64 ap,.string aq],.int .i64 0])) bA)) (
 Br (ki == 2) (
 zQf p5 λlC=>
 ∃qH,w.cell? (lC.add 1)=some (.int .i64 qH)/\
 zQf p3 λa20=>
 ∃xD,w.cell? (a20.add 2)=some (.int .i64 xD)/\
 Calls prog 121 #[.int .i64 qH,.int .i64 xD] w λe bt=>
 ∃mE:ByteArray,∃mF:Int,e=.returned (.tuple #[.string mE,.int .i64 mF])/\
 Br (mF != 0) (
 zQf p6 λkP=>
 stA prog 73 kP #[.int .i64 0,.int .i64 0,.string (⟨#[]⟩:ByteArray)] bt λcy=>
 zQd prog ds cy λcS=>
 zQf p6 λkQ=>
 ∃ag,cS.cell? (kQ.add 0)=some (.int .i64 ag)/\
 ∃ap,cS.cell? (kQ.add 1)=some (.int .i64 ap)/\
 ∃aq,cS.cell? (kQ.add 2)=some (.string aq)/\
 R (.returned (.tuple #[.agg #[.int .i64 ag,.int .i64 ap,.string aq],.int .i64 10])) cS) (
 Calls prog 122 #[.string mE,.string (⟨#[42]⟩:ByteArray)] bt λe dB=>
 ∃xE:Bool,e=.returned (.bool xE)/\
 Br xE (
 zQf p6 λuc=>
 stA prog 73 uc #[.int .i64 0,.int .i64 0,.string (⟨#[]⟩:ByteArray)] dB λdN=>
 zQd prog ds dN λfg=>
 zQf p6 λpb=>
 ∃ag,fg.cell? (pb.add 0)=some (.int .i64 ag)/\
 ∃ap,fg.cell? (pb.add 1)=some (.int .i64 ap)/\
 ∃aq,fg.cell? (pb.add 2)=some (.string aq)/\
 R (.returned (.tuple #[.agg #[.int .i64 ag,.int .i64 ap,.string aq],.int .i64 10])) fg) (
 zQf p5 λud=>
 ∃c9,dB.cell? (ud.add 0)=some (.int .i64 c9)/\
 ∃da,dB.cell? (ud.add 1)=some (.int .i64 da)/\
 ∃db,dB.cell? (ud.add 2)=some (.string db)/\
 zQf p6 λue=>
 stA prog 73 ue #[.int .i64 c9,.int .i64 da,.string db] dB λiK=>
 zQd prog ds iK λdO=>
 zQf p6 λqI=>
 ∃ag,dO.cell? (qI.add 0)=some (.int .i64 ag)/\
 ∃ap,dO.cell? (qI.add 1)=some (.int .i64 ap)/\
 ∃aq,dO.cell? (qI.add 2)=some (.string aq)/\
 R (.returned (.tuple #[.agg #[.int .i64 ag,.int .i64 ap,.string aq],.int .i64 0])) dO))) (
 Br (ki == 5) (
 zQf p5 λmG=>
 ∃qJ,w.cell? (mG.add 1)=some (.int .i64 qJ)/\
 Br (decide (qJ<0)) (
 zQf p6 λa37=>
 stA prog 73 a37 #[.int .i64 0,.int .i64 0,.string (⟨#[]⟩:ByteArray)] w λlP=>
 zQd prog ds lP λfZ=>
 zQf p6 λlQ=>
 ∃ag,fZ.cell? (lQ.add 0)=some (.int .i64 ag)/\
 ∃ap,fZ.cell? (lQ.add 1)=some (.int .i64 ap)/\
 ∃aq,fZ.cell? (lQ.add 2)=some (.string aq)/\
 R (.returned (.tuple #[.agg #[.int .i64 ag,.int .i64 ap,.string aq],.int .i64 10])) fZ) (
 zQf p5 λzg=>
 ∃xF,w.cell? (zg.add 1)=some (.int .i64 xF)/\
 Br (decide (xF > 99999999)) (
 zQf p6 λuf=>
 stA prog 73 uf #[.int .i64 0,.int .i64 0,.string (⟨#[]⟩:ByteArray)] w λqK=>
 zQd prog ds qK λjt=>
 zQf p6 λpd=>
 ∃ag,jt.cell? (pd.add 0)=some (.int .i64 ag)/\
 ∃ap,jt.cell? (pd.add 1)=some (.int .i64 ap)/\
 ∃aq,jt.cell? (pd.add 2)=some (.string aq)/\
 R (.returned (.tuple #[.agg #[.int .i64 ag,.int .i64 ap,.string aq],.int .i64 10])) jt) (
 zQf p5 λa46=>
 ∃c9,w.cell? (a46.add 0)=some (.int .i64 c9)/\
 ∃da,w.cell? (a46.add 1)=some (.int .i64 da)/\
 ∃db,w.cell? (a46.add 2)=some (.string db)/\
 zQf p6 λzh=>
 stA prog 73 zh #[.int .i64 c9,.int .i64 da,.string db] w λip=>
 zQd prog ds ip λtz=>
 zQf p6 λpe=>
 ∃ag,tz.cell? (pe.add 0)=some (.int .i64 ag)/\
 ∃ap,tz.cell? (pe.add 1)=some (.int .i64 ap)/\
 ∃aq,tz.cell? (pe.add 2)=some (.string aq)/\
 R (.returned (.tuple #[.agg #[.int .i64 ag,.int .i64 ap,.string aq],.int .i64 0])) tz))) (
 zQf p5 λa51=>
 ∃c9,w.cell? (a51.add 0)=some (.int .i64 c9)/\
 ∃da,w.cell? (a51.add 1)=some (.int .i64 da)/\
 ∃db,w.cell? (a51.add 2)=some (.string db)/\
 zQf p6 λug=>
 stA prog 73 ug #[.int .i64 c9,.int .i64 da,.string db] w λmH=>
 zQd prog ds mH λtA=>
 zQf p6 λuh=>
 ∃ag,tA.cell? (uh.add 0)=some (.int .i64 ag)/\
 ∃ap,tA.cell? (uh.add 1)=some (.int .i64 ap)/\
 ∃aq,tA.cell? (uh.add 2)=some (.string aq)/\
 R (.returned (.tuple #[.agg #[.int .i64 ag,.int .i64 ap,.string aq],.int .i64 0])) tA)))
def F83_2(R:Rt)(aN:ByteArray)(aG aO:Int)(aP:Bool)(n1 iq ir:Int)(iu:ByteArray)(ds:Ds)(w:World):Prop:=
 alE (.cells #[.string aN,.int .i64 aG,.int .i64 aO,.bool aP] 129) w λr3 tB=>
 alE (.cells #[.int .i64 iq,.int .i64 ir,.string iu] 73) tB λr5 qL=>
 alE (.cells #[.int .i64 0,.int .i64 0,.string (⟨#[]⟩:ByteArray)] 73) qL λr6 lD=>
 ∃eR,lD.cell? ((⟨r3,0,none⟩:Addr).add 0)=some (.string eR)/\
 ∃bV,lD.cell? ((⟨r3,0,none⟩:Addr).add 1)=some (.int .i64 bV)/\
 ∃eV,lD.cell? ((⟨r3,0,none⟩:Addr).add 2)=some (.int .i64 eV)/\
 ∃eW,lD.cell? ((⟨r3,0,none⟩:Addr).add 3)=some (.bool eW)/\
 Calls prog 115 #[.agg #[.string eR,.int .i64 bV,.int .i64 eV,.bool eW]] lD λe jD=>
 ∃cz:Bool,e=.returned (.bool cz)/\
 Br (!cz) (
 stA prog 73 (⟨r6,0,none⟩:Addr) #[.int .i64 0,.int .i64 0,.string (⟨#[]⟩:ByteArray)] jD λkH=>
 zQd prog ds kH λmI=>
 ∃ag,mI.cell? ((⟨r6,0,none⟩:Addr).add 0)=some (.int .i64 ag)/\
 ∃ap,mI.cell? ((⟨r6,0,none⟩:Addr).add 1)=some (.int .i64 ap)/\
 ∃aq,mI.cell? ((⟨r6,0,none⟩:Addr).add 2)=some (.string aq)/\
 R (.returned (.tuple #[.agg #[.int .i64 ag,.int .i64 ap,.string aq],.int .i64 1])) mI) (
 Calls prog 116 #[.int .i64 n1] jD λe kR=>
 ∃fY:Bool,e=.returned (.bool fY)/\
 Br (!fY) (
 stA prog 73 (⟨r6,0,none⟩:Addr) #[.int .i64 0,.int .i64 0,.string (⟨#[]⟩:ByteArray)] kR λju=>
 zQd prog ds ju λjv=>
 ∃ag,jv.cell? ((⟨r6,0,none⟩:Addr).add 0)=some (.int .i64 ag)/\
 ∃ap,jv.cell? ((⟨r6,0,none⟩:Addr).add 1)=some (.int .i64 ap)/\
 ∃aq,jv.cell? ((⟨r6,0,none⟩:Addr).add 2)=some (.string aq)/\
 R (.returned (.tuple #[.agg #[.int .i64 ag,.int .i64 ap,.string aq],.int .i64 1])) jv) (
 ∃dc,kR.cell? ((⟨r5,0,none⟩:Addr).add 0)=some (.int .i64 dc)/\
 ∃bQ,kR.cell? ((⟨r5,0,none⟩:Addr).add 1)=some (.int .i64 bQ)/\
 ∃dd,kR.cell? ((⟨r5,0,none⟩:Addr).add 2)=some (.string dd)/\
 Calls prog 117 #[.agg #[.int .i64 dc,.int .i64 bQ,.string dd]] kR λe kj=>
 ∃kk:Int,e=.returned (.int .i64 kk)/\
 Br (kk != 0) (
 stA prog 73 (⟨r6,0,none⟩:Addr) #[.int .i64 0,.int .i64 0,.string (⟨#[]⟩:ByteArray)] kj λlR=>
 zQd prog ds lR λtC=>
 ∃ag,tC.cell? ((⟨r6,0,none⟩:Addr).add 0)=some (.int .i64 ag)/\
 ∃ap,tC.cell? ((⟨r6,0,none⟩:Addr).add 1)=some (.int .i64 ap)/\
 ∃aq,tC.cell? ((⟨r6,0,none⟩:Addr).add 2)=some (.string aq)/\
 R (.returned (.tuple #[.agg #[.int .i64 ag,.int .i64 ap,.string aq],.int .i64 kk])) tC) (
 ∃n27,kj.cell? (⟨r5,0,none⟩:Addr)=some (.int .i64 n27)/\
 Br (n27 == 0) (
 ∃qM,kj.cell? ((⟨r3,0,none⟩:Addr).add 3)=some (.bool qM)/\
 Br (!qM) (
 stA prog 73 (⟨r6,0,none⟩:Addr) #[.int .i64 0,.int .i64 0,.string (⟨#[]⟩:ByteArray)] kj λqN=>
 zQd prog ds qN λlT=>
 ∃ag,lT.cell? ((⟨r6,0,none⟩:Addr).add 0)=some (.int .i64 ag)/\
 ∃ap,lT.cell? ((⟨r6,0,none⟩:Addr).add 1)=some (.int .i64 ap)/\
 ∃aq,lT.cell? ((⟨r6,0,none⟩:Addr).add 2)=some (.string aq)/\
 R (.returned (.tuple #[.agg #[.int .i64 ag,.int .i64 ap,.string aq],.int .i64 7])) lT) (
 ∃iL,kj.cell? ((⟨r5,0,none⟩:Addr).add 0)=some (.int .i64 iL)/\
 ∃iM,kj.cell? ((⟨r5,0,none⟩:Addr).add 1)=some (.int .i64 iM)/\
 ∃iN,kj.cell? ((⟨r5,0,none⟩:Addr).add 2)=some (.string iN)/\
 stA prog 73 (⟨r6,0,none⟩:Addr) #[.int .i64 iL,.int .i64 iM,.string iN] kj λui=>
 zQd prog ds ui λlU=>
 ∃ag,lU.cell? ((⟨r6,0,none⟩:Addr).add 0)=some (.int .i64 ag)/\
 ∃ap,lU.cell? ((⟨r6,0,none⟩:Addr).add 1)=some (.int .i64 ap)/\
 ∃aq,lU.cell? ((⟨r6,0,none⟩:Addr).add 2)=some (.string aq)/\
 R (.returned (.tuple #[.agg #[.int .i64 ag,.int .i64 ap,.string aq],.int .i64 0])) lU)) (
 dwE kj λqO=>
 ∃S1:World->Prop,S1 qO/\
 ∃n35,(∀w',S1 w'->w'.cell? (⟨r5,0,none⟩:Addr)=some (.int .i64 n35))/\
 ∃mJ,(∀w',S1 w'->w'.cell? ((⟨r3,0,none⟩:Addr).add 0)=some (.string mJ))/\
 ∃mK,(∀w',S1 w'->w'.cell? ((⟨r3,0,none⟩:Addr).add 1)=some (.int .i64 mK))/\
 ∃mL,(∀w',S1 w'->w'.cell? ((⟨r3,0,none⟩:Addr).add 2)=some (.int .i64 mL))/\
 ∃mM,(∀w',S1 w'->w'.cell? ((⟨r3,0,none⟩:Addr).add 3)=some (.bool mM))/\
 Calls prog 118 #[.agg #[.string mJ,.int .i64 mK,.int .i64 mL,.bool mM]] qO λe pY=>
 ∃iO:Int,∃qP:Int,∃qQ:ByteArray,e=.returned (.agg #[.int .i64 iO,.int .i64 qP,.string qQ])/\
 S1 pY/\
 Br (n35 != iO) (
 stA prog 73 (⟨r6,0,none⟩:Addr) #[.int .i64 0,.int .i64 0,.string (⟨#[]⟩:ByteArray)] pY λpf=>
 zQd prog ds pf λjE=>
 ∃ag,jE.cell? ((⟨r6,0,none⟩:Addr).add 0)=some (.int .i64 ag)/\
 ∃ap,jE.cell? ((⟨r6,0,none⟩:Addr).add 1)=some (.int .i64 ap)/\
 ∃aq,jE.cell? ((⟨r6,0,none⟩:Addr).add 2)=some (.string aq)/\
 R (.returned (.tuple #[.agg #[.int .i64 ag,.int .i64 ap,.string aq],.int .i64 6])) jE) (
 ∃ki,pY.cell? ((⟨r3,0,none⟩:Addr).add 1)=some (.int .i64 ki)/\
 F83_1 R n1 (some (⟨r3,0,none⟩:Addr)) (some (⟨r5,0,none⟩:Addr)) (some (⟨r6,0,none⟩:Addr)) ki ds pY)))))
theorem F83_p:Pl prog f83 [aS 0 [.str,.int .i64,.int .i64,.bool],iS 1,aS 2 [.int .i64,.int .i64,.str]] F83_2:=λR=>
 pc 11 (rest [iS 1,pS 3,pS 5,pS 6,iS 42] (F83_1 R) lf)
theorem yKT (aN:ByteArray) (aG aO:Int) (aP:Bool) (n1 iq ir:Int) (iu:ByteArray) (w:World) (R:Rt) (h:F83_2 R aN aG aO aP n1 iq ir iu [] w):Calls prog 83 #[.agg #[.string aN,.int .i64 aG,.int .i64 aO,.bool aP],.int .i64 n1,.agg #[.int .i64 iq,.int .i64 ir,.string iu]] w R:=
 plC F83_p func83 h
end Go.Proofs.YtaeecpjhfmcliaaGreatDoor
/- Shallow texts of functions, printed by program, each checked by the kernel against the loaded code. No condition. -/
namespace Go.Proofs.YtaeecpjhfmcliaaGreatDoor
open Go.Sh Tryz
def xX6(R:Rt)(l0:SV)(ds:Ds)(w:World):Prop:=
 Br (decide ((l0.len:Int) > 16)) (
 zQd prog ds w λw1=>
 R (.returned (.int .i64 3)) w1) (
 Calls prog 161 #[l0.v] w λe w2=>
 ∃n33:Int,e=.returned (.int .i64 n33)/\
 Br (decide (n33 > 2000)) (
 zQd prog ds w2 λw3=>
 R (.returned (.int .i64 3)) w3) (
 zQd prog ds w2 λw4=>
 R (.returned (.int .i64 0)) w4))
def xXD (R:Rt) (J1:(Int)->World->Prop) (l0:SV) (m3:Option Nat) (bL:SV) (iP n16:Int) (ds:Ds) (w:World):Prop:=
 Br (decide (n16<iP)) (
 ∃a5,bL.a=some a5/\0<=n16/\n16<(bL.len:Int)/\
 ∃iQ,w.cell? ((a5.add (n16.toNat * 4)).add 0)=some (.string iQ)/\
 ∃bR,w.cell? ((a5.add (n16.toNat * 4)).add 1)=some (.int .i64 bR)/\
 ∃iR,w.cell? ((a5.add (n16.toNat * 4)).add 2)=some (.int .i64 iR)/\
 ∃iT,w.cell? ((a5.add (n16.toNat * 4)).add 3)=some (.bool iT)/\
 alE (.cells #[.string (⟨#[]⟩:ByteArray),.int .i64 0,.int .i64 0,.bool false] 129) w λr5 w6=>
 stA prog 129 (⟨r5,0,none⟩:Addr) #[.string iQ,.int .i64 bR,.int .i64 iR,.bool iT] w6 λw7=>
 ∃xG,w7.cell? (⟨r5,0,none⟩:Addr)=some (.string xG)/\
 ∃tD:Bool,∃w8,(Instr.lookup 206 (.map m3) (.string xG) false).run prog w7=.ok (.bool tD) w8/\
 Br tD (
 zQd prog ds w8 λw9=>
 R (.returned (.int .i64 5)) w9) (
 ∃xH,w8.cell? (⟨r5,0,none⟩:Addr)=some (.string xH)/\
 doE prog (Instr.mapUpdate 206 (.map m3) (.string xH) (.bool true)) w8 λaM=>
 J1 (IntKind.i64.wrap (n16+1)) aM)) (
 xX6 R l0 ds w)
def xX9(R:Rt)(l0:SV)(m3:Option Nat)(bL:SV)(iP n16:Int)(ds:Ds)(w:World):Prop:=
 zQW (λ(J1:(Int)->World->Prop) (s:Int) (w:World)=>xXD R J1 l0 m3 bL iP s ds w) n16 w
def xZn(R:Rt)(l0:SV)(ds:Ds)(w:World):Prop:=
 Br ((l0.len:Int) == 0) (
 zQd prog ds w λaQ=>
 R (.returned (.int .i64 1)) aQ) (
 Calls prog 178 #[l0.v,.func (.func 179) #[] #[]] w λe aR=>
 ∃km:Bool,e=.returned (.bool km)/\
 Br km (
 zQd prog ds aR λaZ=>
 R (.returned (.int .i64 1)) aZ) (
 alE (.map #[] 0) aR λmN bI=>
 xX9 R l0 (some mN) l0 (l0.len:Int) 0 ds bI))
theorem F141_p:Pl prog f141 [lS 0] xZn:=λR=>
 pc 5 (rest [lS 0,mS 3,lS 14,iS 15,iS 16] (xX9 R) (bk 0 (rest [lS 0] (xX6 R) lf) (lp [iS 16] [lS 0,mS 3,lS 14,iS 15,iS 16] (xXD R) zZU λJ1=>lf)))
theorem yJ4 (l0:SV) (w:World) (R:Rt) (h:xZn R l0 [] w):Calls prog 141 #[l0.v] w R:=
 plC F141_p func141 h
def xQ7(R:Rt)(l0:SV)(v1:Value)(ds:Ds)(w:World):Prop:=
 Calls prog 113 #[l0.v,v1] w λe w1=>
 ∃n7:Int,e=.returned (.int .i64 n7)/\
 zQd prog ds w1 λw2=>
 R (.returned (.bool (decide (n7 >= 0)))) w2
theorem F178_p:Pl prog f178 [lS 0,vS 1] xQ7:=λR=>
 lf
theorem yKi (l0:SV) (v1:Value) (w:World) (R:Rt) (h:xQ7 R l0 v1 [] w):Calls prog 178 #[l0.v,v1] w R:=
 plC F178_p func178 h
def xQs(R:Rt)(aN:ByteArray)(aG aO:Int)(aP:Bool)(ds:Ds)(w:World):Prop:=
 alE (.cells #[.string aN,.int .i64 aG,.int .i64 aO,.bool aP] 129) w λr1 w1=>
 ∃qR,w1.cell? ((⟨r1,0,none⟩:Addr).add 0)=some (.string qR)/\
 ∃jF,w1.cell? ((⟨r1,0,none⟩:Addr).add 1)=some (.int .i64 jF)/\
 ∃qS,w1.cell? ((⟨r1,0,none⟩:Addr).add 2)=some (.int .i64 qS)/\
 ∃qT,w1.cell? ((⟨r1,0,none⟩:Addr).add 3)=some (.bool qT)/\
 Calls prog 115 #[.agg #[.string qR,.int .i64 jF,.int .i64 qS,.bool qT]] w1 λe w2=>
 ∃b4:Bool,e=.returned (.bool b4)/\
 zQd prog ds w2 λw3=>
 R (.returned (.bool (!b4))) w3
theorem F179_p:Pl prog f179 [aS 0 [.str,.int .i64,.int .i64,.bool]] xQs:=λR=>
 lf
theorem yJl (aN:ByteArray) (aG aO:Int) (aP:Bool) (w:World) (R:Rt) (h:xQs R aN aG aO aP [] w):Calls prog 179 #[.agg #[.string aN,.int .i64 aG,.int .i64 aO,.bool aP]] w R:=
 plC F179_p func179 h
def xXu(R:Rt)(n3:Int)(ds:Ds)(w:World):Prop:=
 zQd prog ds w λw1=>
 R (.returned (.int .i64 n3)) w1
def xZA (R:Rt) (J1:(Int × Int)->World->Prop) (n3:Int) (l9:SV) (fh cq:Int) (ds:Ds) (w:World):Prop:=
 Br (decide (cq<fh)) (
 ∃a2,l9.a=some a2/\0<=cq/\cq<(l9.len:Int)/\
 ∃mO,w.cell? ((a2.add (cq.toNat * 4)).add 0)=some (.string mO)/\
 ∃iU,w.cell? ((a2.add (cq.toNat * 4)).add 1)=some (.int .i64 iU)/\
 ∃mP,w.cell? ((a2.add (cq.toNat * 4)).add 2)=some (.int .i64 mP)/\
 ∃mQ,w.cell? ((a2.add (cq.toNat * 4)).add 3)=some (.bool mQ)/\
 alE (.cells #[.string (⟨#[]⟩:ByteArray),.int .i64 0,.int .i64 0,.bool false] 129) w λr5 w3=>
 stA prog 129 (⟨r5,0,none⟩:Addr) #[.string mO,.int .i64 iU,.int .i64 mP,.bool mQ] w3 λw4=>
 ∃kg,w4.cell? ((⟨r5,0,none⟩:Addr).add 2)=some (.int .i64 kg)/\
 J1 ((IntKind.i64.wrap (n3+kg)),(IntKind.i64.wrap (cq+1))) w4) (
 xXu R n3 ds w)
def xXO(R:Rt)(n3:Int)(l9:SV)(fh cq:Int)(ds:Ds)(w:World):Prop:=
 zQW (λ(J1:(Int × Int)->World->Prop) (s:Int × Int) (w:World)=>xZA R J1 s.1 l9 fh s.2 ds w) (n3,cq) w
def xZD(R:Rt)(l0:SV)(ds:Ds)(w:World):Prop:=
 Calls prog 203 #[l0.v] w λe w5=>
 ∃n7:Int,e=.returned (.int .i64 n7)/\
 xXO R (IntKind.i64.wrap ((1:Int)+n7)) l0 (l0.len:Int) 0 ds w5
theorem F161_p:Pl prog f161 [lS 0] xZD:=λR=>
 pc 3 (rest [iS 3,lS 9,iS 10,iS 11] (xXO R) (bk 0 (rest [iS 3] (xXu R) lf) (lp [iS 3,iS 11] [iS 3,lS 9,iS 10,iS 11] (xZA R) zZU λJ1=>lf)))
theorem yJm (l0:SV) (w:World) (R:Rt) (h:xZD R l0 [] w):Calls prog 161 #[l0.v] w R:=
 plC F161_p func161 h
def xXz(R:Rt)(n3:Int)(ds:Ds)(w:World):Prop:=
 IntKind.i64=IntKind.i64/\(8:Int) ≠ 0/\
 zQd prog ds w λw1=>
 R (.returned (.int .i64 (IntKind.i64.wrap ((IntKind.i64.wrap (n3+7)).tdiv 8)))) w1
def xZ6 (R:Rt) (J1:(Int × Int)->World->Prop) (n3:Int) (l6:SV) (n7 n8:Int) (ds:Ds) (w:World):Prop:=
 Br (decide (n8<n7)) (
 ∃a2,l6.a=some a2/\0<=n8/\n8<(l6.len:Int)/\
 ∃eR,w.cell? ((a2.add (n8.toNat * 4)).add 0)=some (.string eR)/\
 ∃bV,w.cell? ((a2.add (n8.toNat * 4)).add 1)=some (.int .i64 bV)/\
 ∃eV,w.cell? ((a2.add (n8.toNat * 4)).add 2)=some (.int .i64 eV)/\
 ∃eW,w.cell? ((a2.add (n8.toNat * 4)).add 3)=some (.bool eW)/\
 alE (.cells #[.string (⟨#[]⟩:ByteArray),.int .i64 0,.int .i64 0,.bool false] 129) w λr5 w3=>
 stA prog 129 (⟨r5,0,none⟩:Addr) #[.string eR,.int .i64 bV,.int .i64 eV,.bool eW] w3 λw4=>
 ∃lV,w4.cell? ((⟨r5,0,none⟩:Addr).add 3)=some (.bool lV)/\
 Br lV (
 J1 ((IntKind.i64.wrap (n3+1)),(IntKind.i64.wrap (n8+1))) w4) (
 J1 (n3,(IntKind.i64.wrap (n8+1))) w4)) (
 xXz R n3 ds w)
def xQw(R:Rt)(n3:Int)(l6:SV)(n7 n8:Int)(ds:Ds)(w:World):Prop:=
 zQW (λ(J1:(Int × Int)->World->Prop) (s:Int × Int) (w:World)=>xZ6 R J1 s.1 l6 n7 s.2 ds w) (n3,n8) w
def xZx(R:Rt)(l0:SV)(ds:Ds)(w:World):Prop:=
 xQw R 0 l0 (l0.len:Int) 0 ds w
theorem F203_p:Pl prog f203 [lS 0] xZx:=λR=>
 pc 3 (rest [iS 3,lS 6,iS 7,iS 8] (xQw R) (bk 0 (rest [iS 3] (xXz R) lf) (lp [iS 3,iS 8] [iS 3,lS 6,iS 7,iS 8] (xZ6 R) zZU λJ1=>lf)))
theorem yJA (l0:SV) (w:World) (R:Rt) (h:xZx R l0 [] w):Calls prog 203 #[l0.v] w R:=
 plC F203_p func203 h
end Go.Proofs.YtaeecpjhfmcliaaGreatDoor
/- Shallow texts of functions, printed by program, each checked by the kernel against the loaded code. No condition. -/
namespace Go.Proofs.YtaeecpjhfmcliaaGreatDoor
open Go.Sh Tryz
def xZo(R:Rt)(ds:Ds)(w:World):Prop:=
 zQd prog ds w λw1=>
 R (.returned (.int .i64 (-1))) w1
def xZj (R:Rt) (J1:(Int)->World->Prop) (l0:SV) (v1:Value) (n7 n8:Int) (ds:Ds) (w:World):Prop:=
 Br (decide (n8<n7)) (
 ∃a2,l0.a=some a2/\0<=n8/\n8<(l0.len:Int)/\
 ∃mR,w.cell? ((a2.add (n8.toNat * 4)).add 0)=some (.string mR)/\
 ∃ed,w.cell? ((a2.add (n8.toNat * 4)).add 1)=some (.int .i64 ed)/\
 ∃mT,w.cell? ((a2.add (n8.toNat * 4)).add 2)=some (.int .i64 mT)/\
 ∃mU,w.cell? ((a2.add (n8.toNat * 4)).add 3)=some (.bool mU)/\
 fnE v1 λf16 first16 qU=>
 zQt prog f16=true/\Calls prog f16 (first16.toList ++ (([.agg #[.string mR,.int .i64 ed,.int .i64 mT,.bool mU]]:List Value) ++ qU.toList)).toArray w λe w3=>
 ∃fY:Bool,e=.returned (.bool fY)/\
 Br fY (
 zQd prog ds w3 λw4=>
 R (.returned (.int .i64 n8)) w4) (
 J1 (IntKind.i64.wrap (n8+1)) w3)) (
 xZo R ds w)
def xZm(R:Rt)(l0:SV)(v1:Value)(n7 n8:Int)(ds:Ds)(w:World):Prop:=
 zQW (λ(J1:(Int)->World->Prop) (s:Int) (w:World)=>xZj R J1 l0 v1 n7 s ds w) n8 w
def xQl(R:Rt)(l0:SV)(v1:Value)(ds:Ds)(w:World):Prop:=
 xZm R l0 (v1) (l0.len:Int) 0 ds w
theorem F113_p:Pl prog f113 [lS 0,vS 1] xQl:=λR=>
 pc 2 (rest [lS 0,vS 1,iS 7,iS 8] (xZm R) (bk 0 (rest [] (xZo R) lf) (lp [iS 8] [lS 0,vS 1,iS 7,iS 8] (xZj R) zZU λJ1=>lf)))
theorem yJy (l0:SV) (v1:Value) (w:World) (R:Rt) (h:xQl R l0 v1 [] w):Calls prog 113 #[l0.v,v1] w R:=
 plC F113_p func113 h
def xQV(R:Rt)(aN:ByteArray)(aG aO:Int)(aP:Bool)(v1:Value)(ds:Ds)(w:World):Prop:=
 alE (.cells #[.string aN,.int .i64 aG,.int .i64 aO,.bool aP] 129) w λr2 w1=>
 ∃s5,w1.cell? (⟨r2,0,none⟩:Addr)=some (.string s5)/\
 zK9 v1 λa2=>
 ∃s6,w1.cell? a2=some (.string s6)/\
 zQd prog ds w1 λw3=>
 R (.returned (.bool (s5.toList == s6.toList))) w3
theorem F114_p:Pl prog f114 [aS 0 [.str,.int .i64,.int .i64,.bool],vS 1] xQV:=λR=>
 lf
theorem yJY (aN:ByteArray) (aG aO:Int) (aP:Bool) (v1:Value) (w:World) (R:Rt) (h:xQV R aN aG aO aP v1 [] w):Calls prog 114 #[.agg #[.string aN,.int .i64 aG,.int .i64 aO,.bool aP],v1] w R:=
 plC F114_p func114 h
def F82_1(R:Rt)(l0:SV)(s1:ByteArray)(ds:Ds)(w:World):Prop:=
 alE (.cells #[.string s1] 9) w λr3 w1=>
 Calls prog 113 #[l0.v,.func (.func 114) #[] #[.pointer (some (⟨r3,0,none⟩:Addr))]] w1 λe w2=>
 ∃n9:Int,e=.returned (.int .i64 n9)/\
 ∃cq:Int,∃w3,(Builtin.max_ #[3,3] 3 #[.int .i64 n9,.int .i64 0]).run prog w2=.ok (.int .i64 cq) w3/\
 zQd prog ds w3 λw4=>
 R (.returned (.tuple #[.int .i64 cq,.bool (decide (n9 >= 0))])) w4
theorem F82_p:Pl prog f82 [lS 0,sS 1] F82_1:=λR=>
 lf
theorem yVx (l0:SV) (s1:ByteArray) (w:World) (R:Rt) (h:F82_1 R l0 s1 [] w):Calls prog 82 #[l0.v,.string s1] w R:=
 plC F82_p func82 h
end Go.Proofs.YtaeecpjhfmcliaaGreatDoor
/- Shallow texts of functions, printed by program, each checked by the kernel against the loaded code. No condition. -/
namespace Go.Proofs.YtaeecpjhfmcliaaGreatDoor
open Go.Sh Tryz
def xZf(R:Rt)(ds:Ds)(w:World):Prop:=
 zQd prog ds w λw1=>
 R (.returned (.int .i64 0)) w1
def yVq (R:Rt) (J1:(Int)->World->Prop) (p1:Option Addr) (eF:SV) (ko n25:Int) (ds:Ds) (w:World):Prop:=
 J1 (IntKind.i64.wrap (n25+1)) w
def xQI (R:Rt) (J1:(Int)->World->Prop) (J2:(Int)->World->Prop) (p1 p5:Option Addr) (eF:SV) (ko n25:Int) (cV:SV) (n38 n39:Int) (ds:Ds) (w:World):Prop:=
 Br (decide (n39<n38)) (
 ∃a2,cV.a=some a2/\0<=n39/\n39<(cV.len:Int)/\
 ∃mV,w.cell? ((a2.add (n39.toNat * 4)).add 0)=some (.string mV)/\
 ∃mW,w.cell? ((a2.add (n39.toNat * 4)).add 1)=some (.int .i64 mW)/\
 ∃mX,w.cell? ((a2.add (n39.toNat * 4)).add 2)=some (.int .i64 mX)/\
 ∃mY,w.cell? ((a2.add (n39.toNat * 4)).add 3)=some (.bool mY)/\
 alE (.cells #[.string (⟨#[]⟩:ByteArray),.int .i64 0,.int .i64 0,.bool false] 129) w λr7 w3=>
 stA prog 129 (⟨r7,0,none⟩:Addr) #[.string mV,.int .i64 mW,.int .i64 mX,.bool mY] w3 λw4=>
 dwE w4 λw5=>
 ∃mZ,w5.cell? ((⟨r7,0,none⟩:Addr).add 0)=some (.string mZ)/\
 ∃m0,w5.cell? ((⟨r7,0,none⟩:Addr).add 1)=some (.int .i64 m0)/\
 ∃m4,w5.cell? ((⟨r7,0,none⟩:Addr).add 2)=some (.int .i64 m4)/\
 ∃m7,w5.cell? ((⟨r7,0,none⟩:Addr).add 3)=some (.bool m7)/\
 zQf p1 λa6=>
 ∃fV,w5.cell? a6=some (.int .i64 fV)/\
 zQf p5 λa7=>
 ∃iV:SV,w5.cell? (a7.add 1)=some (iV.v)/\
 ∃a8,iV.a=some a8/\0<=n39/\n39<(iV.len:Int)/\
 ∃m8,w5.cell? ((a8.add (n39.toNat * 3)).add 0)=some (.int .i64 m8)/\
 ∃na,w5.cell? ((a8.add (n39.toNat * 3)).add 1)=some (.int .i64 na)/\
 ∃nc,w5.cell? ((a8.add (n39.toNat * 3)).add 2)=some (.string nc)/\
 Calls prog 142 #[.agg #[.string mZ,.int .i64 m0,.int .i64 m4,.bool m7],.int .i64 fV,.agg #[.int .i64 m8,.int .i64 na,.string nc]] w5 λe w9=>
 ∃xI:Bool,e=.returned (.bool xI)/\
 Br (!xI) (
 zQd prog ds w9 λaM=>
 R (.returned (.int .i64 1)) aM) (
 J2 (IntKind.i64.wrap (n39+1)) w9)) (
 yVq R J1 p1 eF ko n25 ds w)
def xQ8 (R:Rt) (J1:(Int)->World->Prop) (p1 p5:Option Addr) (eF:SV) (ko n25:Int) (cV:SV) (n38 n39:Int) (ds:Ds) (w:World):Prop:=
 zQW (λ(J2:(Int)->World->Prop) (s:Int) (w:World)=>xQI R J1 J2 p1 p5 eF ko n25 cV n38 s ds w) n39 w
def xXF (R:Rt) (J1:(Int)->World->Prop) (p1:Option Addr) (eF:SV) (ko n25:Int) (ds:Ds) (w:World):Prop:=
 ∃cT,eF.a=some cT/\0<=n25/\n25<(eF.len:Int)/\
 ∃iW,w.cell? ((cT.add (n25.toNat * 2)).add 0)=some (.bool iW)/\
 ∃cA:SV,w.cell? ((cT.add (n25.toNat * 2)).add 1)=some (cA.v)/\
 alE (.cells #[.bool false,.slice none 0 0] 67) w λr5 aR=>
 stA prog 67 (⟨r5,0,none⟩:Addr) #[.bool iW,cA.v] aR λaZ=>
 ∃lW:SV,aZ.cell? ((⟨r5,0,none⟩:Addr).add 1)=some (lW.v)/\
 zQf p1 λfG=>
 ∃d7:SV,aZ.cell? (fG.add 1)=some (d7.v)/\
 Br ((lW.len:Int) != (d7.len:Int)) (
 zQd prog ds aZ λbv=>
 R (.returned (.int .i64 10)) bv) (
 zQf p1 λgp=>
 ∃cV:SV,aZ.cell? (gp.add 1)=some (cV.v)/\
 xQ8 R J1 p1 (some (⟨r5,0,none⟩:Addr)) eF ko n25 cV (cV.len:Int) 0 ds aZ)
def xXl (R:Rt) (J1:(Int)->World->Prop) (p1:Option Addr) (eF:SV) (ko n25:Int) (ds:Ds) (w:World):Prop:=
 Br (decide (n25<ko)) (
 xXF R J1 p1 eF ko n25 ds w) (
 xZf R ds w)
def xXX(R:Rt)(p1:Option Addr)(eF:SV)(ko n25:Int)(ds:Ds)(w:World):Prop:=
 zQW (λ(J1:(Int)->World->Prop) (s:Int) (w:World)=>xXl R J1 p1 eF ko s ds w) n25 w
def yKX(R:Rt)(aF:Int)(az ar:SV)(ds:Ds)(w:World):Prop:=
 alE (.cells #[.int .i64 aF,az.v,ar.v] 35) w λr1 bA=>
 ∃n9,bA.cell? (⟨r1,0,none⟩:Addr)=some (.int .i64 n9)/\
 Calls prog 116 #[.int .i64 n9] bA λe bY=>
 ∃cr:Bool,e=.returned (.bool cr)/\
 Br (!cr) (
 zQd prog ds bY λce=>
 R (.returned (.int .i64 1)) ce) (
 ∃eo:SV,bY.cell? ((⟨r1,0,none⟩:Addr).add 1)=some (eo.v)/\
 Calls prog 141 #[eo.v] bY λe cf=>
 ∃n14:Int,e=.returned (.int .i64 n14)/\
 Br (n14 != 0) (
 zQd prog ds cf λbt=>
 R (.returned (.int .i64 n14)) bt) (
 ∃cu:SV,cf.cell? ((⟨r1,0,none⟩:Addr).add 2)=some (cu.v)/\
 Br (decide ((cu.len:Int) > 300)) (
 zQd prog ds cf λeu=>
 R (.returned (.int .i64 3)) eu) (
 ∃eF:SV,cf.cell? ((⟨r1,0,none⟩:Addr).add 2)=some (eF.v)/\
 xXX R (some (⟨r1,0,none⟩:Addr)) eF (eF.len:Int) 0 ds cf)))
theorem F106_p:Pl prog f106 [aS 0 [.int .i64,.slice,.slice]] yKX:=λR=>
 pc 9 (rest [pS 1,lS 23,iS 24,iS 25] (xXX R) (bk 0 (rest [] (xZf R) lf) (lp [iS 25] [pS 1,lS 23,iS 24,iS 25] (xXl R) zZU λJ1=>pc 2 (rest [pS 1,lS 23,iS 24,iS 25] (xXF R J1) (bk 1 (rest [pS 1,lS 23,iS 24,iS 25] (yVq R J1) lf) (pc 4 (rest [pS 1,pS 5,lS 23,iS 24,iS 25,lS 37,iS 38,iS 39] (xQ8 R J1) (bk 2 zZU (lp [iS 39] [pS 1,pS 5,lS 23,iS 24,iS 25,lS 37,iS 38,iS 39] (xQI R J1) zZU λJ2=>lf)))))))))
theorem yKs (aF:Int) (az ar:SV) (w:World) (R:Rt) (h:yKX R aF az ar [] w):Calls prog 106 #[.agg #[.int .i64 aF,az.v,ar.v]] w R:=
 plC F106_p func106 h
def xQM(R:Rt)(aN:ByteArray)(aG aO:Int)(aP:Bool)(n1 iq ir:Int)(iu:ByteArray)(ds:Ds)(w:World):Prop:=
 alE (.cells #[.string aN,.int .i64 aG,.int .i64 aO,.bool aP] 129) w λr3 w1=>
 alE (.cells #[.int .i64 iq,.int .i64 ir,.string iu] 73) w1 λr5 w2=>
 ∃fh,w2.cell? (⟨r5,0,none⟩:Addr)=some (.int .i64 fh)/\
 Br (fh == 0) (
 ∃lV,w2.cell? ((⟨r3,0,none⟩:Addr).add 3)=some (.bool lV)/\
 Br lV (
 ∃iX,w2.cell? ((⟨r5,0,none⟩:Addr).add 0)=some (.int .i64 iX)/\
 ∃ed,w2.cell? ((⟨r5,0,none⟩:Addr).add 1)=some (.int .i64 ed)/\
 ∃ng,w2.cell? ((⟨r5,0,none⟩:Addr).add 2)=some (.string ng)/\
 ∃pa:Bool,∃w3,(eqS .eql 73 (.tmp 15) (.tmp 16) (.agg #[.int .i64 iX,.int .i64 ed,.string ng]) (.agg #[.int .i64 0,.int .i64 0,.string (⟨#[]⟩:ByteArray)])).run prog w2=.ok (.bool pa) w3/\
 zQd prog ds w3 λw4=>
 R (.returned (.bool pa)) w4) (
 zQd prog ds w2 λw5=>
 R (.returned (.bool false)) w5)) (
 ∃cm,w2.cell? ((⟨r5,0,none⟩:Addr).add 0)=some (.int .i64 cm)/\
 ∃bR,w2.cell? ((⟨r5,0,none⟩:Addr).add 1)=some (.int .i64 bR)/\
 ∃iY,w2.cell? ((⟨r5,0,none⟩:Addr).add 2)=some (.string iY)/\
 Calls prog 117 #[.agg #[.int .i64 cm,.int .i64 bR,.string iY]] w2 λe w6=>
 ∃n20:Int,e=.returned (.int .i64 n20)/\
 Br (n20 != 0) (
 zQd prog ds w6 λw7=>
 R (.returned (.bool false)) w7) (
 ∃iZ,w6.cell? ((⟨r3,0,none⟩:Addr).add 0)=some (.string iZ)/\
 ∃dP,w6.cell? ((⟨r3,0,none⟩:Addr).add 1)=some (.int .i64 dP)/\
 ∃i0,w6.cell? ((⟨r3,0,none⟩:Addr).add 2)=some (.int .i64 i0)/\
 ∃i5,w6.cell? ((⟨r3,0,none⟩:Addr).add 3)=some (.bool i5)/\
 ∃jU,w6.cell? ((⟨r5,0,none⟩:Addr).add 0)=some (.int .i64 jU)/\
 ∃jV,w6.cell? ((⟨r5,0,none⟩:Addr).add 1)=some (.int .i64 jV)/\
 ∃nh,w6.cell? ((⟨r5,0,none⟩:Addr).add 2)=some (.string nh)/\
 Calls prog 83 #[.agg #[.string iZ,.int .i64 dP,.int .i64 i0,.bool i5],.int .i64 n1,.agg #[.int .i64 jU,.int .i64 jV,.string nh]] w6 λe w8=>
 ∃jW:Int,∃jX:Int,∃jY:ByteArray,∃eX:Int,e=.returned (.tuple #[.agg #[.int .i64 jW,.int .i64 jX,.string jY],.int .i64 eX])/\
 alE (.cells #[.int .i64 0,.int .i64 0,.string (⟨#[]⟩:ByteArray)] 73) w8 λr7 w9=>
 stA prog 73 (⟨r7,0,none⟩:Addr) #[.int .i64 jW,.int .i64 jX,.string jY] w9 λaM=>
 Br (eX == 0) (
 ∃i6,aM.cell? ((⟨r7,0,none⟩:Addr).add 0)=some (.int .i64 i6)/\
 ∃jZ,aM.cell? ((⟨r7,0,none⟩:Addr).add 1)=some (.int .i64 jZ)/\
 ∃ni,aM.cell? ((⟨r7,0,none⟩:Addr).add 2)=some (.string ni)/\
 ∃iL,aM.cell? ((⟨r5,0,none⟩:Addr).add 0)=some (.int .i64 iL)/\
 ∃iM,aM.cell? ((⟨r5,0,none⟩:Addr).add 1)=some (.int .i64 iM)/\
 ∃iN,aM.cell? ((⟨r5,0,none⟩:Addr).add 2)=some (.string iN)/\
 ∃tE:Bool,∃aQ,(eqS .eql 73 (.tmp 32) (.tmp 33) (.agg #[.int .i64 i6,.int .i64 jZ,.string ni]) (.agg #[.int .i64 iL,.int .i64 iM,.string iN])).run prog aM=.ok (.bool tE) aQ/\
 zQd prog ds aQ λaR=>
 R (.returned (.bool tE)) aR) (
 zQd prog ds aM λaZ=>
 R (.returned (.bool false)) aZ)))
theorem F142_p:Pl prog f142 [aS 0 [.str,.int .i64,.int .i64,.bool],iS 1,aS 2 [.int .i64,.int .i64,.str]] xQM:=λR=>
 lf
theorem yJt (aN:ByteArray) (aG aO:Int) (aP:Bool) (n1 iq ir:Int) (iu:ByteArray) (w:World) (R:Rt) (h:xQM R aN aG aO aP n1 iq ir iu [] w):Calls prog 142 #[.agg #[.string aN,.int .i64 aG,.int .i64 aO,.bool aP],.int .i64 n1,.agg #[.int .i64 iq,.int .i64 ir,.string iu]] w R:=
 plC F142_p func142 h
end Go.Proofs.YtaeecpjhfmcliaaGreatDoor
/- Shallow texts of functions, printed by program, each checked by the kernel against the loaded code. No condition. -/
namespace Go.Proofs.YtaeecpjhfmcliaaGreatDoor
open Go.Sh Tryz
def xXW(R:Rt)(l3:SV)(ds:Ds)(w:World):Prop:=
 alE (.cells #[.int .u8 13] 5) w λzi w1=>
 ∃pZ:SV,∃w2,(Builtin.append_ #[22,22] 22 #[l3.v,.slice (some ⟨zi,0,none⟩) 1 1]).run prog w1=.ok (pZ.v) w2/\
 zQd prog ds w2 λw3=>
 R (.returned (pZ.v)) w3
def xQq (R:Rt) (J1:(SV × Int)->World->Prop) (l3 cV:SV) (n38 n39:Int) (ds:Ds) (w:World):Prop:=
 Br (decide (n39<n38)) (
 ∃a4,cV.a=some a4/\0<=n39/\n39<(cV.len:Int)/\
 ∃nj,w.cell? ((a4.add (n39.toNat * 4)).add 0)=some (.string nj)/\
 ∃nl,w.cell? ((a4.add (n39.toNat * 4)).add 1)=some (.int .i64 nl)/\
 ∃nn,w.cell? ((a4.add (n39.toNat * 4)).add 2)=some (.int .i64 nn)/\
 ∃np,w.cell? ((a4.add (n39.toNat * 4)).add 3)=some (.bool np)/\
 alE (.cells #[.string (⟨#[]⟩:ByteArray),.int .i64 0,.int .i64 0,.bool false] 129) w λr5 w5=>
 stA prog 129 (⟨r5,0,none⟩:Addr) #[.string nj,.int .i64 nl,.int .i64 nn,.bool np] w5 λw6=>
 alE (.cells #[.int .u8 0,.int .u8 0,.int .u8 0,.int .u8 0,.int .u8 0,.int .u8 0,.int .u8 0,.int .u8 0,.int .u8 0,.int .u8 0,.int .u8 0,.int .u8 0,.int .u8 0,.int .u8 0,.int .u8 0,.int .u8 0] 227) w6 λr6 w7=>
 dwE w7 λw8=>
 ∃S1:World->Prop,S1 w8/\
 ∃xJ,(∀w',S1 w'->w'.cell? (⟨r5,0,none⟩:Addr)=some (.string xJ))/\
 ∃iH:SV,∃w9,(Instr.sliceAt 227 (.pointer (some (⟨r6,0,none⟩:Addr))) none (some (.int .i64 10)) (some (.int .i64 10))).run prog w8=.ok (iH.v) w9/\
 S1 w9/\
 ∃fV:Int,∃aM,(Builtin.copy_ #[22,9] 3 #[iH.v,.string xJ]).run prog w9=.ok (.int .i64 fV) aM/\
 dwE aM λaQ=>
 ∃S2:World->Prop,S2 aQ/\
 ∃lN,(∀w',S2 w'->w'.cell? ((⟨r5,0,none⟩:Addr).add 1)=some (.int .i64 lN))/\
 ∃i7,(∀w',S2 w'->w'.cell? ((⟨r5,0,none⟩:Addr).add 2)=some (.int .i64 i7))/\
 Calls prog 145 #[] aQ λe aR=>
 ∃xK:Option Nat,e=.returned (.map xK)/\
 ∃S3:World->Prop,S3 aR/\(∀u,S3 u->S2 u)/\
 ∃nq:Int,∃qV:Int,∃qW:Int,∃qX:Value,∃qY:Value,(∀w',S3 w'->(Instr.lookup 176 (.map xK) (.int .i64 lN) false).run prog w'=.ok (.agg #[.int .u8 nq,.int .i64 qV,.int .i64 qW,qX,qY]) w')/\
 0<=(10:Int)/\(10:Int)<(16:Int)/\
 st1 ((⟨r6,0,none⟩:Addr).add ((10:Int).toNat * 1)) (.int .u8 nq) aR λaZ=>
 ∃S4:World->Prop,S4 aZ/\(∀u,S4 u->S3 u)/\
 0<=(11:Int)/\(11:Int)<(16:Int)/\
 st1 ((⟨r6,0,none⟩:Addr).add ((11:Int).toNat * 1)) (.int .u8 (IntKind.u8.wrap i7)) aZ λbI=>
 ∃xL,bI.cell? ((⟨r5,0,none⟩:Addr).add 3)=some (.bool xL)/\
 Br xL (
 0<=(12:Int)/\(12:Int)<(16:Int)/\
 st1 ((⟨r6,0,none⟩:Addr).add ((12:Int).toNat * 1)) (.int .u8 1) bI λbv=>
 16<=16/\0<=16/\
 ∃eY:SV,∃bK,(Builtin.append_ #[22,22] 22 #[l3.v,.slice (some (if 16=0 then(⟨r6,0,none⟩:Addr)else(⟨r6,0,none⟩:Addr).add (0 * 1))) (16 - 0) (16 - 0)]).run prog bv=.ok (eY.v) bK/\
 J1 (eY,(IntKind.i64.wrap (n39+1))) bK) (
 16<=16/\0<=16/\
 ∃eY:SV,∃bA,(Builtin.append_ #[22,22] 22 #[l3.v,.slice (some (if 16=0 then(⟨r6,0,none⟩:Addr)else(⟨r6,0,none⟩:Addr).add (0 * 1))) (16 - 0) (16 - 0)]).run prog bI=.ok (eY.v) bA/\
 J1 (eY,(IntKind.i64.wrap (n39+1))) bA)) (
 xXW R l3 ds w)
def yQH(R:Rt)(l3 cV:SV)(n38 n39:Int)(ds:Ds)(w:World):Prop:=
 zQW (λ(J1:(SV × Int)->World->Prop) (s:SV × Int) (w:World)=>xQq R J1 s.1 cV n38 s.2 ds w) (l3,n39) w
def xXa(R:Rt)(aF:Int)(az ar:SV)(ds:Ds)(w:World):Prop:=
 alE (.cells #[.int .i64 aF,az.v,ar.v] 35) w λr1 bY=>
 dwE bY λce=>
 ∃S5:World->Prop,S5 ce/\
 ∃n8,(∀w',S5 w'->w'.cell? (⟨r1,0,none⟩:Addr)=some (.int .i64 n8))/\
 ∃f7:SV,(∀w',S5 w'->w'.cell? ((⟨r1,0,none⟩:Addr).add 2)=some (f7.v))/\
 (
 alE (.cells #[.int .u8 67,.int .u8 (IntKind.u8.wrap n8)] 5) ce λbW cf=>
 S5 cf/\
 Calls prog 202 #[.int .i64 (f7.len:Int),.int .i64 4] cf λe bt=>
 ∃bL:SV,e=.returned (bL.v)/\
 S5 bt/\
 ∃cZ:SV,∃eu,(Builtin.append_ #[22,22] 22 #[.slice (some ⟨bW,0,none⟩) 2 2,bL.v]).run prog bt=.ok (cZ.v) eu/\
 ∃cX:SV,eu.cell? ((⟨r1,0,none⟩:Addr).add 1)=some (cX.v)/\
 Calls prog 159 #[.int .i64 (cX.len:Int)] eu λe cy=>
 ∃n20:Int,e=.returned (.int .i64 n20)/\
 Calls prog 202 #[.int .i64 n20,.int .i64 2] cy λe cS=>
 ∃cU:SV,e=.returned (cU.v)/\
 ∃cj:SV,∃eG,(Builtin.append_ #[22,22] 22 #[cZ.v,cU.v]).run prog cS=.ok (cj.v) eG/\
 ∃ct:SV,eG.cell? ((⟨r1,0,none⟩:Addr).add 1)=some (ct.v)/\
 Calls prog 161 #[ct.v] eG λe dB=>
 ∃bo:Int,e=.returned (.int .i64 bo)/\
 Calls prog 202 #[.int .i64 bo,.int .i64 2] dB λe fW=>
 ∃bZ:SV,e=.returned (bZ.v)/\
 ∃ez:SV,∃dN,(Builtin.append_ #[22,22] 22 #[cj.v,bZ.v]).run prog fW=.ok (ez.v) dN/\
 ∃fq:SV,dN.cell? ((⟨r1,0,none⟩:Addr).add 1)=some (fq.v)/\
 alE (.cells #[.int .u8 (IntKind.u8.wrap (fq.len:Int)),.int .u8 0] 5) dN λqZ fg=>
 ∃jw:SV,∃fH,(Builtin.append_ #[22,22] 22 #[ez.v,.slice (some ⟨qZ,0,none⟩) 2 2]).run prog fg=.ok (jw.v) fH/\
 ∃cV:SV,fH.cell? ((⟨r1,0,none⟩:Addr).add 1)=some (cV.v)/\
 yQH R jw cV (cV.len:Int) 0 ds fH)/\(
 Calls prog 202 #[.int .i64 (f7.len:Int),.int .i64 4] ce λe eD=>
 ∃bL:SV,e=.returned (bL.v)/\
 S5 eD/\
 alE (.cells #[.int .u8 67,.int .u8 (IntKind.u8.wrap n8)] 5) eD λbW ft=>
 S5 ft/\
 ∃cZ:SV,∃iK,(Builtin.append_ #[22,22] 22 #[.slice (some ⟨bW,0,none⟩) 2 2,bL.v]).run prog ft=.ok (cZ.v) iK/\
 ∃cX:SV,iK.cell? ((⟨r1,0,none⟩:Addr).add 1)=some (cX.v)/\
 Calls prog 159 #[.int .i64 (cX.len:Int)] iK λe dO=>
 ∃n20:Int,e=.returned (.int .i64 n20)/\
 Calls prog 202 #[.int .i64 n20,.int .i64 2] dO λe jx=>
 ∃cU:SV,e=.returned (cU.v)/\
 ∃cj:SV,∃re,(Builtin.append_ #[22,22] 22 #[cZ.v,cU.v]).run prog jx=.ok (cj.v) re/\
 ∃ct:SV,re.cell? ((⟨r1,0,none⟩:Addr).add 1)=some (ct.v)/\
 Calls prog 161 #[ct.v] re λe qa=>
 ∃bo:Int,e=.returned (.int .i64 bo)/\
 Calls prog 202 #[.int .i64 bo,.int .i64 2] qa λe lP=>
 ∃bZ:SV,e=.returned (bZ.v)/\
 ∃ez:SV,∃fZ,(Builtin.append_ #[22,22] 22 #[cj.v,bZ.v]).run prog lP=.ok (ez.v) fZ/\
 ∃fq:SV,fZ.cell? ((⟨r1,0,none⟩:Addr).add 1)=some (fq.v)/\
 alE (.cells #[.int .u8 (IntKind.u8.wrap (fq.len:Int)),.int .u8 0] 5) fZ λqZ rf=>
 ∃jw:SV,∃lE,(Builtin.append_ #[22,22] 22 #[ez.v,.slice (some ⟨qZ,0,none⟩) 2 2]).run prog rf=.ok (jw.v) lE/\
 ∃cV:SV,lE.cell? ((⟨r1,0,none⟩:Addr).add 1)=some (cV.v)/\
 yQH R jw cV (cV.len:Int) 0 ds lE)
theorem F157_p:Pl prog f157 [aS 0 [.int .i64,.slice,.slice]] xXa:=λR=>
 pc 6 (rest [lS 3,lS 37,iS 38,iS 39] (yQH R) (bk 0 (rest [lS 3] (xXW R) lf) (lp [lS 3,iS 39] [lS 3,lS 37,iS 38,iS 39] (xQq R) zZU λJ1=>lf)))
theorem yKy (aF:Int) (az ar:SV) (w:World) (R:Rt) (h:xXa R aF az ar [] w):Calls prog 157 #[.agg #[.int .i64 aF,az.v,ar.v]] w R:=
 plC F157_p func157 h
def xQp(R:Rt)(l5:SV)(ds:Ds)(w:World):Prop:=
 zQd prog ds w λw1=>
 R (.returned (l5.v)) w1
def xXm (R:Rt) (J1:(Int × SV × Int)->World->Prop) (n0:Int) (l5:SV) (n6 n7:Int) (ds:Ds) (w:World):Prop:=
 Br (decide (n7<n6)) (
 alE (.cells #[.int .u8 (IntKind.u8.wrap n0)] 5) w λkh w2=>
 ∃eo:SV,∃w3,(Builtin.append_ #[22,22] 22 #[l5.v,.slice (some ⟨kh,0,none⟩) 1 1]).run prog w2=.ok (eo.v) w3/\
 0<=(8:Int)/\
 J1 ((n0.fdiv (2 ^ 8)),eo,(IntKind.i64.wrap (n7+1))) w3) (
 xQp R l5 ds w)
def xXc(R:Rt)(n0:Int)(l5:SV)(n6 n7:Int)(ds:Ds)(w:World):Prop:=
 zQW (λ(J1:(Int × SV × Int)->World->Prop) (s:Int × SV × Int) (w:World)=>xXm R J1 s.1 s.2.1 n6 s.2.2 ds w) (n0,l5,n7) w
def xXi(R:Rt)(n0 n1:Int)(ds:Ds)(w:World):Prop:=
 xXc R n0 ⟨none,0,0⟩ n1 0 ds w
theorem F202_p:Pl prog f202 [iS 0,iS 1] xXi:=λR=>
 pc 3 (rest [iS 0,lS 5,iS 6,iS 7] (xXc R) (bk 0 (rest [lS 5] (xQp R) lf) (lp [iS 0,lS 5,iS 7] [iS 0,lS 5,iS 6,iS 7] (xXm R) zZU λJ1=>lf)))
theorem yJa (n0 n1:Int) (w:World) (R:Rt) (h:xXi R n0 n1 [] w):Calls prog 202 #[.int .i64 n0,.int .i64 n1] w R:=
 plC F202_p func202 h
def xQ6(R:Rt)(n0:Int)(ds:Ds)(w:World):Prop:=
 zQd prog ds w λw1=>
 R (.returned (.int .i64 (IntKind.i64.wrap ((13:Int)+(IntKind.i64.wrap ((16:Int) * n0)))))) w1
theorem F159_p:Pl prog f159 [iS 0] xQ6:=λR=>
 lf
theorem yKj (n0:Int) (w:World) (R:Rt) (h:xQ6 R n0 [] w):Calls prog 159 #[.int .i64 n0] w R:=
 plC F159_p func159 h
end Go.Proofs.YtaeecpjhfmcliaaGreatDoor
/- Shallow texts of functions, printed by program, each checked by the kernel against the loaded code. No condition. -/
namespace Go.Proofs.YtaeecpjhfmcliaaGreatDoor
open Go.Sh Tryz
def xQT(R:Rt)(aF:Int)(az ar:SV)(n1:Int)(ds:Ds)(w:World):Prop:=
 alE (.cells #[.int .i64 aF,az.v,ar.v] 35) w λr2 w1=>
 ∃c8,w1.cell? ((⟨r2,0,none⟩:Addr).add 0)=some (.int .i64 c8)/\
 ∃bN:SV,w1.cell? ((⟨r2,0,none⟩:Addr).add 1)=some (bN.v)/\
 ∃bu:SV,w1.cell? ((⟨r2,0,none⟩:Addr).add 2)=some (bu.v)/\
 Calls prog 106 #[.agg #[.int .i64 c8,bN.v,bu.v]] w1 λe w2=>
 ∃n8:Int,e=.returned (.int .i64 n8)/\
 Br (n8 != 0) (
 zQd prog ds w2 λw3=>
 R (.returned (.tuple #[.slice none 0 0,.int .i64 n8])) w3) (
 Br (decide (n1<1)) (
 zQd prog ds w2 λw4=>
 R (.returned (.tuple #[.slice none 0 0,.int .i64 4])) w4) (
 ∃dU:SV,w2.cell? ((⟨r2,0,none⟩:Addr).add 2)=some (dU.v)/\
 Br (decide (n1 > (dU.len:Int))) (
 zQd prog ds w2 λw5=>
 R (.returned (.tuple #[.slice none 0 0,.int .i64 4])) w5) (
 dwE w2 λw6=>
 ∃cj:SV,w6.cell? ((⟨r2,0,none⟩:Addr).add 1)=some (cj.v)/\
 ∃bw:SV,w6.cell? ((⟨r2,0,none⟩:Addr).add 2)=some (bw.v)/\
 ∃a7,bw.a=some a7/\0<=(IntKind.i64.wrap (n1 - 1))/\(IntKind.i64.wrap (n1 - 1))<(bw.len:Int)/\
 ∃iW,w6.cell? ((a7.add ((IntKind.i64.wrap (n1 - 1)).toNat * 2)).add 0)=some (.bool iW)/\
 ∃cA:SV,w6.cell? ((a7.add ((IntKind.i64.wrap (n1 - 1)).toNat * 2)).add 1)=some (cA.v)/\
 Calls prog 158 #[cj.v,.agg #[.bool iW,cA.v]] w6 λe w8=>
 ∃eE:SV,e=.returned (eE.v)/\
 zQd prog ds w8 λw9=>
 R (.returned (.tuple #[eE.v,.int .i64 0])) w9)))
theorem F144_p:Pl prog f144 [aS 0 [.int .i64,.slice,.slice],iS 1] xQT:=λR=>
 lf
theorem yK3 (aF:Int) (az ar:SV) (n1:Int) (w:World) (R:Rt) (h:xQT R aF az ar n1 [] w):Calls prog 144 #[.agg #[.int .i64 aF,az.v,ar.v],.int .i64 n1] w R:=
 plC F144_p func144 h
def xZk(R:Rt)(l5 l6:SV)(p7:Option Addr)(ds:Ds)(w:World):Prop:=
 ∃jG:SV,∃w1,(Builtin.append_ #[22,22] 22 #[l5.v,l6.v]).run prog w=.ok (jG.v) w1/\
 Calls prog 201 #[.pointer p7] w1 λe w2=>
 ∃xM:ByteArray,e=.returned (.string xM)/\
 ∃iv:SV,∃w3,(Builtin.append_ #[22,9] 22 #[jG.v,.string xM]).run prog w2=.ok (iv.v) w3/\
 zQd prog ds w3 λw4=>
 R (.returned (iv.v)) w4
def xZz (R:Rt) (J1:(Int × Int)->World->Prop) (p3:Option Addr) (l5 l6:SV) (p7:Option Addr) (n8:Int) (d8:SV) (kk n22:Int) (ds:Ds) (w:World):Prop:=
 Br (decide (n22<kk)) (
 ∃a5,d8.a=some a5/\0<=n22/\n22<(d8.len:Int)/\
 ∃nr,w.cell? ((a5.add (n22.toNat * 4)).add 0)=some (.string nr)/\
 ∃eX,w.cell? ((a5.add (n22.toNat * 4)).add 1)=some (.int .i64 eX)/\
 ∃nt,w.cell? ((a5.add (n22.toNat * 4)).add 2)=some (.int .i64 nt)/\
 ∃nu,w.cell? ((a5.add (n22.toNat * 4)).add 3)=some (.bool nu)/\
 alE (.cells #[.string (⟨#[]⟩:ByteArray),.int .i64 0,.int .i64 0,.bool false] 129) w λbW w6=>
 stA prog 129 (⟨bW,0,none⟩:Addr) #[.string nr,.int .i64 eX,.int .i64 nt,.bool nu] w6 λw7=>
 zQf p3 λa8=>
 ∃ez:SV,w7.cell? (a8.add 1)=some (ez.v)/\
 ∃a9,ez.a=some a9/\0<=n22/\n22<(ez.len:Int)/\
 ∃de,w7.cell? ((a9.add (n22.toNat * 3)).add 0)=some (.int .i64 de)/\
 ∃i8,w7.cell? ((a9.add (n22.toNat * 3)).add 1)=some (.int .i64 i8)/\
 ∃i9,w7.cell? ((a9.add (n22.toNat * 3)).add 2)=some (.string i9)/\
 alE (.cells #[.int .i64 0,.int .i64 0,.string (⟨#[]⟩:ByteArray)] 73) w7 λcg aM=>
 stA prog 73 (⟨cg,0,none⟩:Addr) #[.int .i64 de,.int .i64 i8,.string i9] aM λaQ=>
 ∃xN,aQ.cell? ((⟨bW,0,none⟩:Addr).add 3)=some (.bool xN)/\
 Br xN (
 ∃n35,aQ.cell? (⟨cg,0,none⟩:Addr)=some (.int .i64 n35)/\
 Br (n35 == 0) (
 dwE aQ λaR=>
 IntKind.i64=IntKind.i64/\(8:Int) ≠ 0/\
 ∃jS,l6.a=some jS/\0<=(IntKind.i64.wrap (n8.tdiv 8))/\(IntKind.i64.wrap (n8.tdiv 8))<(l6.len:Int)/\
 ∃n41,aR.cell? (jS.add ((IntKind.i64.wrap (n8.tdiv 8)).toNat * 1))=some (.int .u8 n41)/\
 IntKind.i64=IntKind.i64/\(8:Int) ≠ 0/\
 0<=(n8.tmod 8)/\
 ∃fG,l6.a=some fG/\0<=(IntKind.i64.wrap (n8.tdiv 8))/\(IntKind.i64.wrap (n8.tdiv 8))<(l6.len:Int)/\
 st1 (fG.add ((IntKind.i64.wrap (n8.tdiv 8)).toNat * 1)) (.int .u8 (IntKind.u8.wrap ((BitVec.ofInt 8 n41 ||| BitVec.ofInt 8 (IntKind.u8.wrap ((1:Int) * 2 ^ (min (n8.tmod 8).toNat 8)))).toNat:Nat))) aR λbv=>
 ∃fj,bv.cell? (⟨cg,0,none⟩:Addr)=some (.int .i64 fj)/\
 Br (fj == 0) (
 ∃i7,bv.cell? ((⟨bW,0,none⟩:Addr).add 2)=some (.int .i64 i7)/\
 Calls prog 155 #[.string (⟨#[32]⟩:ByteArray),.int .i64 i7] bv λe bK=>
 ∃jT:ByteArray,e=.returned (.string jT)/\
 Calls prog 199 #[.pointer p7,.string jT] bK λe bA=>
 ∃dQ:Int,∃fI:Value,e=.returned (.tuple #[.int .i64 dQ,fI])/\
 J1 ((IntKind.i64.wrap (n8+1)),(IntKind.i64.wrap (n22+1))) bA) (
 dwE bv λbY=>
 ∃S2:World->Prop,S2 bY/\
 ∃kT,(∀w',S2 w'->w'.cell? ((⟨bW,0,none⟩:Addr).add 1)=some (.int .i64 kT))/\
 ∃df,(∀w',S2 w'->w'.cell? ((⟨bW,0,none⟩:Addr).add 0)=some (.string df))/\
 ∃dg,(∀w',S2 w'->w'.cell? ((⟨bW,0,none⟩:Addr).add 1)=some (.int .i64 dg))/\
 ∃dk,(∀w',S2 w'->w'.cell? ((⟨bW,0,none⟩:Addr).add 2)=some (.int .i64 dk))/\
 ∃dm,(∀w',S2 w'->w'.cell? ((⟨bW,0,none⟩:Addr).add 3)=some (.bool dm))/\
 ∃cn,(∀w',S2 w'->w'.cell? ((⟨cg,0,none⟩:Addr).add 0)=some (.int .i64 cn))/\
 ∃dp,(∀w',S2 w'->w'.cell? ((⟨cg,0,none⟩:Addr).add 1)=some (.int .i64 dp))/\
 ∃dq,(∀w',S2 w'->w'.cell? ((⟨cg,0,none⟩:Addr).add 2)=some (.string dq))/\
 Calls prog 145 #[] bY λe ce=>
 ∃kU:Option Nat,e=.returned (.map kU)/\
 ∃S3:World->Prop,S3 ce/\(∀u,S3 u->S2 u)/\
 ∃fJ:Int,∃dR:Int,∃dS:Int,∃dr:Value,∃fK:Value,(∀w',S3 w'->(Instr.lookup 176 (.map kU) (.int .i64 kT) false).run prog w'=.ok (.agg #[.int .u8 fJ,.int .i64 dR,.int .i64 dS,dr,fK]) w')/\
 fnE dr λf63 first63 fL=>
 zQt prog f63=true/\Calls prog f63 (first63.toList ++ (([.agg #[.string df,.int .i64 dg,.int .i64 dk,.bool dm],.agg #[.int .i64 cn,.int .i64 dp,.string dq]]:List Value) ++ fL.toList)).toArray ce λe cf=>
 ∃kV:ByteArray,e=.returned (.string kV)/\
 Calls prog 199 #[.pointer p7,.string kV] cf λe bt=>
 ∃fM:Int,∃fN:Value,e=.returned (.tuple #[.int .i64 fM,fN])/\
 J1 ((IntKind.i64.wrap (n8+1)),(IntKind.i64.wrap (n22+1))) bt)) (
 ∃fj,aQ.cell? (⟨cg,0,none⟩:Addr)=some (.int .i64 fj)/\
 Br (fj == 0) (
 ∃i7,aQ.cell? ((⟨bW,0,none⟩:Addr).add 2)=some (.int .i64 i7)/\
 Calls prog 155 #[.string (⟨#[32]⟩:ByteArray),.int .i64 i7] aQ λe eu=>
 ∃jT:ByteArray,e=.returned (.string jT)/\
 Calls prog 199 #[.pointer p7,.string jT] eu λe cy=>
 ∃dQ:Int,∃fI:Value,e=.returned (.tuple #[.int .i64 dQ,fI])/\
 J1 ((IntKind.i64.wrap (n8+1)),(IntKind.i64.wrap (n22+1))) cy) (
 dwE aQ λcS=>
 ∃S4:World->Prop,S4 cS/\
 ∃kT,(∀w',S4 w'->w'.cell? ((⟨bW,0,none⟩:Addr).add 1)=some (.int .i64 kT))/\
 ∃df,(∀w',S4 w'->w'.cell? ((⟨bW,0,none⟩:Addr).add 0)=some (.string df))/\
 ∃dg,(∀w',S4 w'->w'.cell? ((⟨bW,0,none⟩:Addr).add 1)=some (.int .i64 dg))/\
 ∃dk,(∀w',S4 w'->w'.cell? ((⟨bW,0,none⟩:Addr).add 2)=some (.int .i64 dk))/\
 ∃dm,(∀w',S4 w'->w'.cell? ((⟨bW,0,none⟩:Addr).add 3)=some (.bool dm))/\
 ∃cn,(∀w',S4 w'->w'.cell? ((⟨cg,0,none⟩:Addr).add 0)=some (.int .i64 cn))/\
 ∃dp,(∀w',S4 w'->w'.cell? ((⟨cg,0,none⟩:Addr).add 1)=some (.int .i64 dp))/\
 ∃dq,(∀w',S4 w'->w'.cell? ((⟨cg,0,none⟩:Addr).add 2)=some (.string dq))/\
 Calls prog 145 #[] cS λe eG=>
 ∃kU:Option Nat,e=.returned (.map kU)/\
 ∃S5:World->Prop,S5 eG/\(∀u,S5 u->S4 u)/\
 ∃fJ:Int,∃dR:Int,∃dS:Int,∃dr:Value,∃fK:Value,(∀w',S5 w'->(Instr.lookup 176 (.map kU) (.int .i64 kT) false).run prog w'=.ok (.agg #[.int .u8 fJ,.int .i64 dR,.int .i64 dS,dr,fK]) w')/\
 fnE dr λf63 first63 fL=>
 zQt prog f63=true/\Calls prog f63 (first63.toList ++ (([.agg #[.string df,.int .i64 dg,.int .i64 dk,.bool dm],.agg #[.int .i64 cn,.int .i64 dp,.string dq]]:List Value) ++ fL.toList)).toArray eG λe dB=>
 ∃kV:ByteArray,e=.returned (.string kV)/\
 Calls prog 199 #[.pointer p7,.string kV] dB λe fW=>
 ∃fM:Int,∃fN:Value,e=.returned (.tuple #[.int .i64 fM,fN])/\
 J1 ((IntKind.i64.wrap (n8+1)),(IntKind.i64.wrap (n22+1))) fW))) (
 ∃fj,aQ.cell? (⟨cg,0,none⟩:Addr)=some (.int .i64 fj)/\
 Br (fj == 0) (
 ∃i7,aQ.cell? ((⟨bW,0,none⟩:Addr).add 2)=some (.int .i64 i7)/\
 Calls prog 155 #[.string (⟨#[32]⟩:ByteArray),.int .i64 i7] aQ λe dN=>
 ∃jT:ByteArray,e=.returned (.string jT)/\
 Calls prog 199 #[.pointer p7,.string jT] dN λe fg=>
 ∃dQ:Int,∃fI:Value,e=.returned (.tuple #[.int .i64 dQ,fI])/\
 J1 (n8,(IntKind.i64.wrap (n22+1))) fg) (
 dwE aQ λfH=>
 ∃S6:World->Prop,S6 fH/\
 ∃kT,(∀w',S6 w'->w'.cell? ((⟨bW,0,none⟩:Addr).add 1)=some (.int .i64 kT))/\
 ∃df,(∀w',S6 w'->w'.cell? ((⟨bW,0,none⟩:Addr).add 0)=some (.string df))/\
 ∃dg,(∀w',S6 w'->w'.cell? ((⟨bW,0,none⟩:Addr).add 1)=some (.int .i64 dg))/\
 ∃dk,(∀w',S6 w'->w'.cell? ((⟨bW,0,none⟩:Addr).add 2)=some (.int .i64 dk))/\
 ∃dm,(∀w',S6 w'->w'.cell? ((⟨bW,0,none⟩:Addr).add 3)=some (.bool dm))/\
 ∃cn,(∀w',S6 w'->w'.cell? ((⟨cg,0,none⟩:Addr).add 0)=some (.int .i64 cn))/\
 ∃dp,(∀w',S6 w'->w'.cell? ((⟨cg,0,none⟩:Addr).add 1)=some (.int .i64 dp))/\
 ∃dq,(∀w',S6 w'->w'.cell? ((⟨cg,0,none⟩:Addr).add 2)=some (.string dq))/\
 Calls prog 145 #[] fH λe eD=>
 ∃kU:Option Nat,e=.returned (.map kU)/\
 ∃S7:World->Prop,S7 eD/\(∀u,S7 u->S6 u)/\
 ∃fJ:Int,∃dR:Int,∃dS:Int,∃dr:Value,∃fK:Value,(∀w',S7 w'->(Instr.lookup 176 (.map kU) (.int .i64 kT) false).run prog w'=.ok (.agg #[.int .u8 fJ,.int .i64 dR,.int .i64 dS,dr,fK]) w')/\
 fnE dr λf63 first63 fL=>
 zQt prog f63=true/\Calls prog f63 (first63.toList ++ (([.agg #[.string df,.int .i64 dg,.int .i64 dk,.bool dm],.agg #[.int .i64 cn,.int .i64 dp,.string dq]]:List Value) ++ fL.toList)).toArray eD λe ft=>
 ∃kV:ByteArray,e=.returned (.string kV)/\
 Calls prog 199 #[.pointer p7,.string kV] ft λe iK=>
 ∃fM:Int,∃fN:Value,e=.returned (.tuple #[.int .i64 fM,fN])/\
 J1 (n8,(IntKind.i64.wrap (n22+1))) iK))) (
 xZk R l5 l6 p7 ds w)
def yZA(R:Rt)(p3:Option Addr)(l5 l6:SV)(p7:Option Addr)(n8:Int)(d8:SV)(kk n22:Int)(ds:Ds)(w:World):Prop:=
 zQW (λ(J1:(Int × Int)->World->Prop) (s:Int × Int) (w:World)=>xZz R J1 p3 l5 l6 p7 s.1 d8 kk s.2 ds w) (n8,n22) w
def xXs(R:Rt)(l0:SV)(ee:Bool)(aW:SV)(ds:Ds)(w:World):Prop:=
 alE (.cells #[.bool ee,aW.v] 67) w λr3 dO=>
 alE (.cells #[.int .u8 32] 5) dO λkh jx=>
 ∃lF,jx.cell? (⟨r3,0,none⟩:Addr)=some (.bool lF)/\
 Br lF (
 ∃mG:Addr,(some ⟨kh,0,none⟩)=some mG/\0<=(0:Int)/\(0:Int)<(1:Int)/\
 st1 (mG.add ((0:Int).toNat * 1)) (.int .u8 42) jx λqa=>
 Calls prog 203 #[l0.v] qa λe lP=>
 ∃iI:Int,e=.returned (.int .i64 iI)/\
 ∃cu:SV,∃fZ,(Instr.makeSlice 22 (.int .i64 iI) (.int .i64 iI)).run prog lP=.ok (cu.v) fZ/\
 alE (.cells #[.pointer none,.slice none 0 0] 220) fZ λr7 rf=>
 yZA R (some (⟨r3,0,none⟩:Addr)) ⟨(some ⟨kh,0,none⟩),1,1⟩ cu (some (⟨r7,0,none⟩:Addr)) 0 l0 (l0.len:Int) 0 ds rf) (
 Calls prog 203 #[l0.v] jx λe lE=>
 ∃iI:Int,e=.returned (.int .i64 iI)/\
 ∃cu:SV,∃rg,(Instr.makeSlice 22 (.int .i64 iI) (.int .i64 iI)).run prog lE=.ok (cu.v) rg/\
 alE (.cells #[.pointer none,.slice none 0 0] 220) rg λr7 qK=>
 yZA R (some (⟨r3,0,none⟩:Addr)) ⟨(some ⟨kh,0,none⟩),1,1⟩ cu (some (⟨r7,0,none⟩:Addr)) 0 l0 (l0.len:Int) 0 ds qK)
theorem F158_p:Pl prog f158 [lS 0,aS 1 [.bool,.slice]] xXs:=λR=>
 pc 8 (rest [pS 3,lS 5,lS 6,pS 7,iS 8,lS 20,iS 21,iS 22] (yZA R) (bk 0 (rest [lS 5,lS 6,pS 7] (xZk R) lf) (lp [iS 8,iS 22] [pS 3,lS 5,lS 6,pS 7,iS 8,lS 20,iS 21,iS 22] (xZz R) zZU λJ1=>lf)))
theorem yJL (l0:SV) (ee:Bool) (aW:SV) (w:World) (R:Rt) (h:xXs R l0 ee aW [] w):Calls prog 158 #[l0.v,.agg #[.bool ee,aW.v]] w R:=
 plC F158_p func158 h
def xZd(R:Rt)(aN:ByteArray)(aG aO:Int)(aP:Bool)(aT bm:Int)(bJ:ByteArray)(ds:Ds)(w:World):Prop:=
 alE (.cells #[.string aN,.int .i64 aG,.int .i64 aO,.bool aP] 129) w λr2 w1=>
 alE (.cells #[.int .i64 aT,.int .i64 bm,.string bJ] 73) w1 λr3 w2=>
 dwE w2 λw3=>
 ∃S1:World->Prop,S1 w3/\
 ∃s6,(∀w',S1 w'->w'.cell? ((⟨r3,0,none⟩:Addr).add 2)=some (.string s6))/\
 ∃n8,(∀w',S1 w'->w'.cell? ((⟨r2,0,none⟩:Addr).add 2)=some (.int .i64 n8))/\
 ∃nv,(∀w',S1 w'->w'.cell? ((⟨r3,0,none⟩:Addr).add 2)=some (.string nv))/\
 Calls prog 155 #[.string (⟨#[32]⟩:ByteArray),.int .i64 (IntKind.i64.wrap (n8 - (nv.size:Int)))] w3 λe w4=>
 ∃kI:ByteArray,e=.returned (.string kI)/\
 S1 w4/\
 ((s6.size+kI.size:Nat):Int)<=9223372036854775807/\
 zQd prog ds w4 λw5=>
 R (.returned (.string (s6 ++ kI))) w5
theorem F186_p:Pl prog f186 [aS 0 [.str,.int .i64,.int .i64,.bool],aS 1 [.int .i64,.int .i64,.str]] xZd:=λR=>
 lf
theorem yJG (aN:ByteArray) (aG aO:Int) (aP:Bool) (aT bm:Int) (bJ:ByteArray) (w:World) (R:Rt) (h:xZd R aN aG aO aP aT bm bJ [] w):Calls prog 186 #[.agg #[.string aN,.int .i64 aG,.int .i64 aO,.bool aP],.agg #[.int .i64 aT,.int .i64 bm,.string bJ]] w R:=
 plC F186_p func186 h
end Go.Proofs.YtaeecpjhfmcliaaGreatDoor
/- Shallow texts of functions, printed by program, each checked by the kernel against the loaded code. No condition. -/
namespace Go.Proofs.YtaeecpjhfmcliaaGreatDoor
open Go.Sh Tryz
def xZy(R:Rt)(p0:Option Addr)(ds:Ds)(w:World):Prop:=
 dwE w λw1=>
 ∃S1:World->Prop,S1 w1/\
 zQf p0 λa2=>
 ∃l6:SV,(∀w',S1 w'->w'.cell? (a2.add 1)=some (l6.v))/\
 zQf p0 λa3=>
 ∃co:SV,(∀w',S1 w'->w'.cell? (a3.add 1)=some (co.v))/\
 ∃p7:Option Addr,∃w4,(Builtin.unsafeSliceData_ #[22] 243 #[l6.v]).run prog w1=.ok (.pointer p7) w4/\
 S1 w4/\
 ∃kI:ByteArray,∃w5,(Builtin.unsafeString_ #[243,3] 9 #[.pointer p7,.int .i64 (co.len:Int)]).run prog w4=.ok (.string kI) w5/\
 zQd prog ds w5 λw6=>
 R (.returned (.string kI)) w6
theorem F201_p:Pl prog f201 [pS 0] xZy:=λR=>
 lf
theorem yJx (p0:Option Addr) (w:World) (R:Rt) (h:xZy R p0 [] w):Calls prog 201 #[.pointer p0] w R:=
 plC F201_p func201 h
end Go.Proofs.YtaeecpjhfmcliaaGreatDoor
/- Shallow texts of functions, printed by program, each checked by the kernel against the loaded code. No condition. -/
namespace Go.Proofs.YtaeecpjhfmcliaaGreatDoor
open Go.Sh Tryz
def xXw(R:Rt)(aF aG:Int)(eb:ByteArray)(aT bm:Int)(bJ:ByteArray)(ds:Ds)(w:World):Prop:=
 alE (.cells #[.int .i64 aF,.int .i64 aG,.string eb] 73) w λr2 w1=>
 alE (.cells #[.int .i64 aT,.int .i64 bm,.string bJ] 73) w1 λr3 w2=>
 ∃n6,w2.cell? (⟨r2,0,none⟩:Addr)=some (.int .i64 n6)/\
 ∃n8,w2.cell? (⟨r3,0,none⟩:Addr)=some (.int .i64 n8)/\
 Br (n6 == n8) (
 ∃jH,w2.cell? ((⟨r2,0,none⟩:Addr).add 1)=some (.int .i64 jH)/\
 ∃n14,w2.cell? ((⟨r3,0,none⟩:Addr).add 1)=some (.int .i64 n14)/\
 Br (jH == n14) (
 ∃lB,w2.cell? ((⟨r2,0,none⟩:Addr).add 2)=some (.string lB)/\
 ∃xO,w2.cell? ((⟨r3,0,none⟩:Addr).add 2)=some (.string xO)/\
 zQd prog ds w2 λw3=>
 R (.returned (.bool (lB.toList == xO.toList))) w3) (
 zQd prog ds w2 λw4=>
 R (.returned (.bool false)) w4)) (
 zQd prog ds w2 λw5=>
 R (.returned (.bool false)) w5)
theorem F140_p:Pl prog f140 [aS 0 [.int .i64,.int .i64,.str],aS 1 [.int .i64,.int .i64,.str]] xXw:=λR=>
 lf
theorem yK2 (aF aG:Int) (eb:ByteArray) (aT bm:Int) (bJ:ByteArray) (w:World) (R:Rt) (h:xXw R aF aG eb aT bm bJ [] w):Calls prog 140 #[.agg #[.int .i64 aF,.int .i64 aG,.string eb],.agg #[.int .i64 aT,.int .i64 bm,.string bJ]] w R:=
 plC F140_p func140 h
end Go.Proofs.YtaeecpjhfmcliaaGreatDoor
/- Shallow texts of functions, printed by program, each checked by the kernel against the loaded code. No condition. -/
namespace Go.Proofs.YtaeecpjhfmcliaaGreatDoor
open Go.Sh Tryz
end Go.Proofs.YtaeecpjhfmcliaaGreatDoor
/- Shallow texts of functions, printed by program, each checked by the kernel against the loaded code. No condition. -/
namespace Go.Proofs.YtaeecpjhfmcliaaGreatDoor
open Go.Sh Tryz
end Go.Proofs.YtaeecpjhfmcliaaGreatDoor
/- Shallow texts of functions, printed by program, each checked by the kernel against the loaded code. No condition. -/
namespace Go.Proofs.YtaeecpjhfmcliaaGreatDoor
open Go.Sh Tryz
def F70_1(R:Rt)(lX:Bool)(az:SV)(ee:Bool)(aW:SV)(ds:Ds)(w:World):Prop:=
 alE (.cells #[.bool lX,az.v] 67) w λr2 w1=>
 alE (.cells #[.bool ee,aW.v] 67) w1 λr3 w2=>
 ∃b6,w2.cell? (⟨r2,0,none⟩:Addr)=some (.bool b6)/\
 ∃b8,w2.cell? (⟨r3,0,none⟩:Addr)=some (.bool b8)/\
 Br (b6 == b8) (
 ∃f7:SV,w2.cell? ((⟨r2,0,none⟩:Addr).add 1)=some (f7.v)/\
 ∃bL:SV,w2.cell? ((⟨r3,0,none⟩:Addr).add 1)=some (bL.v)/\
 Calls prog 105 #[f7.v,bL.v] w2 λe w3=>
 ∃kW:Bool,e=.returned (.bool kW)/\
 zQd prog ds w3 λw4=>
 R (.returned (.bool kW)) w4) (
 zQd prog ds w2 λw5=>
 R (.returned (.bool false)) w5)
theorem F70_p:Pl prog f70 [aS 0 [.bool,.slice],aS 1 [.bool,.slice]] F70_1:=λR=>
 lf
theorem yWP (lX:Bool) (az:SV) (ee:Bool) (aW:SV) (w:World) (R:Rt) (h:F70_1 R lX az ee aW [] w):Calls prog 70 #[.agg #[.bool lX,az.v],.agg #[.bool ee,aW.v]] w R:=
 plC F70_p func70 h
def xXU(R:Rt)(ds:Ds)(w:World):Prop:=
 zQd prog ds w λw1=>
 R (.returned (.bool true)) w1
def xQi (R:Rt) (J1:(Int)->World->Prop) (l0 l1:SV) (n5:Int) (ds:Ds) (w:World):Prop:=
 Br (decide (n5<(l0.len:Int))) (
 dwE w λw2=>
 ∃a3,l0.a=some a3/\0<=n5/\n5<(l0.len:Int)/\
 ∃dc,w2.cell? ((a3.add (n5.toNat * 3)).add 0)=some (.int .i64 dc)/\
 ∃bQ,w2.cell? ((a3.add (n5.toNat * 3)).add 1)=some (.int .i64 bQ)/\
 ∃dd,w2.cell? ((a3.add (n5.toNat * 3)).add 2)=some (.string dd)/\
 ∃a4,l1.a=some a4/\0<=n5/\n5<(l1.len:Int)/\
 ∃ja,w2.cell? ((a4.add (n5.toNat * 3)).add 0)=some (.int .i64 ja)/\
 ∃jb,w2.cell? ((a4.add (n5.toNat * 3)).add 1)=some (.int .i64 jb)/\
 ∃nw,w2.cell? ((a4.add (n5.toNat * 3)).add 2)=some (.string nw)/\
 Calls prog 140 #[.agg #[.int .i64 dc,.int .i64 bQ,.string dd],.agg #[.int .i64 ja,.int .i64 jb,.string nw]] w2 λe w5=>
 ∃ph:Bool,e=.returned (.bool ph)/\
 Br (!ph) (
 zQd prog ds w5 λw6=>
 R (.returned (.bool false)) w6) (
 J1 (IntKind.i64.wrap (n5+1)) w5)) (
 xXU R ds w)
def xZ1(R:Rt)(l0 l1:SV)(n5:Int)(ds:Ds)(w:World):Prop:=
 zQW (λ(J1:(Int)->World->Prop) (s:Int) (w:World)=>xQi R J1 l0 l1 s ds w) n5 w
def xXA(R:Rt)(l0 l1:SV)(ds:Ds)(w:World):Prop:=
 Br ((l0.len:Int) != (l1.len:Int)) (
 zQd prog ds w λw7=>
 R (.returned (.bool false)) w7) (
 xZ1 R l0 l1 0 ds w)
theorem F105_p:Pl prog f105 [lS 0,lS 1] xXA:=λR=>
 pc 4 (rest [lS 0,lS 1,iS 5] (xZ1 R) (bk 0 (rest [] (xXU R) lf) (lp [iS 5] [lS 0,lS 1,iS 5] (xQi R) zZU λJ1=>lf)))
theorem yZZ (l0 l1:SV) (w:World) (R:Rt) (h:xXA R l0 l1 [] w):Calls prog 105 #[l0.v,l1.v] w R:=
 plC F105_p func105 h
end Go.Proofs.YtaeecpjhfmcliaaGreatDoor
/- Shallow texts of functions, printed by program, each checked by the kernel against the loaded code. No condition. -/
namespace Go.Proofs.YtaeecpjhfmcliaaGreatDoor
open Go.Sh Tryz
def F45_1(R:Rt)(n0:Int)(ds:Ds)(w:World):Prop:=
 alE (.cells #[.int .i64 0,.int .i64 0,.string (⟨#[]⟩:ByteArray)] 73) w λr2 w1=>
 stA prog 73 (⟨r2,0,none⟩:Addr) #[.int .i64 2,.int .i64 n0,.string (⟨#[]⟩:ByteArray)] w1 λw2=>
 zQd prog ds w2 λw3=>
 ∃ag,w3.cell? ((⟨r2,0,none⟩:Addr).add 0)=some (.int .i64 ag)/\
 ∃ap,w3.cell? ((⟨r2,0,none⟩:Addr).add 1)=some (.int .i64 ap)/\
 ∃aq,w3.cell? ((⟨r2,0,none⟩:Addr).add 2)=some (.string aq)/\
 R (.returned (.agg #[.int .i64 ag,.int .i64 ap,.string aq])) w3
theorem F45_p:Pl prog f45 [iS 0] F45_1:=λR=>
 lf
theorem yWy (n0:Int) (w:World) (R:Rt) (h:F45_1 R n0 [] w):Calls prog 45 #[.int .i64 n0] w R:=
 plC F45_p func45 h
end Go.Proofs.YtaeecpjhfmcliaaGreatDoor
/- Shallow texts of functions, printed by program, each checked by the kernel against the loaded code. No condition. -/
namespace Go.Proofs.YtaeecpjhfmcliaaGreatDoor
open Go.Sh Tryz
def F72_1(R:Rt)(l8:SV)(ds:Ds)(w:World):Prop:=
 zQd prog ds w λw1=>
 R (.returned (.tuple #[l8.v,.int .i64 0])) w1
def yJU (R:Rt) (J1:(SV × Int)->World->Prop) (p2 p3:Option Addr) (l8:SV) (n39 n40:Int) (ds:Ds) (w:World):Prop:=
 J1 (l8,(IntKind.i64.wrap (n40+1))) w
def F72_3 (R:Rt) (J1:(SV × Int)->World->Prop) (p2 p3:Option Addr) (l8:SV) (n39 n40:Int) (ds:Ds) (w:World):Prop:=
 Br (decide (n40<n39)) (
 dwE w λw2=>
 zQf p2 λa3=>
 ∃lG:SV,w2.cell? (a3.add 2)=some (lG.v)/\
 Br (decide (n40 >= (lG.len:Int))) (
 alE (.cells #[.int .i64 (IntKind.i64.wrap (n40+1))] 3) w2 λpi w4=>
 ∃fu:SV,∃w5,(Builtin.append_ #[52,52] 52 #[l8.v,.slice (some ⟨pi,0,none⟩) 1 1]).run prog w4=.ok (fu.v) w5/\
 yJU R J1 p2 p3 fu n39 n40 ds w5) (
 zQf p3 λa6=>
 ∃kX:SV,w2.cell? (a6.add 2)=some (kX.v)/\
 Br (decide (n40 >= (kX.len:Int))) (
 alE (.cells #[.int .i64 (IntKind.i64.wrap (n40+1))] 3) w2 λpi w7=>
 ∃fu:SV,∃w8,(Builtin.append_ #[52,52] 52 #[l8.v,.slice (some ⟨pi,0,none⟩) 1 1]).run prog w7=.ok (fu.v) w8/\
 yJU R J1 p2 p3 fu n39 n40 ds w8) (
 zQf p2 λa9=>
 ∃rh:SV,w2.cell? (a9.add 2)=some (rh.v)/\
 ∃ej,rh.a=some ej/\0<=n40/\n40<(rh.len:Int)/\
 ∃ri,w2.cell? (ej.add (n40.toNat * 2))=some (.bool ri)/\
 zQf p3 λcT=>
 ∃rj:SV,w2.cell? (cT.add 2)=some (rj.v)/\
 ∃js,rj.a=some js/\0<=n40/\n40<(rj.len:Int)/\
 ∃rk,w2.cell? (js.add (n40.toNat * 2))=some (.bool rk)/\
 ∃xP:Bool,(∀w,(eqS .neq 4 (.tmp 61) (.tmp 67) (.bool ri) (.bool rk)).run prog w=.ok (.bool xP) w)/\
 Br xP (
 alE (.cells #[.int .i64 (IntKind.i64.wrap (n40+1))] 3) w2 λpi aZ=>
 ∃fu:SV,∃bI,(Builtin.append_ #[52,52] 52 #[l8.v,.slice (some ⟨pi,0,none⟩) 1 1]).run prog aZ=.ok (fu.v) bI/\
 yJU R J1 p2 p3 fu n39 n40 ds bI) (
 zQf p2 λgq=>
 ∃iw:SV,w2.cell? (gq.add 2)=some (iw.v)/\
 ∃gp,iw.a=some gp/\0<=n40/\n40<(iw.len:Int)/\
 ∃jy:SV,w2.cell? ((gp.add (n40.toNat * 2)).add 1)=some (jy.v)/\
 zQf p3 λqb=>
 ∃iy:SV,w2.cell? (qb.add 2)=some (iy.v)/\
 ∃iG,iy.a=some iG/\0<=n40/\n40<(iy.len:Int)/\
 ∃qc:SV,w2.cell? ((iG.add (n40.toNat * 2)).add 1)=some (qc.v)/\
 Calls prog 108 #[jy.v,qc.v] w2 λe ce=>
 ∃xQ:Bool,e=.returned (.bool xQ)/\
 Br (!xQ) (
 alE (.cells #[.int .i64 (IntKind.i64.wrap (n40+1))] 3) ce λpi cf=>
 ∃fu:SV,∃bt,(Builtin.append_ #[52,52] 52 #[l8.v,.slice (some ⟨pi,0,none⟩) 1 1]).run prog cf=.ok (fu.v) bt/\
 yJU R J1 p2 p3 fu n39 n40 ds bt) (
 yJU R J1 p2 p3 l8 n39 n40 ds ce))))) (
 F72_1 R l8 ds w)
def F72_4(R:Rt)(p2 p3:Option Addr)(l8:SV)(n39 n40:Int)(ds:Ds)(w:World):Prop:=
 zQW (λ(J1:(SV × Int)->World->Prop) (s:SV × Int) (w:World)=>F72_3 R J1 p2 p3 s.1 n39 s.2 ds w) (l8,n40) w
def F72_6(R:Rt)(aF:Int)(az ar:SV)(aT:Int)(aW br:SV)(ds:Ds)(w:World):Prop:=
 alE (.cells #[.int .i64 aF,az.v,ar.v] 35) w λr2 eu=>
 alE (.cells #[.int .i64 aT,aW.v,br.v] 35) eu λr3 cy=>
 ∃jc,cy.cell? ((⟨r2,0,none⟩:Addr).add 0)=some (.int .i64 jc)/\
 ∃cB:SV,cy.cell? ((⟨r2,0,none⟩:Addr).add 1)=some (cB.v)/\
 ∃cC:SV,cy.cell? ((⟨r2,0,none⟩:Addr).add 2)=some (cC.v)/\
 Calls prog 106 #[.agg #[.int .i64 jc,cB.v,cC.v]] cy λe cS=>
 ∃cq:Int,e=.returned (.int .i64 cq)/\
 Br (cq != 0) (
 zQd prog ds cS λeG=>
 R (.returned (.tuple #[.slice none 0 0,.int .i64 cq])) eG) (
 ∃iX,cS.cell? ((⟨r3,0,none⟩:Addr).add 0)=some (.int .i64 iX)/\
 ∃gr:SV,cS.cell? ((⟨r3,0,none⟩:Addr).add 1)=some (gr.v)/\
 ∃gt:SV,cS.cell? ((⟨r3,0,none⟩:Addr).add 2)=some (gt.v)/\
 Calls prog 106 #[.agg #[.int .i64 iX,gr.v,gt.v]] cS λe dB=>
 ∃n16:Int,e=.returned (.int .i64 n16)/\
 Br (n16 != 0) (
 zQd prog ds dB λfW=>
 R (.returned (.tuple #[.slice none 0 0,.int .i64 n16])) fW) (
 ∃kk,dB.cell? (⟨r2,0,none⟩:Addr)=some (.int .i64 kk)/\
 ∃iF,dB.cell? (⟨r3,0,none⟩:Addr)=some (.int .i64 iF)/\
 Br (kk != iF) (
 zQd prog ds dB λdN=>
 R (.returned (.tuple #[.slice none 0 0,.int .i64 10])) dN) (
 ∃bZ:SV,dB.cell? ((⟨r2,0,none⟩:Addr).add 1)=some (bZ.v)/\
 ∃eE:SV,dB.cell? ((⟨r3,0,none⟩:Addr).add 1)=some (eE.v)/\
 Calls prog 107 #[bZ.v,eE.v] dB λe fg=>
 ∃qM:Bool,e=.returned (.bool qM)/\
 Br (!qM) (
 zQd prog ds fg λfH=>
 R (.returned (.tuple #[.slice none 0 0,.int .i64 10])) fH) (
 ∃jd:SV,fg.cell? ((⟨r2,0,none⟩:Addr).add 2)=some (jd.v)/\
 ∃cV:SV,fg.cell? ((⟨r3,0,none⟩:Addr).add 2)=some (cV.v)/\
 ∃n39:Int,∃eD,(Builtin.max_ #[3,3] 3 #[.int .i64 (jd.len:Int),.int .i64 (cV.len:Int)]).run prog fg=.ok (.int .i64 n39) eD/\
 F72_4 R (some (⟨r2,0,none⟩:Addr)) (some (⟨r3,0,none⟩:Addr)) ⟨none,0,0⟩ n39 0 ds eD))))
theorem F72_p:Pl prog f72 [aS 0 [.int .i64,.slice,.slice],aS 1 [.int .i64,.slice,.slice]] F72_6:=λR=>
 pc 11 (rest [pS 2,pS 3,lS 8,iS 39,iS 40] (F72_4 R) (bk 0 (rest [lS 8] (F72_1 R) lf) (lp [lS 8,iS 40] [pS 2,pS 3,lS 8,iS 39,iS 40] (F72_3 R) zZU λJ1=>pc 3 (rest [pS 2,pS 3,lS 8,iS 39,iS 40] (yJU R J1) lf))))
theorem yWJ (aF:Int) (az ar:SV) (aT:Int) (aW br:SV) (w:World) (R:Rt) (h:F72_6 R aF az ar aT aW br [] w):Calls prog 72 #[.agg #[.int .i64 aF,az.v,ar.v],.agg #[.int .i64 aT,aW.v,br.v]] w R:=
 plC F72_p func72 h
def xQc(R:Rt)(ds:Ds)(w:World):Prop:=
 zQd prog ds w λw1=>
 R (.returned (.bool true)) w1
def xXk (R:Rt) (J1:(Int)->World->Prop) (l0 l1:SV) (jH cx:Int) (ds:Ds) (w:World):Prop:=
 Br (decide (cx<jH)) (
 dwE w λw2=>
 ∃a3,l0.a=some a3/\0<=cx/\cx<(l0.len:Int)/\
 ∃iQ,w2.cell? ((a3.add (cx.toNat * 4)).add 0)=some (.string iQ)/\
 ∃bR,w2.cell? ((a3.add (cx.toNat * 4)).add 1)=some (.int .i64 bR)/\
 ∃iR,w2.cell? ((a3.add (cx.toNat * 4)).add 2)=some (.int .i64 iR)/\
 ∃iT,w2.cell? ((a3.add (cx.toNat * 4)).add 3)=some (.bool iT)/\
 ∃a4,l1.a=some a4/\0<=cx/\cx<(l1.len:Int)/\
 ∃iZ,w2.cell? ((a4.add (cx.toNat * 4)).add 0)=some (.string iZ)/\
 ∃dP,w2.cell? ((a4.add (cx.toNat * 4)).add 1)=some (.int .i64 dP)/\
 ∃i0,w2.cell? ((a4.add (cx.toNat * 4)).add 2)=some (.int .i64 i0)/\
 ∃i5,w2.cell? ((a4.add (cx.toNat * 4)).add 3)=some (.bool i5)/\
 ∃pj:Bool,(∀w,(eqS .neq 129 (.tmp 19) (.tmp 23) (.agg #[.string iQ,.int .i64 bR,.int .i64 iR,.bool iT]) (.agg #[.string iZ,.int .i64 dP,.int .i64 i0,.bool i5])).run prog w=.ok (.bool pj) w)/\
 Br pj (
 zQd prog ds w2 λw5=>
 R (.returned (.bool false)) w5) (
 J1 (IntKind.i64.wrap (cx+1)) w2)) (
 xQc R ds w)
def xZv(R:Rt)(l0 l1:SV)(jH cx:Int)(ds:Ds)(w:World):Prop:=
 zQW (λ(J1:(Int)->World->Prop) (s:Int) (w:World)=>xXk R J1 l0 l1 jH s ds w) cx w
def xQn(R:Rt)(l0 l1:SV)(ds:Ds)(w:World):Prop:=
 Br ((l0.len:Int) != (l1.len:Int)) (
 zQd prog ds w λw6=>
 R (.returned (.bool false)) w6) (
 xZv R l0 l1 (l0.len:Int) 0 ds w)
theorem F107_p:Pl prog f107 [lS 0,lS 1] xQn:=λR=>
 pc 4 (rest [lS 0,lS 1,iS 12,iS 13] (xZv R) (bk 0 (rest [] (xQc R) lf) (lp [iS 13] [lS 0,lS 1,iS 12,iS 13] (xXk R) zZU λJ1=>lf)))
theorem yJJ (l0 l1:SV) (w:World) (R:Rt) (h:xQn R l0 l1 [] w):Calls prog 107 #[l0.v,l1.v] w R:=
 plC F107_p func107 h
def xX2(R:Rt)(ds:Ds)(w:World):Prop:=
 zQd prog ds w λw1=>
 R (.returned (.bool true)) w1
def xXf (R:Rt) (J1:(Int)->World->Prop) (l0 l1:SV) (jH cx:Int) (ds:Ds) (w:World):Prop:=
 Br (decide (cx<jH)) (
 dwE w λw2=>
 ∃a3,l0.a=some a3/\0<=cx/\cx<(l0.len:Int)/\
 ∃cm,w2.cell? ((a3.add (cx.toNat * 3)).add 0)=some (.int .i64 cm)/\
 ∃bR,w2.cell? ((a3.add (cx.toNat * 3)).add 1)=some (.int .i64 bR)/\
 ∃iY,w2.cell? ((a3.add (cx.toNat * 3)).add 2)=some (.string iY)/\
 ∃a4,l1.a=some a4/\0<=cx/\cx<(l1.len:Int)/\
 ∃nx,w2.cell? ((a4.add (cx.toNat * 3)).add 0)=some (.int .i64 nx)/\
 ∃dP,w2.cell? ((a4.add (cx.toNat * 3)).add 1)=some (.int .i64 dP)/\
 ∃ny,w2.cell? ((a4.add (cx.toNat * 3)).add 2)=some (.string ny)/\
 ∃pj:Bool,(∀w,(eqS .neq 73 (.tmp 19) (.tmp 23) (.agg #[.int .i64 cm,.int .i64 bR,.string iY]) (.agg #[.int .i64 nx,.int .i64 dP,.string ny])).run prog w=.ok (.bool pj) w)/\
 Br pj (
 zQd prog ds w2 λw5=>
 R (.returned (.bool false)) w5) (
 J1 (IntKind.i64.wrap (cx+1)) w2)) (
 xX2 R ds w)
def xXh(R:Rt)(l0 l1:SV)(jH cx:Int)(ds:Ds)(w:World):Prop:=
 zQW (λ(J1:(Int)->World->Prop) (s:Int) (w:World)=>xXf R J1 l0 l1 jH s ds w) cx w
def xXB(R:Rt)(l0 l1:SV)(ds:Ds)(w:World):Prop:=
 Br ((l0.len:Int) != (l1.len:Int)) (
 zQd prog ds w λw6=>
 R (.returned (.bool false)) w6) (
 xXh R l0 l1 (l0.len:Int) 0 ds w)
theorem F108_p:Pl prog f108 [lS 0,lS 1] xXB:=λR=>
 pc 4 (rest [lS 0,lS 1,iS 12,iS 13] (xXh R) (bk 0 (rest [] (xX2 R) lf) (lp [iS 13] [lS 0,lS 1,iS 12,iS 13] (xXf R) zZU λJ1=>lf)))
theorem yJ9 (l0 l1:SV) (w:World) (R:Rt) (h:xXB R l0 l1 [] w):Calls prog 108 #[l0.v,l1.v] w R:=
 plC F108_p func108 h
def F69_1(R:Rt)(ds:Ds)(w:World):Prop:=
 zQd prog ds w λw1=>
 R (.returned (.bool true)) w1
def F69_2 (R:Rt) (J1:(Int)->World->Prop) (l0 l1:SV) (n5:Int) (ds:Ds) (w:World):Prop:=
 Br (decide (n5<(l0.len:Int))) (
 dwE w λw2=>
 ∃a3,l0.a=some a3/\0<=n5/\n5<(l0.len:Int)/\
 ∃nA,w2.cell? ((a3.add (n5.toNat * 4)).add 0)=some (.string nA)/\
 ∃bQ,w2.cell? ((a3.add (n5.toNat * 4)).add 1)=some (.int .i64 bQ)/\
 ∃nB,w2.cell? ((a3.add (n5.toNat * 4)).add 2)=some (.int .i64 nB)/\
 ∃nC,w2.cell? ((a3.add (n5.toNat * 4)).add 3)=some (.bool nC)/\
 ∃a4,l1.a=some a4/\0<=n5/\n5<(l1.len:Int)/\
 ∃nD,w2.cell? ((a4.add (n5.toNat * 4)).add 0)=some (.string nD)/\
 ∃jb,w2.cell? ((a4.add (n5.toNat * 4)).add 1)=some (.int .i64 jb)/\
 ∃nE,w2.cell? ((a4.add (n5.toNat * 4)).add 2)=some (.int .i64 nE)/\
 ∃nF,w2.cell? ((a4.add (n5.toNat * 4)).add 3)=some (.bool nF)/\
 ∃ph:Bool,(∀w,(eqS .neq 129 (.tmp 20) (.tmp 24) (.agg #[.string nA,.int .i64 bQ,.int .i64 nB,.bool nC]) (.agg #[.string nD,.int .i64 jb,.int .i64 nE,.bool nF])).run prog w=.ok (.bool ph) w)/\
 Br ph (
 zQd prog ds w2 λw5=>
 R (.returned (.bool false)) w5) (
 J1 (IntKind.i64.wrap (n5+1)) w2)) (
 F69_1 R ds w)
def F69_3(R:Rt)(l0 l1:SV)(n5:Int)(ds:Ds)(w:World):Prop:=
 zQW (λ(J1:(Int)->World->Prop) (s:Int) (w:World)=>F69_2 R J1 l0 l1 s ds w) n5 w
def F69_5(R:Rt)(l0 l1:SV)(ds:Ds)(w:World):Prop:=
 Br ((l0.len:Int) != (l1.len:Int)) (
 zQd prog ds w λw6=>
 R (.returned (.bool false)) w6) (
 F69_3 R l0 l1 0 ds w)
theorem F69_p:Pl prog f69 [lS 0,lS 1] F69_5:=λR=>
 pc 4 (rest [lS 0,lS 1,iS 5] (F69_3 R) (bk 0 (rest [] (F69_1 R) lf) (lp [iS 5] [lS 0,lS 1,iS 5] (F69_2 R) zZU λJ1=>lf)))
theorem yKN (l0 l1:SV) (w:World) (R:Rt) (h:F69_5 R l0 l1 [] w):Calls prog 69 #[l0.v,l1.v] w R:=
 plC F69_p func69 h
end Go.Proofs.YtaeecpjhfmcliaaGreatDoor
/- Shallow texts of functions, printed by program, each checked by the kernel against the loaded code. No condition. -/
namespace Go.Proofs.YtaeecpjhfmcliaaGreatDoor
open Go.Sh Tryz
def xXL(R:Rt)(n0:Int)(ds:Ds)(w:World):Prop:=
 IntKind.i64=IntKind.i64/\(4:Int) ≠ 0/\
 Br ((n0.tmod 4) == 0) (
 IntKind.i64=IntKind.i64/\(100:Int) ≠ 0/\
 Br ((n0.tmod 100) != 0) (
 zQd prog ds w λw1=>
 R (.returned (.bool true)) w1) (
 IntKind.i64=IntKind.i64/\(400:Int) ≠ 0/\
 zQd prog ds w λw2=>
 R (.returned (.bool ((n0.tmod 400) == 0))) w2)) (
 zQd prog ds w λw3=>
 R (.returned (.bool false)) w3)
theorem F239_p:Pl prog f239 [iS 0] xXL:=λR=>
 lf
theorem yJZ (n0:Int) (w:World) (R:Rt) (h:xXL R n0 [] w):Calls prog 239 #[.int .i64 n0] w R:=
 plC F239_p func239 h
def yYX(R:Rt)(n0 n1:Int)(ds:Ds)(w:World):Prop:=
 alE (.cells #[.int .i64 0,.int .i64 0,.int .i64 0,.int .i64 0,.int .i64 0,.int .i64 0,.int .i64 0,.int .i64 0,.int .i64 0,.int .i64 0,.int .i64 0,.int .i64 0] 258) w λr5 w1=>
 stA prog 258 (⟨r5,0,none⟩:Addr) #[.int .i64 31,.int .i64 28,.int .i64 31,.int .i64 30,.int .i64 31,.int .i64 30,.int .i64 31,.int .i64 31,.int .i64 30,.int .i64 31,.int .i64 30,.int .i64 31] w1 λw2=>
 Br (n1 == 2) (
 Calls prog 239 #[.int .i64 n0] w2 λe w3=>
 ∃km:Bool,e=.returned (.bool km)/\
 Br km (
 zQd prog ds w3 λw4=>
 R (.returned (.int .i64 29)) w4) (
 0<=(IntKind.i64.wrap (n1 - 1))/\(IntKind.i64.wrap (n1 - 1))<(12:Int)/\
 ∃n16,w3.cell? ((⟨r5,0,none⟩:Addr).add ((IntKind.i64.wrap (n1 - 1)).toNat * 1))=some (.int .i64 n16)/\
 zQd prog ds w3 λw5=>
 R (.returned (.int .i64 n16)) w5)) (
 0<=(IntKind.i64.wrap (n1 - 1))/\(IntKind.i64.wrap (n1 - 1))<(12:Int)/\
 ∃n16,w2.cell? ((⟨r5,0,none⟩:Addr).add ((IntKind.i64.wrap (n1 - 1)).toNat * 1))=some (.int .i64 n16)/\
 zQd prog ds w2 λw6=>
 R (.returned (.int .i64 n16)) w6)
theorem F236_p:Pl prog f236 [iS 0,iS 1] yYX:=λR=>
 lf
theorem yZR (n0 n1:Int) (w:World) (R:Rt) (h:yYX R n0 n1 [] w):Calls prog 236 #[.int .i64 n0,.int .i64 n1] w R:=
 plC F236_p func236 h
def xXH(R:Rt)(n0:Int)(ds:Ds)(w:World):Prop:=
 IntKind.i64=IntKind.i64/\(4:Int) ≠ 0/\
 IntKind.i64=IntKind.i64/\(100:Int) ≠ 0/\
 IntKind.i64=IntKind.i64/\(400:Int) ≠ 0/\
 zQd prog ds w λw1=>
 R (.returned (.int .i64 (IntKind.i64.wrap ((IntKind.i64.wrap ((IntKind.i64.wrap ((IntKind.i64.wrap ((365:Int) * (IntKind.i64.wrap (n0 - 1))))+(IntKind.i64.wrap ((IntKind.i64.wrap (n0 - 1)).tdiv 4)))) - (IntKind.i64.wrap ((IntKind.i64.wrap (n0 - 1)).tdiv 100))))+(IntKind.i64.wrap ((IntKind.i64.wrap (n0 - 1)).tdiv 400)))))) w1
theorem F237_p:Pl prog f237 [iS 0] xXH:=λR=>
 lf
theorem yJ1 (n0:Int) (w:World) (R:Rt) (h:xXH R n0 [] w):Calls prog 237 #[.int .i64 n0] w R:=
 plC F237_p func237 h
def xXj(R:Rt)(n8:Int)(ds:Ds)(w:World):Prop:=
 zQd prog ds w λw1=>
 R (.returned (.tuple #[.int .i64 n8,.int .i64 0])) w1
def xQR (R:Rt) (J1:(Int × Int)->World->Prop) (n0 n8 n40 n41:Int) (ds:Ds) (w:World):Prop:=
 Br (decide (n41<n40)) (
 Calls prog 236 #[.int .i64 n0,.int .i64 (IntKind.i64.wrap (n41+1))] w λe w2=>
 ∃rm:Int,e=.returned (.int .i64 rm)/\
 J1 ((IntKind.i64.wrap (n8+rm)),(IntKind.i64.wrap (n41+1))) w2) (
 xXj R n8 ds w)
def xQP(R:Rt)(n0 n8 n40 n41:Int)(ds:Ds)(w:World):Prop:=
 zQW (λ(J1:(Int × Int)->World->Prop) (s:Int × Int) (w:World)=>xQR R J1 n0 s.1 n40 s.2 ds w) (n8,n41) w
def zKT(R:Rt)(n0 n1 n2:Int)(tE:Bool)(ds:Ds)(w:World):Prop:=
 Br tE (
 zQd prog ds w λw3=>
 R (.returned (.tuple #[.int .i64 0,.int .i64 1])) w3) (
 Calls prog 237 #[.int .i64 n0] w λe w4=>
 ∃n36:Int,e=.returned (.int .i64 n36)/\
 xQP R n0 (IntKind.i64.wrap (n36+n2)) (IntKind.i64.wrap (n1 - 1)) 0 ds w4)
def xX7(R:Rt)(n0 n1 n2:Int)(ds:Ds)(w:World):Prop:=
 Br (decide (n0<1)) (
 zKT R n0 n1 n2 true ds w) (
 Br (decide (n0 > 9999)) (
 zKT R n0 n1 n2 true ds w) (
 Br (decide (n1<1)) (
 zKT R n0 n1 n2 true ds w) (
 Br (decide (n1 > 12)) (
 zKT R n0 n1 n2 true ds w) (
 Br (decide (n2<1)) (
 zKT R n0 n1 n2 true ds w) (
 Calls prog 236 #[.int .i64 n0,.int .i64 n1] w λe w5=>
 ∃ro:Int,e=.returned (.int .i64 ro)/\
 zKT R n0 n1 n2 (decide (n2 > ro)) ds w5)))))
def xXo(R:Rt)(n0 n1 n2:Int)(ds:Ds)(w:World):Prop:=
 xX7 R n0 n1 n2 ds w
theorem F226_p:Pl prog f226 [iS 0,iS 1,iS 2] xXo:=λR=>
 pc 1 (rest [iS 0,iS 1,iS 2] (xX7 R) (pc 1 (rest [iS 0,iS 1,iS 2,bS 34] (zKT R) (pc 3 (rest [iS 0,iS 8,iS 40,iS 41] (xQP R) (bk 0 (rest [iS 8] (xXj R) lf) (lp [iS 8,iS 41] [iS 0,iS 8,iS 40,iS 41] (xQR R) zZU λJ1=>lf)))))))
theorem yJQ (n0 n1 n2:Int) (w:World) (R:Rt) (h:xXo R n0 n1 n2 [] w):Calls prog 226 #[.int .i64 n0,.int .i64 n1,.int .i64 n2] w R:=
 plC F226_p func226 h
def xXC(R:Rt)(n6 n7 n8:Int)(ds:Ds)(w:World):Prop:=
 zQd prog ds w λw1=>
 R (.returned (.tuple #[.int .i64 n6,.int .i64 n8,.int .i64 n7,.int .i64 0])) w1
def xQr (R:Rt) (J1:(Int × Int)->World->Prop) (n6 n7 n8:Int) (ds:Ds) (w:World):Prop:=
 Calls prog 236 #[.int .i64 n6,.int .i64 n8] w λe w2=>
 ∃qF:Int,e=.returned (.int .i64 qF)/\
 Br (decide (n7 > qF)) (
 Calls prog 236 #[.int .i64 n6,.int .i64 n8] w2 λe w3=>
 ∃n36:Int,e=.returned (.int .i64 n36)/\
 J1 ((IntKind.i64.wrap (n7 - n36)),(IntKind.i64.wrap (n8+1))) w3) (
 xXC R n6 n7 n8 ds w2)
def xX4(R:Rt)(n6 n7 n8:Int)(ds:Ds)(w:World):Prop:=
 zQW (λ(J1:(Int × Int)->World->Prop) (s:Int × Int) (w:World)=>xQr R J1 n6 s.1 s.2 ds w) (n7,n8) w
def xZ5(R:Rt)(n0 n6:Int)(ds:Ds)(w:World):Prop:=
 Calls prog 237 #[.int .i64 n6] w λe w4=>
 ∃bo:Int,e=.returned (.int .i64 bo)/\
 xX4 R n6 (IntKind.i64.wrap (n0 - bo)) 1 ds w4
def yV2 (R:Rt) (J1:(Int)->World->Prop) (n0 n6:Int) (ds:Ds) (w:World):Prop:=
 Calls prog 237 #[.int .i64 (IntKind.i64.wrap (n6+1))] w λe w5=>
 ∃jz:Int,e=.returned (.int .i64 jz)/\
 Br (decide (jz<n0)) (
 J1 (IntKind.i64.wrap (n6+1)) w5) (
 xZ5 R n0 n6 ds w5)
def xQe(R:Rt)(n0 n6:Int)(ds:Ds)(w:World):Prop:=
 zQW (λ(J1:(Int)->World->Prop) (s:Int) (w:World)=>yV2 R J1 n0 s ds w) n6 w
def xZc(R:Rt)(n0:Int)(ds:Ds)(w:World):Prop:=
 Calls prog 191 #[.int .i64 n0] w λe w6=>
 ∃cr:Bool,e=.returned (.bool cr)/\
 Br (!cr) (
 zQd prog ds w6 λw7=>
 R (.returned (.tuple #[.int .i64 0,.int .i64 0,.int .i64 0,.int .i64 1])) w7) (
 Br (n0 == 0) (
 zQd prog ds w6 λw8=>
 R (.returned (.tuple #[.int .i64 0,.int .i64 0,.int .i64 0,.int .i64 0])) w8) (
 IntKind.i64=IntKind.i64/\(366:Int) ≠ 0/\
 xQe R n0 (IntKind.i64.wrap ((IntKind.i64.wrap (n0.tdiv 366))+1)) ds w6))
theorem F234_p:Pl prog f234 [iS 0] xZc:=λR=>
 pc 6 (rest [iS 0,iS 6] (xQe R) (bk 0 (rest [iS 0,iS 6] (xZ5 R) (pc 1 (rest [iS 6,iS 7,iS 8] (xX4 R) (bk 2 (rest [iS 6,iS 7,iS 8] (xXC R) lf) (lp [iS 7,iS 8] [iS 6,iS 7,iS 8] (xQr R) zZU λJ1=>lf))))) (lp [iS 6] [iS 0,iS 6] (yV2 R) zZU λJ1=>lf)))
theorem yZY (n0:Int) (w:World) (R:Rt) (h:xZc R n0 [] w):Calls prog 234 #[.int .i64 n0] w R:=
 plC F234_p func234 h
def xXM(R:Rt)(n0 n1:Int)(ds:Ds)(w:World):Prop:=
 Calls prog 154 #[.int .i64 n0] w λe w1=>
 ∃s7:ByteArray,e=.returned (.string s7)/\
 Calls prog 155 #[.string (⟨#[48]⟩:ByteArray),.int .i64 (IntKind.i64.wrap (n1 - (s7.size:Int)))] w1 λe w2=>
 ∃lO:ByteArray,e=.returned (.string lO)/\
 ((lO.size+s7.size:Nat):Int)<=9223372036854775807/\
 zQd prog ds w2 λw3=>
 R (.returned (.string (lO ++ s7))) w3
theorem F235_p:Pl prog f235 [iS 0,iS 1] xXM:=λR=>
 lf
theorem yK5 (n0 n1:Int) (w:World) (R:Rt) (h:xXM R n0 n1 [] w):Calls prog 235 #[.int .i64 n0,.int .i64 n1] w R:=
 plC F235_p func235 h
def xQG(R:Rt)(n0:Int)(ds:Ds)(w:World):Prop:=
 Calls prog 234 #[.int .i64 n0] w λe w1=>
 ∃eH:Int,∃cb:Int,∃rp:Int,∃uj:Int,e=.returned (.tuple #[.int .i64 eH,.int .i64 cb,.int .i64 rp,.int .i64 uj])/\
 Calls prog 235 #[.int .i64 eH,.int .i64 4] w1 λe w2=>
 ∃o9:ByteArray,e=.returned (.string o9)/\
 Calls prog 235 #[.int .i64 cb,.int .i64 2] w2 λe w3=>
 ∃tF:ByteArray,e=.returned (.string tF)/\
 ((o9.size+tF.size:Nat):Int)<=9223372036854775807/\
 Calls prog 235 #[.int .i64 rp,.int .i64 2] w3 λe w4=>
 ∃uk:ByteArray,e=.returned (.string uk)/\
 (((o9 ++ tF).size+uk.size:Nat):Int)<=9223372036854775807/\
 zQd prog ds w4 λw5=>
 R (.returned (.string ((o9 ++ tF) ++ uk))) w5
theorem F225_p:Pl prog f225 [iS 0] xQG:=λR=>
 lf
theorem yKb (n0:Int) (w:World) (R:Rt) (h:xQG R n0 [] w):Calls prog 225 #[.int .i64 n0] w R:=
 plC F225_p func225 h
def xXP(R:Rt)(n0:Int)(ds:Ds)(w:World):Prop:=
 Calls prog 191 #[.int .i64 n0] w λe w1=>
 ∃b5:Bool,e=.returned (.bool b5)/\
 Br (!b5) (
 zQd prog ds w1 λw2=>
 R (.returned (.tuple #[.string (⟨#[]⟩:ByteArray),.int .i64 1])) w2) (
 Br (n0 == 0) (
 zQd prog ds w1 λw3=>
 R (.returned (.tuple #[.string (⟨#[32,32,32,32,32,32,32,32]⟩:ByteArray),.int .i64 0])) w3) (
 Calls prog 225 #[.int .i64 n0] w1 λe w4=>
 ∃nv:ByteArray,e=.returned (.string nv)/\
 zQd prog ds w4 λw5=>
 R (.returned (.tuple #[.string nv,.int .i64 0])) w5))
theorem F212_p:Pl prog f212 [iS 0] xXP:=λR=>
 lf
theorem yJ2 (n0:Int) (w:World) (R:Rt) (h:xXP R n0 [] w):Calls prog 212 #[.int .i64 n0] w R:=
 plC F212_p func212 h
end Go.Proofs.YtaeecpjhfmcliaaGreatDoor
/- Shallow texts of functions, printed by program, each checked by the kernel against the loaded code. No condition. -/
namespace Go.Proofs.YtaeecpjhfmcliaaGreatDoor
open Go.Sh Tryz
def xXE(R:Rt)(aN:ByteArray)(aG aO:Int)(aP:Bool)(aT bm:Int)(bJ:ByteArray)(ds:Ds)(w:World):Prop:=
 alE (.cells #[.string aN,.int .i64 aG,.int .i64 aO,.bool aP] 129) w λr2 w1=>
 alE (.cells #[.int .i64 aT,.int .i64 bm,.string bJ] 73) w1 λr3 w2=>
 ∃n6,w2.cell? ((⟨r3,0,none⟩:Addr).add 1)=some (.int .i64 n6)/\
 ∃n8,w2.cell? ((⟨r3,0,none⟩:Addr).add 1)=some (.int .i64 n8)/\
 0<=(IntKind.i64.wrap (n8+1))/\(IntKind.i64.wrap (n8+1)).toNat<=(⟨#[70,84]⟩:ByteArray).size/\0<=n6/\n6.toNat<=(IntKind.i64.wrap (n8+1)).toNat/\
 zQd prog ds w2 λw3=>
 R (.returned (.string ((⟨#[70,84]⟩:ByteArray).extract n6.toNat ((IntKind.i64.wrap (n8+1)).toNat)))) w3
theorem F180_p:Pl prog f180 [aS 0 [.str,.int .i64,.int .i64,.bool],aS 1 [.int .i64,.int .i64,.str]] xXE:=λR=>
 lf
theorem yJc (aN:ByteArray) (aG aO:Int) (aP:Bool) (aT bm:Int) (bJ:ByteArray) (w:World) (R:Rt) (h:xXE R aN aG aO aP aT bm bJ [] w):Calls prog 180 #[.agg #[.string aN,.int .i64 aG,.int .i64 aO,.bool aP],.agg #[.int .i64 aT,.int .i64 bm,.string bJ]] w R:=
 plC F180_p func180 h
def xQd(R:Rt)(aN:ByteArray)(aG aO:Int)(aP:Bool)(aT bm:Int)(bJ:ByteArray)(ds:Ds)(w:World):Prop:=
 alE (.cells #[.string aN,.int .i64 aG,.int .i64 aO,.bool aP] 129) w λr2 w1=>
 alE (.cells #[.int .i64 aT,.int .i64 bm,.string bJ] 73) w1 λr3 w2=>
 ∃n9,w2.cell? ((⟨r3,0,none⟩:Addr).add 1)=some (.int .i64 n9)/\
 ∃cq,w2.cell? ((⟨r2,0,none⟩:Addr).add 2)=some (.int .i64 cq)/\
 Calls prog 121 #[.int .i64 n9,.int .i64 cq] w2 λe w3=>
 ∃nG:ByteArray,∃eZ:Int,e=.returned (.tuple #[.string nG,.int .i64 eZ])/\
 zQd prog ds w3 λw4=>
 R (.returned (.string nG)) w4
theorem F182_p:Pl prog f182 [aS 0 [.str,.int .i64,.int .i64,.bool],aS 1 [.int .i64,.int .i64,.str]] xQd:=λR=>
 lf
theorem yZN (aN:ByteArray) (aG aO:Int) (aP:Bool) (aT bm:Int) (bJ:ByteArray) (w:World) (R:Rt) (h:xQd R aN aG aO aP aT bm bJ [] w):Calls prog 182 #[.agg #[.string aN,.int .i64 aG,.int .i64 aO,.bool aP],.agg #[.int .i64 aT,.int .i64 bm,.string bJ]] w R:=
 plC F182_p func182 h
def yYY(R:Rt)(aN:ByteArray)(aG aO:Int)(aP:Bool)(aT bm:Int)(bJ:ByteArray)(ds:Ds)(w:World):Prop:=
 alE (.cells #[.string aN,.int .i64 aG,.int .i64 aO,.bool aP] 129) w λr2 w1=>
 alE (.cells #[.int .i64 aT,.int .i64 bm,.string bJ] 73) w1 λr3 w2=>
 ∃n9,w2.cell? ((⟨r3,0,none⟩:Addr).add 1)=some (.int .i64 n9)/\
 Calls prog 212 #[.int .i64 n9] w2 λe w3=>
 ∃nH:ByteArray,∃eQ:Int,e=.returned (.tuple #[.string nH,.int .i64 eQ])/\
 zQd prog ds w3 λw4=>
 R (.returned (.string nH)) w4
theorem F184_p:Pl prog f184 [aS 0 [.str,.int .i64,.int .i64,.bool],aS 1 [.int .i64,.int .i64,.str]] yYY:=λR=>
 lf
theorem yJE (aN:ByteArray) (aG aO:Int) (aP:Bool) (aT bm:Int) (bJ:ByteArray) (w:World) (R:Rt) (h:yYY R aN aG aO aP aT bm bJ [] w):Calls prog 184 #[.agg #[.string aN,.int .i64 aG,.int .i64 aO,.bool aP],.agg #[.int .i64 aT,.int .i64 bm,.string bJ]] w R:=
 plC F184_p func184 h
def xQv(R:Rt)(aN:ByteArray)(aG aO:Int)(aP:Bool)(aT bm:Int)(bJ:ByteArray)(ds:Ds)(w:World):Prop:=
 alE (.cells #[.string aN,.int .i64 aG,.int .i64 aO,.bool aP] 129) w λr2 w1=>
 alE (.cells #[.int .i64 aT,.int .i64 bm,.string bJ] 73) w1 λr3 w2=>
 ∃n6,w2.cell? ((⟨r3,0,none⟩:Addr).add 1)=some (.int .i64 n6)/\
 Br (n6 == 0) (
 ∃n9,w2.cell? ((⟨r2,0,none⟩:Addr).add 2)=some (.int .i64 n9)/\
 Calls prog 155 #[.string (⟨#[32]⟩:ByteArray),.int .i64 n9] w2 λe w3=>
 ∃nv:ByteArray,e=.returned (.string nv)/\
 zQd prog ds w3 λw4=>
 R (.returned (.string nv)) w4) (
 ∃eR,w2.cell? ((⟨r2,0,none⟩:Addr).add 0)=some (.string eR)/\
 ∃bV,w2.cell? ((⟨r2,0,none⟩:Addr).add 1)=some (.int .i64 bV)/\
 ∃eV,w2.cell? ((⟨r2,0,none⟩:Addr).add 2)=some (.int .i64 eV)/\
 ∃eW,w2.cell? ((⟨r2,0,none⟩:Addr).add 3)=some (.bool eW)/\
 ∃nI,w2.cell? ((⟨r3,0,none⟩:Addr).add 0)=some (.int .i64 nI)/\
 ∃eZ,w2.cell? ((⟨r3,0,none⟩:Addr).add 1)=some (.int .i64 eZ)/\
 ∃nJ,w2.cell? ((⟨r3,0,none⟩:Addr).add 2)=some (.string nJ)/\
 Calls prog 182 #[.agg #[.string eR,.int .i64 bV,.int .i64 eV,.bool eW],.agg #[.int .i64 nI,.int .i64 eZ,.string nJ]] w2 λe w5=>
 ∃kI:ByteArray,e=.returned (.string kI)/\
 zQd prog ds w5 λw6=>
 R (.returned (.string kI)) w6)
theorem F188_p:Pl prog f188 [aS 0 [.str,.int .i64,.int .i64,.bool],aS 1 [.int .i64,.int .i64,.str]] xQv:=λR=>
 lf
theorem yJB (aN:ByteArray) (aG aO:Int) (aP:Bool) (aT bm:Int) (bJ:ByteArray) (w:World) (R:Rt) (h:xQv R aN aG aO aP aT bm bJ [] w):Calls prog 188 #[.agg #[.string aN,.int .i64 aG,.int .i64 aO,.bool aP],.agg #[.int .i64 aT,.int .i64 bm,.string bJ]] w R:=
 plC F188_p func188 h
end Go.Proofs.YtaeecpjhfmcliaaGreatDoor
/- Shallow texts of functions, printed by program, each checked by the kernel against the loaded code. No condition. -/
namespace Go.Proofs.YtaeecpjhfmcliaaGreatDoor
open Go.Sh Tryz
def xZ7(R:Rt)(l3:SV)(ds:Ds)(w:World):Prop:=
 alE (.cells #[.int .u8 26] 5) w λul w1=>
 ∃bw:SV,∃w2,(Builtin.append_ #[22,22] 22 #[l3.v,.slice (some ⟨ul,0,none⟩) 1 1]).run prog w1=.ok (bw.v) w2/\
 zQd prog ds w2 λw3=>
 R (.returned (bw.v)) w3
def xZa (R:Rt) (J1:(SV × Int)->World->Prop) (p1:Option Addr) (l3 l9:SV) (fh cq:Int) (ds:Ds) (w:World):Prop:=
 Br (decide (cq<fh)) (
 ∃a4,l9.a=some a4/\0<=cq/\cq<(l9.len:Int)/\
 ∃nK,w.cell? ((a4.add (cq.toNat * 2)).add 0)=some (.bool nK)/\
 ∃bB:SV,w.cell? ((a4.add (cq.toNat * 2)).add 1)=some (bB.v)/\
 alE (.cells #[.bool false,.slice none 0 0] 67) w λr5 w5=>
 stA prog 67 (⟨r5,0,none⟩:Addr) #[.bool nK,bB.v] w5 λw6=>
 zQf p1 λa7=>
 ∃dU:SV,w6.cell? (a7.add 1)=some (dU.v)/\
 ∃nL,w6.cell? ((⟨r5,0,none⟩:Addr).add 0)=some (.bool nL)/\
 ∃bC:SV,w6.cell? ((⟨r5,0,none⟩:Addr).add 1)=some (bC.v)/\
 Calls prog 158 #[dU.v,.agg #[.bool nL,bC.v]] w6 λe w8=>
 ∃cu:SV,e=.returned (cu.v)/\
 ∃d8:SV,∃w9,(Builtin.append_ #[22,22] 22 #[l3.v,cu.v]).run prog w8=.ok (d8.v) w9/\
 J1 (d8,(IntKind.i64.wrap (cq+1))) w9) (
 xZ7 R l3 ds w)
def xQF(R:Rt)(p1:Option Addr)(l3 l9:SV)(fh cq:Int)(ds:Ds)(w:World):Prop:=
 zQW (λ(J1:(SV × Int)->World->Prop) (s:SV × Int) (w:World)=>xZa R J1 p1 s.1 l9 fh s.2 ds w) (l3,cq) w
def xXv(R:Rt)(aF:Int)(az ar:SV)(ds:Ds)(w:World):Prop:=
 alE (.cells #[.int .i64 aF,az.v,ar.v] 35) w λr1 aM=>
 ∃kY,aM.cell? ((⟨r1,0,none⟩:Addr).add 0)=some (.int .i64 kY)/\
 ∃eI:SV,aM.cell? ((⟨r1,0,none⟩:Addr).add 1)=some (eI.v)/\
 ∃eJ:SV,aM.cell? ((⟨r1,0,none⟩:Addr).add 2)=some (eJ.v)/\
 Calls prog 157 #[.agg #[.int .i64 kY,eI.v,eJ.v]] aM λe aQ=>
 ∃l7:SV,e=.returned (l7.v)/\
 ∃l9:SV,aQ.cell? ((⟨r1,0,none⟩:Addr).add 2)=some (l9.v)/\
 xQF R (some (⟨r1,0,none⟩:Addr)) l7 l9 (l9.len:Int) 0 ds aQ
theorem F123_p:Pl prog f123 [aS 0 [.int .i64,.slice,.slice]] xXv:=λR=>
 pc 3 (rest [pS 1,lS 3,lS 9,iS 10,iS 11] (xQF R) (bk 0 (rest [lS 3] (xZ7 R) lf) (lp [lS 3,iS 11] [pS 1,lS 3,lS 9,iS 10,iS 11] (xZa R) zZU λJ1=>lf)))
theorem yK1 (aF:Int) (az ar:SV) (w:World) (R:Rt) (h:xXv R aF az ar [] w):Calls prog 123 #[.agg #[.int .i64 aF,az.v,ar.v]] w R:=
 plC F123_p func123 h
def F86_1(R:Rt)(aF:Int)(az ar:SV)(ds:Ds)(w:World):Prop:=
 alE (.cells #[.int .i64 aF,az.v,ar.v] 35) w λr1 w1=>
 ∃je,w1.cell? ((⟨r1,0,none⟩:Addr).add 0)=some (.int .i64 je)/\
 ∃eL:SV,w1.cell? ((⟨r1,0,none⟩:Addr).add 1)=some (eL.v)/\
 ∃cD:SV,w1.cell? ((⟨r1,0,none⟩:Addr).add 2)=some (cD.v)/\
 Calls prog 106 #[.agg #[.int .i64 je,eL.v,cD.v]] w1 λe w2=>
 ∃n6:Int,e=.returned (.int .i64 n6)/\
 Br (n6 != 0) (
 zQd prog ds w2 λw3=>
 R (.returned (.tuple #[.slice none 0 0,.int .i64 n6])) w3) (
 ∃jc,w2.cell? ((⟨r1,0,none⟩:Addr).add 0)=some (.int .i64 jc)/\
 ∃cB:SV,w2.cell? ((⟨r1,0,none⟩:Addr).add 1)=some (cB.v)/\
 ∃cC:SV,w2.cell? ((⟨r1,0,none⟩:Addr).add 2)=some (cC.v)/\
 Calls prog 123 #[.agg #[.int .i64 jc,cB.v,cC.v]] w2 λe w4=>
 ∃co:SV,e=.returned (co.v)/\
 zQd prog ds w4 λw5=>
 R (.returned (.tuple #[co.v,.int .i64 0])) w5)
theorem F86_p:Pl prog f86 [aS 0 [.int .i64,.slice,.slice]] F86_1:=λR=>
 lf
theorem yKJ (aF:Int) (az ar:SV) (w:World) (R:Rt) (h:F86_1 R aF az ar [] w):Calls prog 86 #[.agg #[.int .i64 aF,az.v,ar.v]] w R:=
 plC F86_p func86 h
end Go.Proofs.YtaeecpjhfmcliaaGreatDoor
/- Shallow texts of functions, printed by program, each checked by the kernel against the loaded code. No condition. -/
namespace Go.Proofs.YtaeecpjhfmcliaaGreatDoor
open Go.Sh Tryz
def xZs(R:Rt)(s0:ByteArray)(ds:Ds)(w:World):Prop:=
 alE (.cells #[.int .i64 0,.int .i64 0,.string (⟨#[]⟩:ByteArray)] 73) w λr2 w1=>
 alE (.cells #[.int .i64 0,.int .i64 0,.string (⟨#[]⟩:ByteArray)] 73) w1 λr4 w2=>
 stA prog 73 (⟨r4,0,none⟩:Addr) #[.int .i64 1,.int .i64 0,.string (⟨#[]⟩:ByteArray)] w2 λw3=>
 Br (s0.toList == (⟨#[84]⟩:ByteArray).toList) (
 st1 ((⟨r4,0,none⟩:Addr).add 1) (.int .i64 1) w3 λw4=>
 ∃eH,w4.cell? ((⟨r4,0,none⟩:Addr).add 0)=some (.int .i64 eH)/\
 ∃cb,w4.cell? ((⟨r4,0,none⟩:Addr).add 1)=some (.int .i64 cb)/\
 ∃jI,w4.cell? ((⟨r4,0,none⟩:Addr).add 2)=some (.string jI)/\
 Br (s0.toList == (⟨#[84]⟩:ByteArray).toList) (
 stA prog 73 (⟨r2,0,none⟩:Addr) #[.int .i64 eH,.int .i64 cb,.string jI] w4 λw5=>
 zQd prog ds w5 λw6=>
 ∃ag,w6.cell? ((⟨r2,0,none⟩:Addr).add 0)=some (.int .i64 ag)/\
 ∃ap,w6.cell? ((⟨r2,0,none⟩:Addr).add 1)=some (.int .i64 ap)/\
 ∃aq,w6.cell? ((⟨r2,0,none⟩:Addr).add 2)=some (.string aq)/\
 R (.returned (.tuple #[.agg #[.int .i64 ag,.int .i64 ap,.string aq],.bool true])) w6) (
 stA prog 73 (⟨r2,0,none⟩:Addr) #[.int .i64 eH,.int .i64 cb,.string jI] w4 λw7=>
 zQd prog ds w7 λw8=>
 ∃ag,w8.cell? ((⟨r2,0,none⟩:Addr).add 0)=some (.int .i64 ag)/\
 ∃ap,w8.cell? ((⟨r2,0,none⟩:Addr).add 1)=some (.int .i64 ap)/\
 ∃aq,w8.cell? ((⟨r2,0,none⟩:Addr).add 2)=some (.string aq)/\
 R (.returned (.tuple #[.agg #[.int .i64 ag,.int .i64 ap,.string aq],.bool (s0.toList == (⟨#[70]⟩:ByteArray).toList)])) w8)) (
 ∃eH,w3.cell? ((⟨r4,0,none⟩:Addr).add 0)=some (.int .i64 eH)/\
 ∃cb,w3.cell? ((⟨r4,0,none⟩:Addr).add 1)=some (.int .i64 cb)/\
 ∃jI,w3.cell? ((⟨r4,0,none⟩:Addr).add 2)=some (.string jI)/\
 Br (s0.toList == (⟨#[84]⟩:ByteArray).toList) (
 stA prog 73 (⟨r2,0,none⟩:Addr) #[.int .i64 eH,.int .i64 cb,.string jI] w3 λw9=>
 zQd prog ds w9 λaM=>
 ∃ag,aM.cell? ((⟨r2,0,none⟩:Addr).add 0)=some (.int .i64 ag)/\
 ∃ap,aM.cell? ((⟨r2,0,none⟩:Addr).add 1)=some (.int .i64 ap)/\
 ∃aq,aM.cell? ((⟨r2,0,none⟩:Addr).add 2)=some (.string aq)/\
 R (.returned (.tuple #[.agg #[.int .i64 ag,.int .i64 ap,.string aq],.bool true])) aM) (
 stA prog 73 (⟨r2,0,none⟩:Addr) #[.int .i64 eH,.int .i64 cb,.string jI] w3 λaQ=>
 zQd prog ds aQ λaR=>
 ∃ag,aR.cell? ((⟨r2,0,none⟩:Addr).add 0)=some (.int .i64 ag)/\
 ∃ap,aR.cell? ((⟨r2,0,none⟩:Addr).add 1)=some (.int .i64 ap)/\
 ∃aq,aR.cell? ((⟨r2,0,none⟩:Addr).add 2)=some (.string aq)/\
 R (.returned (.tuple #[.agg #[.int .i64 ag,.int .i64 ap,.string aq],.bool (s0.toList == (⟨#[70]⟩:ByteArray).toList)])) aR))
theorem F181_p:Pl prog f181 [sS 0] xZs:=λR=>
 lf
theorem yKa (s0:ByteArray) (w:World) (R:Rt) (h:xZs R s0 [] w):Calls prog 181 #[.string s0] w R:=
 plC F181_p func181 h
def yYW(R:Rt)(s0:ByteArray)(ds:Ds)(w:World):Prop:=
 alE (.cells #[.int .i64 0,.int .i64 0,.string (⟨#[]⟩:ByteArray)] 73) w λr2 w1=>
 Calls prog 211 #[.string s0] w1 λe w2=>
 ∃n5:Int,e=.returned (.int .i64 n5)/\
 Calls prog 190 #[.string s0,.string (⟨#[32]⟩:ByteArray)] w2 λe w3=>
 ∃s8:ByteArray,e=.returned (.string s8)/\
 stA prog 73 (⟨r2,0,none⟩:Addr) #[.int .i64 2,.int .i64 n5,.string (⟨#[]⟩:ByteArray)] w3 λw4=>
 zQd prog ds w4 λw5=>
 ∃ag,w5.cell? ((⟨r2,0,none⟩:Addr).add 0)=some (.int .i64 ag)/\
 ∃ap,w5.cell? ((⟨r2,0,none⟩:Addr).add 1)=some (.int .i64 ap)/\
 ∃aq,w5.cell? ((⟨r2,0,none⟩:Addr).add 2)=some (.string aq)/\
 R (.returned (.tuple #[.agg #[.int .i64 ag,.int .i64 ap,.string aq],.bool (!(s8.toList == (⟨#[]⟩:ByteArray).toList))])) w5
theorem F183_p:Pl prog f183 [sS 0] yYW:=λR=>
 lf
theorem yKe (s0:ByteArray) (w:World) (R:Rt) (h:yYW R s0 [] w):Calls prog 183 #[.string s0] w R:=
 plC F183_p func183 h
def xQW(R:Rt)(s0:ByteArray)(ds:Ds)(w:World):Prop:=
 alE (.cells #[.int .i64 0,.int .i64 0,.string (⟨#[]⟩:ByteArray)] 73) w λr2 w1=>
 Calls prog 213 #[.string s0] w1 λe w2=>
 ∃kZ:Int,∃k7:Bool,e=.returned (.tuple #[.int .i64 kZ,.bool k7])/\
 stA prog 73 (⟨r2,0,none⟩:Addr) #[.int .i64 3,.int .i64 kZ,.string (⟨#[]⟩:ByteArray)] w2 λw3=>
 zQd prog ds w3 λw4=>
 ∃ag,w4.cell? ((⟨r2,0,none⟩:Addr).add 0)=some (.int .i64 ag)/\
 ∃ap,w4.cell? ((⟨r2,0,none⟩:Addr).add 1)=some (.int .i64 ap)/\
 ∃aq,w4.cell? ((⟨r2,0,none⟩:Addr).add 2)=some (.string aq)/\
 R (.returned (.tuple #[.agg #[.int .i64 ag,.int .i64 ap,.string aq],.bool k7])) w4
theorem F185_p:Pl prog f185 [sS 0] xQW:=λR=>
 lf
theorem yJI (s0:ByteArray) (w:World) (R:Rt) (h:xQW R s0 [] w):Calls prog 185 #[.string s0] w R:=
 plC F185_p func185 h
def xZr(R:Rt)(s0:ByteArray)(ds:Ds)(w:World):Prop:=
 alE (.cells #[.int .i64 0,.int .i64 0,.string (⟨#[]⟩:ByteArray)] 73) w λr2 w1=>
 Calls prog 119 #[.string s0,.string (⟨#[32]⟩:ByteArray)] w1 λe w2=>
 ∃s5:ByteArray,e=.returned (.string s5)/\
 stA prog 73 (⟨r2,0,none⟩:Addr) #[.int .i64 4,.int .i64 0,.string s5] w2 λw3=>
 zQd prog ds w3 λw4=>
 ∃ag,w4.cell? ((⟨r2,0,none⟩:Addr).add 0)=some (.int .i64 ag)/\
 ∃ap,w4.cell? ((⟨r2,0,none⟩:Addr).add 1)=some (.int .i64 ap)/\
 ∃aq,w4.cell? ((⟨r2,0,none⟩:Addr).add 2)=some (.string aq)/\
 R (.returned (.tuple #[.agg #[.int .i64 ag,.int .i64 ap,.string aq],.bool true])) w4
theorem F187_p:Pl prog f187 [sS 0] xZr:=λR=>
 lf
theorem yKq (s0:ByteArray) (w:World) (R:Rt) (h:xZr R s0 [] w):Calls prog 187 #[.string s0] w R:=
 plC F187_p func187 h
def xXq(R:Rt)(s0:ByteArray)(ds:Ds)(w:World):Prop:=
 alE (.cells #[.int .i64 0,.int .i64 0,.string (⟨#[]⟩:ByteArray)] 73) w λr2 w1=>
 Calls prog 211 #[.string s0] w1 λe w2=>
 ∃n5:Int,e=.returned (.int .i64 n5)/\
 stA prog 73 (⟨r2,0,none⟩:Addr) #[.int .i64 2,.int .i64 n5,.string (⟨#[]⟩:ByteArray)] w2 λw3=>
 zQd prog ds w3 λw4=>
 ∃ag,w4.cell? ((⟨r2,0,none⟩:Addr).add 0)=some (.int .i64 ag)/\
 ∃ap,w4.cell? ((⟨r2,0,none⟩:Addr).add 1)=some (.int .i64 ap)/\
 ∃aq,w4.cell? ((⟨r2,0,none⟩:Addr).add 2)=some (.string aq)/\
 R (.returned (.tuple #[.agg #[.int .i64 ag,.int .i64 ap,.string aq],.bool true])) w4
theorem F189_p:Pl prog f189 [sS 0] xXq:=λR=>
 lf
theorem yKx (s0:ByteArray) (w:World) (R:Rt) (h:xXq R s0 [] w):Calls prog 189 #[.string s0] w R:=
 plC F189_p func189 h
def yWU(R:Rt)(s0:ByteArray)(ds:Ds)(w:World):Prop:=
 Br (s0.toList == (⟨#[32,32,32,32,32,32,32,32]⟩:ByteArray).toList) (
 zQd prog ds w λw1=>
 R (.returned (.tuple #[.int .i64 0,.bool true])) w1) (
 Br ((s0.size:Int) != 8) (
 zQd prog ds w λw2=>
 R (.returned (.tuple #[.int .i64 0,.bool false])) w2) (
 Calls prog 190 #[.string s0,.string (⟨#[48,49,50,51,52,53,54,55,56,57]⟩:ByteArray)] w λe w3=>
 ∃kI:ByteArray,e=.returned (.string kI)/\
 Br (!(kI.toList == (⟨#[]⟩:ByteArray).toList)) (
 zQd prog ds w3 λw4=>
 R (.returned (.tuple #[.int .i64 0,.bool false])) w4) (
 dwE w3 λw5=>
 0<=(4:Int)/\(4:Int).toNat<=s0.size/\0<=(4:Int).toNat/\
 0<=(6:Int)/\(6:Int).toNat<=s0.size/\0<=(4:Int)/\(4:Int).toNat<=(6:Int).toNat/\
 s0.size<=s0.size/\0<=(6:Int)/\(6:Int).toNat<=s0.size/\
 Calls prog 211 #[.string (s0.extract 0 ((4:Int).toNat))] w5 λe w6=>
 ∃jz:Int,e=.returned (.int .i64 jz)/\
 Calls prog 211 #[.string (s0.extract ((4:Int).toNat) ((6:Int).toNat))] w6 λe w7=>
 ∃n22:Int,e=.returned (.int .i64 n22)/\
 Calls prog 211 #[.string (s0.extract ((6:Int).toNat) s0.size)] w7 λe w8=>
 ∃n25:Int,e=.returned (.int .i64 n25)/\
 Calls prog 226 #[.int .i64 jz,.int .i64 n22,.int .i64 n25] w8 λe w9=>
 ∃du:Int,∃eX:Int,e=.returned (.tuple #[.int .i64 du,.int .i64 eX])/\
 zQd prog ds w9 λaM=>
 R (.returned (.tuple #[.int .i64 du,.bool (eX == 0)])) aM)))
theorem F213_p:Pl prog f213 [sS 0] yWU:=λR=>
 lf
theorem yKf (s0:ByteArray) (w:World) (R:Rt) (h:yWU R s0 [] w):Calls prog 213 #[.string s0] w R:=
 plC F213_p func213 h
def yXb(R:Rt)(n3 n4:Int)(ds:Ds)(w:World):Prop:=
 zQd prog ds w λw1=>
 R (.returned (.int .i64 (IntKind.i64.wrap (n3 * n4)))) w1
def xQH (R:Rt) (J1:(Int × Int)->World->Prop) (s0:ByteArray) (n3 n4 bo n27:Int) (ds:Ds) (w:World):Prop:=
 Br (decide (n27<bo)) (
 ∃xR:UInt8,0<=n27/\s0[n27.toNat]?=some xR/\
 Br (decide ((xR.toNat:Int)<48)) (
 yXb R n3 n4 ds w) (
 ∃nM:UInt8,0<=n27/\s0[n27.toNat]?=some nM/\
 Br (decide ((nM.toNat:Int) > 57)) (
 yXb R n3 n4 ds w) (
 ∃tG:UInt8,0<=n27/\s0[n27.toNat]?=some tG/\
 ∃rm:Int,∃w2,(Builtin.min_ #[3,3] 3 #[.int .i64 (IntKind.i64.wrap ((IntKind.i64.wrap (n4 * 10))+(IntKind.i64.wrap (IntKind.u8.wrap ((tG.toNat:Int) - 48))))),.int .i64 1000000000000000]).run prog w=.ok (.int .i64 rm) w2/\
 J1 (rm,(IntKind.i64.wrap (n27+1))) w2))) (
 yXb R n3 n4 ds w)
def xZh(R:Rt)(s0:ByteArray)(n3 n4 bo n27:Int)(ds:Ds)(w:World):Prop:=
 zQW (λ(J1:(Int × Int)->World->Prop) (s:Int × Int) (w:World)=>xQH R J1 s0 n3 s.1 bo s.2 ds w) (n4,n27) w
def zWb(R:Rt)(s0:ByteArray)(n3:Int)(ds:Ds)(w:World):Prop:=
 xZh R s0 n3 0 (s0.size:Int) 0 ds w
def xZt(R:Rt)(s0:ByteArray)(ds:Ds)(w:World):Prop:=
 Calls prog 224 #[.string s0,.string (⟨#[32]⟩:ByteArray)] w λe w3=>
 ∃s7:ByteArray,e=.returned (.string s7)/\
 Br (!(s7.toList == (⟨#[]⟩:ByteArray).toList)) (
 ∃cz:UInt8,0<=(0:Int)/\s7[(0:Int).toNat]?=some cz/\
 Br ((cz.toNat:Int) == 45) (
 ∃nN:UInt8,0<=(0:Int)/\s7[(0:Int).toNat]?=some nN/\
 Br ((nN.toNat:Int) == 45) (
 s7.size<=s7.size/\0<=(1:Int)/\(1:Int).toNat<=s7.size/\
 zWb R (s7.extract ((1:Int).toNat) s7.size) (-1) ds w3) (
 s7.size<=s7.size/\0<=(1:Int)/\(1:Int).toNat<=s7.size/\
 zWb R (s7.extract ((1:Int).toNat) s7.size) 1 ds w3)) (
 ∃fY:UInt8,0<=(0:Int)/\s7[(0:Int).toNat]?=some fY/\
 Br ((fY.toNat:Int) == 43) (
 ∃nN:UInt8,0<=(0:Int)/\s7[(0:Int).toNat]?=some nN/\
 Br ((nN.toNat:Int) == 45) (
 s7.size<=s7.size/\0<=(1:Int)/\(1:Int).toNat<=s7.size/\
 zWb R (s7.extract ((1:Int).toNat) s7.size) (-1) ds w3) (
 s7.size<=s7.size/\0<=(1:Int)/\(1:Int).toNat<=s7.size/\
 zWb R (s7.extract ((1:Int).toNat) s7.size) 1 ds w3)) (
 zWb R s7 1 ds w3))) (
 zWb R s7 1 ds w3)
theorem F211_p:Pl prog f211 [sS 0] xZt:=λR=>
 pc 5 (rest [sS 0,iS 3] (zWb R) (pc 2 (rest [sS 0,iS 3,iS 4,iS 26,iS 27] (xZh R) (bk 0 (rest [iS 3,iS 4] (yXb R) lf) (lp [iS 4,iS 27] [sS 0,iS 3,iS 4,iS 26,iS 27] (xQH R) zZU λJ1=>lf)))))
theorem yJ8 (s0:ByteArray) (w:World) (R:Rt) (h:xZt R s0 [] w):Calls prog 211 #[.string s0] w R:=
 plC F211_p func211 h
end Go.Proofs.YtaeecpjhfmcliaaGreatDoor
/- Shallow texts of functions, printed by program, each checked by the kernel against the loaded code. No condition. -/
namespace Go.Proofs.YtaeecpjhfmcliaaGreatDoor
open Go.Sh Tryz
def F18_1(R:Rt)(ds:Ds)(w:World):Prop:=
 zQd prog ds w λw1=>
 R (.returned (.bool true)) w1
def F18_2 (R:Rt) (J1:(Int)->World->Prop) (p2 p3:Option Addr) (n5:Int) (ds:Ds) (w:World):Prop:=
 zQf p2 λa2=>
 ∃lW:SV,w.cell? (a2.add 2)=some (lW.v)/\
 Br (decide (n5<(lW.len:Int))) (
 dwE w λw3=>
 zQf p2 λa4=>
 ∃dV:SV,w3.cell? (a4.add 2)=some (dV.v)/\
 ∃a5,dV.a=some a5/\0<=n5/\n5<(dV.len:Int)/\
 ∃nO,w3.cell? ((a5.add (n5.toNat * 2)).add 0)=some (.bool nO)/\
 ∃gu:SV,w3.cell? ((a5.add (n5.toNat * 2)).add 1)=some (gu.v)/\
 zQf p3 λa6=>
 ∃iJ:SV,w3.cell? (a6.add 2)=some (iJ.v)/\
 ∃a7,iJ.a=some a7/\0<=n5/\n5<(iJ.len:Int)/\
 ∃nP,w3.cell? ((a7.add (n5.toNat * 2)).add 0)=some (.bool nP)/\
 ∃gv:SV,w3.cell? ((a7.add (n5.toNat * 2)).add 1)=some (gv.v)/\
 Calls prog 70 #[.agg #[.bool nO,gu.v],.agg #[.bool nP,gv.v]] w3 λe w8=>
 ∃xS:Bool,e=.returned (.bool xS)/\
 Br (!xS) (
 zQd prog ds w8 λw9=>
 R (.returned (.bool false)) w9) (
 J1 (IntKind.i64.wrap (n5+1)) w8)) (
 F18_1 R ds w)
def F18_3(R:Rt)(p2 p3:Option Addr)(n5:Int)(ds:Ds)(w:World):Prop:=
 zQW (λ(J1:(Int)->World->Prop) (s:Int) (w:World)=>F18_2 R J1 p2 p3 s ds w) n5 w
def F18_5(R:Rt)(aF:Int)(az ar:SV)(aT:Int)(aW br:SV)(ds:Ds)(w:World):Prop:=
 alE (.cells #[.int .i64 aF,az.v,ar.v] 35) w λr2 aM=>
 alE (.cells #[.int .i64 aT,aW.v,br.v] 35) aM λr3 aQ=>
 ∃n7,aQ.cell? (⟨r2,0,none⟩:Addr)=some (.int .i64 n7)/\
 ∃n9,aQ.cell? (⟨r3,0,none⟩:Addr)=some (.int .i64 n9)/\
 Br (n7 != n9) (
 zQd prog ds aQ λaR=>
 R (.returned (.bool false)) aR) (
 ∃eo:SV,aQ.cell? ((⟨r2,0,none⟩:Addr).add 1)=some (eo.v)/\
 ∃cZ:SV,aQ.cell? ((⟨r3,0,none⟩:Addr).add 1)=some (cZ.v)/\
 Calls prog 69 #[eo.v,cZ.v] aQ λe aZ=>
 ∃fY:Bool,e=.returned (.bool fY)/\
 Br (!fY) (
 zQd prog ds aZ λbI=>
 R (.returned (.bool false)) bI) (
 ∃cU:SV,aZ.cell? ((⟨r2,0,none⟩:Addr).add 2)=some (cU.v)/\
 ∃bw:SV,aZ.cell? ((⟨r3,0,none⟩:Addr).add 2)=some (bw.v)/\
 Br ((cU.len:Int) != (bw.len:Int)) (
 zQd prog ds aZ λbv=>
 R (.returned (.bool false)) bv) (
 F18_3 R (some (⟨r2,0,none⟩:Addr)) (some (⟨r3,0,none⟩:Addr)) 0 ds aZ)))
theorem F18_p:Pl prog f18 [aS 0 [.int .i64,.slice,.slice],aS 1 [.int .i64,.slice,.slice]] F18_5:=λR=>
 pc 4 (rest [pS 2,pS 3,iS 5] (F18_3 R) (bk 0 (rest [] (F18_1 R) lf) (lp [iS 5] [pS 2,pS 3,iS 5] (F18_2 R) zZU λJ1=>lf)))
theorem yW6 (aF:Int) (az ar:SV) (aT:Int) (aW br:SV) (w:World) (R:Rt) (h:F18_5 R aF az ar aT aW br [] w):Calls prog 18 #[.agg #[.int .i64 aF,az.v,ar.v],.agg #[.int .i64 aT,aW.v,br.v]] w R:=
 plC F18_p func18 h
end Go.Proofs.YtaeecpjhfmcliaaGreatDoor
/- Shallow texts of functions, printed by program, each checked by the kernel against the loaded code. No condition. -/
namespace Go.Proofs.YtaeecpjhfmcliaaGreatDoor
open Go.Sh Tryz
def F87_1(R:Rt)(l0:SV)(ds:Ds)(w:World):Prop:=
 alE (.cells #[.int .i64 0,.slice none 0 0,.slice none 0 0] 35) w λr2 w1=>
 Calls prog 124 #[l0.v] w1 λe w2=>
 ∃k8:Int,∃eM:SV,∃eN:SV,∃k7:Bool,e=.returned (.tuple #[.agg #[.int .i64 k8,eM.v,eN.v],.bool k7])/\
 alE (.cells #[.int .i64 0,.slice none 0 0,.slice none 0 0] 35) w2 λr4 w3=>
 stA prog 35 (⟨r4,0,none⟩:Addr) #[.int .i64 k8,eM.v,eN.v] w3 λw4=>
 Br (!k7) (
 stA prog 35 (⟨r2,0,none⟩:Addr) #[.int .i64 0,.slice none 0 0,.slice none 0 0] w4 λw5=>
 zQd prog ds w5 λw6=>
 ∃ag,w6.cell? ((⟨r2,0,none⟩:Addr).add 0)=some (.int .i64 ag)/\
 ∃ab:SV,w6.cell? ((⟨r2,0,none⟩:Addr).add 1)=some (ab.v)/\
 ∃ae:SV,w6.cell? ((⟨r2,0,none⟩:Addr).add 2)=some (ae.v)/\
 R (.returned (.tuple #[.agg #[.int .i64 ag,ab.v,ae.v],.int .i64 11])) w6) (
 ∃e7,w4.cell? ((⟨r4,0,none⟩:Addr).add 0)=some (.int .i64 e7)/\
 ∃bB:SV,w4.cell? ((⟨r4,0,none⟩:Addr).add 1)=some (bB.v)/\
 ∃cE:SV,w4.cell? ((⟨r4,0,none⟩:Addr).add 2)=some (cE.v)/\
 Calls prog 106 #[.agg #[.int .i64 e7,bB.v,cE.v]] w4 λe w7=>
 ∃iP:Int,e=.returned (.int .i64 iP)/\
 Br (iP != 0) (
 stA prog 35 (⟨r2,0,none⟩:Addr) #[.int .i64 0,.slice none 0 0,.slice none 0 0] w7 λw8=>
 zQd prog ds w8 λw9=>
 ∃ag,w9.cell? ((⟨r2,0,none⟩:Addr).add 0)=some (.int .i64 ag)/\
 ∃ab:SV,w9.cell? ((⟨r2,0,none⟩:Addr).add 1)=some (ab.v)/\
 ∃ae:SV,w9.cell? ((⟨r2,0,none⟩:Addr).add 2)=some (ae.v)/\
 R (.returned (.tuple #[.agg #[.int .i64 ag,ab.v,ae.v],.int .i64 11])) w9) (
 ∃cm,w7.cell? ((⟨r4,0,none⟩:Addr).add 0)=some (.int .i64 cm)/\
 ∃gw:SV,w7.cell? ((⟨r4,0,none⟩:Addr).add 1)=some (gw.v)/\
 ∃bD:SV,w7.cell? ((⟨r4,0,none⟩:Addr).add 2)=some (bD.v)/\
 Calls prog 123 #[.agg #[.int .i64 cm,gw.v,bD.v]] w7 λe aM=>
 ∃d8:SV,e=.returned (d8.v)/\
 Calls prog 125 #[d8.v,l0.v] aM λe aQ=>
 ∃qG:Bool,e=.returned (.bool qG)/\
 Br (!qG) (
 stA prog 35 (⟨r2,0,none⟩:Addr) #[.int .i64 0,.slice none 0 0,.slice none 0 0] aQ λaR=>
 zQd prog ds aR λaZ=>
 ∃ag,aZ.cell? ((⟨r2,0,none⟩:Addr).add 0)=some (.int .i64 ag)/\
 ∃ab:SV,aZ.cell? ((⟨r2,0,none⟩:Addr).add 1)=some (ab.v)/\
 ∃ae:SV,aZ.cell? ((⟨r2,0,none⟩:Addr).add 2)=some (ae.v)/\
 R (.returned (.tuple #[.agg #[.int .i64 ag,ab.v,ae.v],.int .i64 11])) aZ) (
 ∃du,aQ.cell? ((⟨r4,0,none⟩:Addr).add 0)=some (.int .i64 du)/\
 ∃bg:SV,aQ.cell? ((⟨r4,0,none⟩:Addr).add 1)=some (bg.v)/\
 ∃bE:SV,aQ.cell? ((⟨r4,0,none⟩:Addr).add 2)=some (bE.v)/\
 stA prog 35 (⟨r2,0,none⟩:Addr) #[.int .i64 du,bg.v,bE.v] aQ λbI=>
 zQd prog ds bI λbv=>
 ∃ag,bv.cell? ((⟨r2,0,none⟩:Addr).add 0)=some (.int .i64 ag)/\
 ∃ab:SV,bv.cell? ((⟨r2,0,none⟩:Addr).add 1)=some (ab.v)/\
 ∃ae:SV,bv.cell? ((⟨r2,0,none⟩:Addr).add 2)=some (ae.v)/\
 R (.returned (.tuple #[.agg #[.int .i64 ag,ab.v,ae.v],.int .i64 0])) bv)))
theorem F87_p:Pl prog f87 [lS 0] F87_1:=λR=>
 lf
theorem yWo (l0:SV) (w:World) (R:Rt) (h:F87_1 R l0 [] w):Calls prog 87 #[l0.v] w R:=
 plC F87_p func87 h
def xXr(R:Rt)(p2 p4:Option Addr)(ds:Ds)(w:World):Prop:=
 zQf p4 λa1=>
 ∃dv,w.cell? (a1.add 0)=some (.int .i64 dv)/\
 ∃bh:SV,w.cell? (a1.add 1)=some (bh.v)/\
 ∃bi:SV,w.cell? (a1.add 2)=some (bi.v)/\
 zQf p2 λa2=>
 stA prog 35 a2 #[.int .i64 dv,bh.v,bi.v] w λw3=>
 zQd prog ds w3 λw4=>
 zQf p2 λa5=>
 ∃ag,w4.cell? (a5.add 0)=some (.int .i64 ag)/\
 ∃ab:SV,w4.cell? (a5.add 1)=some (ab.v)/\
 ∃ae:SV,w4.cell? (a5.add 2)=some (ae.v)/\
 R (.returned (.tuple #[.agg #[.int .i64 ag,ab.v,ae.v],.bool true])) w4
def xXy (R:Rt) (J1:(Int)->World->Prop) (l0:SV) (p2 p4:Option Addr) (n6 n8 qd gx:Int) (ds:Ds) (w:World):Prop:=
 Br (decide (gx<qd)) (
 dwE w λw6=>
 ∃S1:World->Prop,S1 w6/\
 zQf p4 λa7=>
 ∃lY:SV,(∀w',S1 w'->w'.cell? (a7.add 1)=some (lY.v))/\
 0<=(IntKind.i64.wrap (n6+(IntKind.i64.wrap (n8 * (IntKind.i64.wrap (gx+1))))))/\(IntKind.i64.wrap (n6+(IntKind.i64.wrap (n8 * (IntKind.i64.wrap (gx+1)))))).toNat<=l0.cap/\0<=(IntKind.i64.wrap (n6+(IntKind.i64.wrap (n8 * gx))))/\(IntKind.i64.wrap (n6+(IntKind.i64.wrap (n8 * gx)))).toNat<=(IntKind.i64.wrap (n6+(IntKind.i64.wrap (n8 * (IntKind.i64.wrap (gx+1)))))).toNat/\
 (
 Calls prog 163 #[lY.v,.slice (if l0.cap=(IntKind.i64.wrap (n6+(IntKind.i64.wrap (n8 * gx)))).toNat then l0.a else l0.a.map (λx=>x.add ((IntKind.i64.wrap (n6+(IntKind.i64.wrap (n8 * gx)))).toNat * 1))) ((IntKind.i64.wrap (n6+(IntKind.i64.wrap (n8 * (IntKind.i64.wrap (gx+1)))))).toNat - (IntKind.i64.wrap (n6+(IntKind.i64.wrap (n8 * gx)))).toNat) (l0.cap - (IntKind.i64.wrap (n6+(IntKind.i64.wrap (n8 * gx)))).toNat)] w6 λe w8=>
 ∃dw:Bool,∃bj:SV,∃fO:Bool,e=.returned (.tuple #[.agg #[.bool dw,bj.v],.bool fO])/\
 alE (.cells #[.bool false,.slice none 0 0] 67) w8 λcg w9=>
 stA prog 67 (⟨cg,0,none⟩:Addr) #[.bool dw,bj.v] w9 λaM=>
 Br (!fO) (
 zQf p4 λcT=>
 ∃fP,aM.cell? (cT.add 0)=some (.int .i64 fP)/\
 ∃bO:SV,aM.cell? (cT.add 1)=some (bO.v)/\
 ∃bP:SV,aM.cell? (cT.add 2)=some (bP.v)/\
 zQf p2 λjs=>
 stA prog 35 js #[.int .i64 fP,bO.v,bP.v] aM λaZ=>
 zQd prog ds aZ λbI=>
 zQf p2 λgq=>
 ∃ag,bI.cell? (gq.add 0)=some (.int .i64 ag)/\
 ∃ab:SV,bI.cell? (gq.add 1)=some (ab.v)/\
 ∃ae:SV,bI.cell? (gq.add 2)=some (ae.v)/\
 R (.returned (.tuple #[.agg #[.int .i64 ag,ab.v,ae.v],.bool false])) bI) (
 zQf p4 λgp=>
 ∃cF:SV,aM.cell? (gp.add 2)=some (cF.v)/\
 ∃dx,aM.cell? ((⟨cg,0,none⟩:Addr).add 0)=some (.bool dx)/\
 ∃bl:SV,aM.cell? ((⟨cg,0,none⟩:Addr).add 1)=some (bl.v)/\
 alE (.cells #[.bool dx,bl.v] 67) aM λk9 bA=>
 ∃cG:SV,∃bY,(Builtin.append_ #[33,33] 33 #[cF.v,.slice (some ⟨k9,0,none⟩) 1 1]).run prog bA=.ok (cG.v) bY/\
 zQf p4 λlC=>
 st1 (lC.add 2) (cG.v) bY λcf=>
 J1 (IntKind.i64.wrap (gx+1)) cf))/\(
 alE (.cells #[.bool false,.slice none 0 0] 67) w6 λcg bt=>
 S1 bt/\
 Calls prog 163 #[lY.v,.slice (if l0.cap=(IntKind.i64.wrap (n6+(IntKind.i64.wrap (n8 * gx)))).toNat then l0.a else l0.a.map (λx=>x.add ((IntKind.i64.wrap (n6+(IntKind.i64.wrap (n8 * gx)))).toNat * 1))) ((IntKind.i64.wrap (n6+(IntKind.i64.wrap (n8 * (IntKind.i64.wrap (gx+1)))))).toNat - (IntKind.i64.wrap (n6+(IntKind.i64.wrap (n8 * gx)))).toNat) (l0.cap - (IntKind.i64.wrap (n6+(IntKind.i64.wrap (n8 * gx)))).toNat)] bt λe eu=>
 ∃dw:Bool,∃bj:SV,∃fO:Bool,e=.returned (.tuple #[.agg #[.bool dw,bj.v],.bool fO])/\
 stA prog 67 (⟨cg,0,none⟩:Addr) #[.bool dw,bj.v] eu λcy=>
 Br (!fO) (
 zQf p4 λum=>
 ∃fP,cy.cell? (um.add 0)=some (.int .i64 fP)/\
 ∃bO:SV,cy.cell? (um.add 1)=some (bO.v)/\
 ∃bP:SV,cy.cell? (um.add 2)=some (bP.v)/\
 zQf p2 λkQ=>
 stA prog 35 kQ #[.int .i64 fP,bO.v,bP.v] cy λdB=>
 zQd prog ds dB λfW=>
 zQf p2 λun=>
 ∃ag,fW.cell? (un.add 0)=some (.int .i64 ag)/\
 ∃ab:SV,fW.cell? (un.add 1)=some (ab.v)/\
 ∃ae:SV,fW.cell? (un.add 2)=some (ae.v)/\
 R (.returned (.tuple #[.agg #[.int .i64 ag,ab.v,ae.v],.bool false])) fW) (
 zQf p4 λuo=>
 ∃cF:SV,cy.cell? (uo.add 2)=some (cF.v)/\
 ∃dx,cy.cell? ((⟨cg,0,none⟩:Addr).add 0)=some (.bool dx)/\
 ∃bl:SV,cy.cell? ((⟨cg,0,none⟩:Addr).add 1)=some (bl.v)/\
 alE (.cells #[.bool dx,bl.v] 67) cy λk9 fH=>
 ∃cG:SV,∃eD,(Builtin.append_ #[33,33] 33 #[cF.v,.slice (some ⟨k9,0,none⟩) 1 1]).run prog fH=.ok (cG.v) eD/\
 zQf p4 λue=>
 st1 (ue.add 2) (cG.v) eD λiK=>
 J1 (IntKind.i64.wrap (gx+1)) iK))) (
 xXr R p2 p4 ds w)
def xXt(R:Rt)(l0:SV)(p2 p4:Option Addr)(n6 n8 qd gx:Int)(ds:Ds)(w:World):Prop:=
 zQW (λ(J1:(Int)->World->Prop) (s:Int) (w:World)=>xXy R J1 l0 p2 p4 n6 n8 qd s ds w) gx w
def xXI(R:Rt)(l0:SV)(p2 p4:Option Addr)(n6:Int)(ds:Ds)(w:World):Prop:=
 zQf p4 λzj=>
 ∃e9:SV,w.cell? (zj.add 1)=some (e9.v)/\
 Calls prog 141 #[e9.v] w λe jx=>
 ∃qH:Int,e=.returned (.int .i64 qH)/\
 Br (qH != 0) (
 zQf p4 λmG=>
 ∃nQ,jx.cell? (mG.add 0)=some (.int .i64 nQ)/\
 ∃gy:SV,jx.cell? (mG.add 1)=some (gy.v)/\
 ∃gz:SV,jx.cell? (mG.add 2)=some (gz.v)/\
 zQf p2 λa37=>
 stA prog 35 a37 #[.int .i64 nQ,gy.v,gz.v] jx λlP=>
 zQd prog ds lP λfZ=>
 zQf p2 λlQ=>
 ∃ag,fZ.cell? (lQ.add 0)=some (.int .i64 ag)/\
 ∃ab:SV,fZ.cell? (lQ.add 1)=some (ab.v)/\
 ∃ae:SV,fZ.cell? (lQ.add 2)=some (ae.v)/\
 R (.returned (.tuple #[.agg #[.int .i64 ag,ab.v,ae.v],.bool false])) fZ) (
 dwE jx λlE=>
 zQf p4 λuf=>
 ∃iv:SV,lE.cell? (uf.add 1)=some (iv.v)/\
 0<=(6:Int)/\(6:Int).toNat<=l0.cap/\0<=(2:Int)/\(2:Int).toNat<=(6:Int).toNat/\
 Calls prog 161 #[iv.v] lE λe qK=>
 ∃qe:Int,e=.returned (.int .i64 qe)/\
 Calls prog 162 #[.slice (if l0.cap=(2:Int).toNat then l0.a else l0.a.map (λx=>x.add ((2:Int).toNat * 1))) ((6:Int).toNat - (2:Int).toNat) (l0.cap - (2:Int).toNat)] qK λe jt=>
 ∃tH:Int,e=.returned (.int .i64 tH)/\
 Br (decide (tH > 300)) (
 zQf p4 λpd=>
 ∃jf,jt.cell? (pd.add 0)=some (.int .i64 jf)/\
 ∃cH:SV,jt.cell? (pd.add 1)=some (cH.v)/\
 ∃cI:SV,jt.cell? (pd.add 2)=some (cI.v)/\
 zQf p2 λa46=>
 stA prog 35 a46 #[.int .i64 jf,cH.v,cI.v] jt λrq=>
 zQd prog ds rq λip=>
 zQf p2 λrt=>
 ∃ag,ip.cell? (rt.add 0)=some (.int .i64 ag)/\
 ∃ab:SV,ip.cell? (rt.add 1)=some (ab.v)/\
 ∃ae:SV,ip.cell? (rt.add 2)=some (ae.v)/\
 R (.returned (.tuple #[.agg #[.int .i64 ag,ab.v,ae.v],.bool false])) ip) (
 Br ((l0.len:Int) != (IntKind.i64.wrap ((IntKind.i64.wrap (n6+(IntKind.i64.wrap (qe * tH))))+1))) (
 zQf p4 λpe=>
 ∃jf,jt.cell? (pe.add 0)=some (.int .i64 jf)/\
 ∃cH:SV,jt.cell? (pe.add 1)=some (cH.v)/\
 ∃cI:SV,jt.cell? (pe.add 2)=some (cI.v)/\
 zQf p2 λa51=>
 stA prog 35 a51 #[.int .i64 jf,cH.v,cI.v] jt λzk=>
 zQd prog ds zk λmH=>
 zQf p2 λru=>
 ∃ag,mH.cell? (ru.add 0)=some (.int .i64 ag)/\
 ∃ab:SV,mH.cell? (ru.add 1)=some (ab.v)/\
 ∃ae:SV,mH.cell? (ru.add 2)=some (ae.v)/\
 R (.returned (.tuple #[.agg #[.int .i64 ag,ab.v,ae.v],.bool false])) mH) (
 xXt R l0 p2 p4 n6 qe tH 0 ds jt)))
def xQ1 (R:Rt) (J1:(Int)->World->Prop) (l0:SV) (p2 p4:Option Addr) (n6 ki cv:Int) (ds:Ds) (w:World):Prop:=
 Br (decide (cv<ki)) (
 dwE w λtI=>
 ∃S3:World->Prop,S3 tI/\
 zQf p4 λzl=>
 ∃qg:SV,(∀w',S3 w'->w'.cell? (zl.add 1)=some (qg.v))/\
 ∃jJ:SV,∃qL,(Instr.sliceAt 22 (l0.v) (some (.int .i64 (IntKind.i64.wrap ((12:Int)+(IntKind.i64.wrap ((16:Int) * cv)))))) (some (.int .i64 (IntKind.i64.wrap ((28:Int)+(IntKind.i64.wrap ((16:Int) * cv)))))) (some (.int .i64 (IntKind.i64.wrap ((28:Int)+(IntKind.i64.wrap ((16:Int) * cv))))))).run prog tI=.ok (jJ.v) qL/\
 S3 qL/\
 Calls prog 160 #[jJ.v] qL λe lD=>
 ∃nR:ByteArray,∃dR:Int,∃dS:Int,∃nS:Bool,e=.returned (.agg #[.string nR,.int .i64 dR,.int .i64 dS,.bool nS])/\
 S3 lD/\
 alE (.cells #[.string nR,.int .i64 dR,.int .i64 dS,.bool nS] 129) lD λzm jD=>
 S3 jD/\
 ∃qh:SV,∃kH,(Builtin.append_ #[32,32] 32 #[qg.v,.slice (some ⟨zm,0,none⟩) 1 1]).run prog jD=.ok (qh.v) kH/\
 zQf p4 λzn=>
 st1 (zn.add 1) (qh.v) kH λkR=>
 J1 (IntKind.i64.wrap (cv+1)) kR) (
 xXI R l0 p2 p4 n6 ds w)
def xQx(R:Rt)(l0:SV)(p2 p4:Option Addr)(n6 ki cv:Int)(ds:Ds)(w:World):Prop:=
 zQW (λ(J1:(Int)->World->Prop) (s:Int) (w:World)=>xQ1 R J1 l0 p2 p4 n6 ki s ds w) cv w
def xQQ(R:Rt)(l0:SV)(ds:Ds)(w:World):Prop:=
 alE (.cells #[.int .i64 0,.slice none 0 0,.slice none 0 0] 35) w λr2 ju=>
 alE (.cells #[.int .i64 0,.slice none 0 0,.slice none 0 0] 35) ju λr4 jv=>
 Br (decide ((l0.len:Int)<14)) (
 ∃fe,jv.cell? ((⟨r4,0,none⟩:Addr).add 0)=some (.int .i64 fe)/\
 ∃bF:SV,jv.cell? ((⟨r4,0,none⟩:Addr).add 1)=some (bF.v)/\
 ∃bG:SV,jv.cell? ((⟨r4,0,none⟩:Addr).add 2)=some (bG.v)/\
 stA prog 35 (⟨r2,0,none⟩:Addr) #[.int .i64 fe,bF.v,bG.v] jv λkj=>
 zQd prog ds kj λlR=>
 ∃ag,lR.cell? ((⟨r2,0,none⟩:Addr).add 0)=some (.int .i64 ag)/\
 ∃ab:SV,lR.cell? ((⟨r2,0,none⟩:Addr).add 1)=some (ab.v)/\
 ∃ae:SV,lR.cell? ((⟨r2,0,none⟩:Addr).add 2)=some (ae.v)/\
 R (.returned (.tuple #[.agg #[.int .i64 ag,ab.v,ae.v],.bool false])) lR) (
 ∃tJ,l0.a=some tJ/\0<=(0:Int)/\(0:Int)<(l0.len:Int)/\
 ∃jz,jv.cell? (tJ.add ((0:Int).toNat * 1))=some (.int .u8 jz)/\
 Br (jz != 67) (
 ∃fe,jv.cell? ((⟨r4,0,none⟩:Addr).add 0)=some (.int .i64 fe)/\
 ∃bF:SV,jv.cell? ((⟨r4,0,none⟩:Addr).add 1)=some (bF.v)/\
 ∃bG:SV,jv.cell? ((⟨r4,0,none⟩:Addr).add 2)=some (bG.v)/\
 stA prog 35 (⟨r2,0,none⟩:Addr) #[.int .i64 fe,bF.v,bG.v] jv λqN=>
 zQd prog ds qN λlT=>
 ∃ag,lT.cell? ((⟨r2,0,none⟩:Addr).add 0)=some (.int .i64 ag)/\
 ∃ab:SV,lT.cell? ((⟨r2,0,none⟩:Addr).add 1)=some (ab.v)/\
 ∃ae:SV,lT.cell? ((⟨r2,0,none⟩:Addr).add 2)=some (ae.v)/\
 R (.returned (.tuple #[.agg #[.int .i64 ag,ab.v,ae.v],.bool false])) lT) (
 ∃a70,l0.a=some a70/\0<=(1:Int)/\(1:Int)<(l0.len:Int)/\
 ∃n25,jv.cell? (a70.add ((1:Int).toNat * 1))=some (.int .u8 n25)/\
 st1 (⟨r4,0,none⟩:Addr) (.int .i64 (IntKind.i64.wrap n25)) jv λlU=>
 dwE lU λqO=>
 ∃S4:World->Prop,S4 qO/\
 ∃xT,l0.a=some xT/\0<=(10:Int)/\(10:Int)<(l0.len:Int)/\
 ∃n30,(∀w',S4 w'->w'.cell? (xT.add ((10:Int).toNat * 1))=some (.int .u8 n30))/\
 ∃xU,l0.a=some xU/\0<=(10:Int)/\(10:Int)<(l0.len:Int)/\
 ∃n34,(∀w',S4 w'->w'.cell? (xU.add ((10:Int).toNat * 1))=some (.int .u8 n34))/\
 Calls prog 159 #[.int .i64 (IntKind.i64.wrap n34)] qO λe jE=>
 ∃n36:Int,e=.returned (.int .i64 n36)/\
 S4 jE/\
 Br (decide (n36 > (l0.len:Int))) (
 ∃jg,jE.cell? ((⟨r4,0,none⟩:Addr).add 0)=some (.int .i64 jg)/\
 ∃cJ:SV,jE.cell? ((⟨r4,0,none⟩:Addr).add 1)=some (cJ.v)/\
 ∃cK:SV,jE.cell? ((⟨r4,0,none⟩:Addr).add 2)=some (cK.v)/\
 stA prog 35 (⟨r2,0,none⟩:Addr) #[.int .i64 jg,cJ.v,cK.v] jE λj0=>
 zQd prog ds j0 λtK=>
 ∃ag,tK.cell? ((⟨r2,0,none⟩:Addr).add 0)=some (.int .i64 ag)/\
 ∃ab:SV,tK.cell? ((⟨r2,0,none⟩:Addr).add 1)=some (ab.v)/\
 ∃ae:SV,tK.cell? ((⟨r2,0,none⟩:Addr).add 2)=some (ae.v)/\
 R (.returned (.tuple #[.agg #[.int .i64 ag,ab.v,ae.v],.bool false])) tK) (
 xQx R l0 (some (⟨r2,0,none⟩:Addr)) (some (⟨r4,0,none⟩:Addr)) n36 (IntKind.i64.wrap n30) 0 ds jE)))
theorem F124_p:Pl prog f124 [lS 0] xQQ:=λR=>
 pc 9 (rest [lS 0,pS 2,pS 4,iS 6,iS 42,iS 43] (xQx R) (bk 0 (rest [lS 0,pS 2,pS 4,iS 6] (xXI R) (pc 6 (rest [lS 0,pS 2,pS 4,iS 6,iS 8,iS 89,iS 90] (xXt R) (bk 2 (rest [pS 2,pS 4] (xXr R) lf) (lp [iS 90] [lS 0,pS 2,pS 4,iS 6,iS 8,iS 89,iS 90] (xXy R) zZU λJ1=>lf))))) (lp [iS 43] [lS 0,pS 2,pS 4,iS 6,iS 42,iS 43] (xQ1 R) zZU λJ1=>lf)))
theorem yK0 (l0:SV) (w:World) (R:Rt) (h:xQQ R l0 [] w):Calls prog 124 #[l0.v] w R:=
 plC F124_p func124 h
def xQB(R:Rt)(p2 p3:Option Addr)(ds:Ds)(w:World):Prop:=
 zQf p3 λa1=>
 ∃nT,w.cell? (a1.add 0)=some (.string nT)/\
 ∃nU,w.cell? (a1.add 1)=some (.int .i64 nU)/\
 ∃nV,w.cell? (a1.add 2)=some (.int .i64 nV)/\
 ∃nW,w.cell? (a1.add 3)=some (.bool nW)/\
 zQf p2 λa2=>
 stA prog 129 a2 #[.string nT,.int .i64 nU,.int .i64 nV,.bool nW] w λw3=>
 zQd prog ds w3 λw4=>
 zQf p2 λa5=>
 ∃nX,w4.cell? (a5.add 0)=some (.string nX)/\
 ∃ap,w4.cell? (a5.add 1)=some (.int .i64 ap)/\
 ∃nY,w4.cell? (a5.add 2)=some (.int .i64 nY)/\
 ∃nZ,w4.cell? (a5.add 3)=some (.bool nZ)/\
 R (.returned (.agg #[.string nX,.int .i64 ap,.int .i64 nY,.bool nZ])) w4
def xQb (R:Rt) (J1:(Unit)->World->Prop) (l0:SV) (p2 p3 jh:Option Addr) (ds:Ds) (w:World):Prop:=
 (∃w6,(Instr.next (.pointer jh) false 0).run prog w=.ok (.tuple #[.bool false]) w6/\
 xQB R p2 p3 ds w6)∨(∃zo v21:Value,∃w7,(Instr.next (.pointer jh) false 0).run prog w=.ok (.tuple #[.bool true,zo,v21]) w7/\
 ∃xV xW:Value,∃w8,(Instr.entry (.pointer jh)).run prog w7=.ok (.tuple #[xV,xW]) w8/\
 yK6 .i64 xV λko=>
 yK8 xW λzp=>
 dHd zp λrv rx=>
 yK6 .u8 rv λjU=>
 dHd rx λrz rA=>
 yK6 .i64 rz λjV=>
 dHd rA λrB rC=>
 yK6 .i64 rB λrD=>
 dHd rC λrE rF=>
 dHd rF λrG rH=>
 yVc rH (
 alE (.cells #[.int .u8 0,.int .i64 0,.int .i64 0,.nilFunc,.nilFunc] 174) w8 λr5 w9=>
 stA prog 174 (⟨r5,0,none⟩:Addr) #[.int .u8 jU,.int .i64 jV,.int .i64 rD,rE,rG] w9 λaM=>
 dwE aM λaQ=>
 ∃n27,aQ.cell? (⟨r5,0,none⟩:Addr)=some (.int .u8 n27)/\
 ∃js,l0.a=some js/\0<=(10:Int)/\(10:Int)<(l0.len:Int)/\
 ∃n30,aQ.cell? (js.add ((10:Int).toNat * 1))=some (.int .u8 n30)/\
 Br (n27 == n30) (
 zQf p3 λjS=>
 st1 (jS.add 1) (.int .i64 ko) aQ λbI=>
 J1 () bI) (
 J1 () aQ)))
def zYV(R:Rt)(l0:SV)(p2 p3 jh:Option Addr)(ds:Ds)(w:World):Prop:=
 zQW (λ(J1:(Unit)->World->Prop) (_:Unit) (w:World)=>xQb R J1 l0 p2 p3 jh ds w) () w
def xZ9(R:Rt)(l0:SV)(ds:Ds)(w:World):Prop:=
 alE (.cells #[.string (⟨#[]⟩:ByteArray),.int .i64 0,.int .i64 0,.bool false] 129) w λr2 bv=>
 dwE bv λbK=>
 ∃S2:World->Prop,S2 bK/\
 0<=(10:Int)/\(10:Int).toNat<=l0.cap/\0<=(10:Int).toNat/\
 ∃qb,l0.a=some qb/\0<=(11:Int)/\(11:Int)<(l0.len:Int)/\
 ∃jH,(∀w',S2 w'->w'.cell? (qb.add ((11:Int).toNat * 1))=some (.int .u8 jH))/\
 ∃iG,l0.a=some iG/\0<=(12:Int)/\(12:Int)<(l0.len:Int)/\
 ∃n16,(∀w',S2 w'->w'.cell? (iG.add ((12:Int).toNat * 1))=some (.int .u8 n16))/\
 (
 ∃s8:ByteArray,∃ce,(convert 22 9 (.slice (if l0.cap=0 then l0.a else l0.a.map (λx=>x.add (0 * 1))) ((10:Int).toNat - 0) (l0.cap - 0))).run prog bK=.ok (.string s8) ce/\
 S2 ce/\
 (
 Calls prog 119 #[.string s8,.string (⟨#[0]⟩:ByteArray)] ce λe cf=>
 ∃s9:ByteArray,e=.returned (.string s9)/\
 S2 cf/\
 alE (.cells #[.string (⟨#[]⟩:ByteArray),.int .i64 0,.int .i64 0,.bool false] 129) cf λr3 bt=>
 S2 bt/\
 stA prog 129 (⟨r3,0,none⟩:Addr) #[.string s9,.int .i64 0,.int .i64 (IntKind.i64.wrap jH),.bool (n16 == 1)] bt λeu=>
 Calls prog 145 #[] eu λe cy=>
 ∃lc:Option Nat,e=.returned (.map lc)/\
 ∃jh:Option Addr,∃cS,(Instr.range 176 (.map lc)).run prog cy=.ok (.pointer jh) cS/\
 zYV R l0 (some (⟨r2,0,none⟩:Addr)) (some (⟨r3,0,none⟩:Addr)) jh ds cS)/\(
 alE (.cells #[.string (⟨#[]⟩:ByteArray),.int .i64 0,.int .i64 0,.bool false] 129) ce λr3 eG=>
 S2 eG/\
 Calls prog 119 #[.string s8,.string (⟨#[0]⟩:ByteArray)] eG λe dB=>
 ∃s9:ByteArray,e=.returned (.string s9)/\
 S2 dB/\
 stA prog 129 (⟨r3,0,none⟩:Addr) #[.string s9,.int .i64 0,.int .i64 (IntKind.i64.wrap jH),.bool (n16 == 1)] dB λfW=>
 Calls prog 145 #[] fW λe dN=>
 ∃lc:Option Nat,e=.returned (.map lc)/\
 ∃jh:Option Addr,∃fg,(Instr.range 176 (.map lc)).run prog dN=.ok (.pointer jh) fg/\
 zYV R l0 (some (⟨r2,0,none⟩:Addr)) (some (⟨r3,0,none⟩:Addr)) jh ds fg))/\(
 alE (.cells #[.string (⟨#[]⟩:ByteArray),.int .i64 0,.int .i64 0,.bool false] 129) bK λr3 fH=>
 S2 fH/\
 ∃s8:ByteArray,∃eD,(convert 22 9 (.slice (if l0.cap=0 then l0.a else l0.a.map (λx=>x.add (0 * 1))) ((10:Int).toNat - 0) (l0.cap - 0))).run prog fH=.ok (.string s8) eD/\
 S2 eD/\
 Calls prog 119 #[.string s8,.string (⟨#[0]⟩:ByteArray)] eD λe ft=>
 ∃s9:ByteArray,e=.returned (.string s9)/\
 S2 ft/\
 stA prog 129 (⟨r3,0,none⟩:Addr) #[.string s9,.int .i64 0,.int .i64 (IntKind.i64.wrap jH),.bool (n16 == 1)] ft λiK=>
 Calls prog 145 #[] iK λe dO=>
 ∃lc:Option Nat,e=.returned (.map lc)/\
 ∃jh:Option Addr,∃jx,(Instr.range 176 (.map lc)).run prog dO=.ok (.pointer jh) jx/\
 zYV R l0 (some (⟨r2,0,none⟩:Addr)) (some (⟨r3,0,none⟩:Addr)) jh ds jx)
theorem F160_p:Pl prog f160 [lS 0] xZ9:=λR=>
 pc 3 (rest [lS 0,pS 2,pS 3,pS 20] (zYV R) (bk 0 (rest [pS 2,pS 3] (xQB R) lf) (lp [] [lS 0,pS 2,pS 3,pS 20] (xQb R) zZU λJ1=>lf)))
theorem yZL (l0:SV) (w:World) (R:Rt) (h:xZ9 R l0 [] w):Calls prog 160 #[l0.v] w R:=
 plC F160_p func160 h
def xXG(R:Rt)(n3:Int)(ds:Ds)(w:World):Prop:=
 zQd prog ds w λw1=>
 R (.returned (.int .i64 n3)) w1
def xQJ (R:Rt) (J1:(Int × Int)->World->Prop) (l0:SV) (n3 n4:Int) (ds:Ds) (w:World):Prop:=
 Br (decide (n4 >= 0)) (
 0<=(8:Int)/\
 ∃a2,l0.a=some a2/\0<=n4/\n4<(l0.len:Int)/\
 ∃kg,w.cell? (a2.add (n4.toNat * 1))=some (.int .u8 kg)/\
 J1 ((IntKind.i64.wrap ((BitVec.ofInt 64 (IntKind.i64.wrap (n3 * 2 ^ 8)) ||| BitVec.ofInt 64 (IntKind.i64.wrap kg)).toNat:Nat)),(IntKind.i64.wrap (n4 - 1))) w) (
 xXG R n3 ds w)
def xQk(R:Rt)(l0:SV)(n3 n4:Int)(ds:Ds)(w:World):Prop:=
 zQW (λ(J1:(Int × Int)->World->Prop) (s:Int × Int) (w:World)=>xQJ R J1 l0 s.1 s.2 ds w) (n3,n4) w
def yKM(R:Rt)(l0:SV)(ds:Ds)(w:World):Prop:=
 xQk R l0 0 (IntKind.i64.wrap ((l0.len:Int) - 1)) ds w
theorem F162_p:Pl prog f162 [lS 0] yKM:=λR=>
 pc 3 (rest [lS 0,iS 3,iS 4] (xQk R) (bk 0 (rest [iS 3] (xXG R) lf) (lp [iS 3,iS 4] [lS 0,iS 3,iS 4] (xQJ R) zZU λJ1=>lf)))
theorem yJ7 (l0:SV) (w:World) (R:Rt) (h:yKM R l0 [] w):Calls prog 162 #[l0.v] w R:=
 plC F162_p func162 h
def xXV(R:Rt)(p4 p6:Option Addr)(b9:Bool)(ds:Ds)(w:World):Prop:=
 zQf p6 λa1=>
 ∃oa,w.cell? (a1.add 0)=some (.bool oa)/\
 ∃gA:SV,w.cell? (a1.add 1)=some (gA.v)/\
 zQf p4 λa2=>
 stA prog 67 a2 #[.bool oa,gA.v] w λw3=>
 zQd prog ds w3 λw4=>
 zQf p4 λa5=>
 ∃ob,w4.cell? (a5.add 0)=some (.bool ob)/\
 ∃ab:SV,w4.cell? (a5.add 1)=some (ab.v)/\
 R (.returned (.tuple #[.agg #[.bool ob,ab.v],.bool b9])) w4
def zQC (R:Rt) (J1:(Int × Int × Bool × Int)->World->Prop) (l1:SV) (p4 p6:Option Addr) (n7 n8:Int) (b9:Bool) (bw:SV) (n25 bo:Int) (ds:Ds) (w:World):Prop:=
 J1 (n7,n8,b9,(IntKind.i64.wrap (bo+1))) w
def xQC (R:Rt) (J1:(Int × Int × Bool × Int)->World->Prop) (l1:SV) (p4 p6:Option Addr) (n7 n8:Int) (b9:Bool) (bw:SV) (n25 bo:Int) (ds:Ds) (w:World):Prop:=
 ∃a6,bw.a=some a6/\0<=bo/\bo<(bw.len:Int)/\
 ∃oc,w.cell? ((a6.add (bo.toNat * 4)).add 0)=some (.string oc)/\
 ∃od,w.cell? ((a6.add (bo.toNat * 4)).add 1)=some (.int .i64 od)/\
 ∃oe,w.cell? ((a6.add (bo.toNat * 4)).add 2)=some (.int .i64 oe)/\
 ∃og,w.cell? ((a6.add (bo.toNat * 4)).add 3)=some (.bool og)/\
 alE (.cells #[.string (⟨#[]⟩:ByteArray),.int .i64 0,.int .i64 0,.bool false] 129) w λcg w7=>
 stA prog 129 (⟨cg,0,none⟩:Addr) #[.string oc,.int .i64 od,.int .i64 oe,.bool og] w7 λw8=>
 ∃n34,w8.cell? ((⟨cg,0,none⟩:Addr).add 2)=some (.int .i64 n34)/\
 ∃n38,w8.cell? ((⟨cg,0,none⟩:Addr).add 2)=some (.int .i64 n38)/\
 ∃bp:SV,∃w9,(Instr.sliceAt 22 (l1.v) (some (.int .i64 n7)) (some (.int .i64 (IntKind.i64.wrap (n7+n34)))) (some (.int .i64 (IntKind.i64.wrap (n7+n38))))).run prog w8=.ok (bp.v) w9/\
 ∃cv,w9.cell? ((⟨cg,0,none⟩:Addr).add 2)=some (.int .i64 cv)/\
 ∃xX,w9.cell? ((⟨cg,0,none⟩:Addr).add 3)=some (.bool xX)/\
 Br xX (
 IntKind.i64=IntKind.i64/\(8:Int) ≠ 0/\
 ∃ej,l1.a=some ej/\0<=(IntKind.i64.wrap ((1:Int)+(IntKind.i64.wrap (n8.tdiv 8))))/\(IntKind.i64.wrap ((1:Int)+(IntKind.i64.wrap (n8.tdiv 8))))<(l1.len:Int)/\
 ∃mD,w9.cell? (ej.add ((IntKind.i64.wrap ((1:Int)+(IntKind.i64.wrap (n8.tdiv 8)))).toNat * 1))=some (.int .u8 mD)/\
 IntKind.i64=IntKind.i64/\(8:Int) ≠ 0/\
 0<=(n8.tmod 8)/\
 Br ((IntKind.u8.wrap ((BitVec.ofInt 8 (mD.fdiv (2 ^ (min (n8.tmod 8).toNat 8))) &&& BitVec.ofInt 8 1).toNat:Nat)) == 1) (
 zQf p6 λcT=>
 ∃eY:SV,w9.cell? (cT.add 1)=some (eY.v)/\
 alE (.cells #[.int .i64 0,.int .i64 0,.string (⟨#[]⟩:ByteArray)] 73) w9 λr64 aR=>
 ∃e9:SV,∃aZ,(Builtin.append_ #[38,38] 38 #[eY.v,.slice (some ⟨r64,0,none⟩) 1 1]).run prog aR=.ok (e9.v) aZ/\
 zQf p6 λfG=>
 st1 (fG.add 1) (e9.v) aZ λbv=>
 zQC R J1 l1 p4 p6 (IntKind.i64.wrap (n7+cv)) (IntKind.i64.wrap (n8+1)) b9 bw n25 bo ds bv) (
 dwE w9 λbK=>
 ∃S1:World->Prop,S1 bK/\
 ∃gB,(∀w',S1 w'->w'.cell? ((⟨cg,0,none⟩:Addr).add 1)=some (.int .i64 gB))/\
 (
 Calls prog 145 #[] bK λe bA=>
 ∃cp:Option Nat,e=.returned (.map cp)/\
 ∃S2:World->Prop,S2 bA/\(∀u,S2 u->S1 u)/\
 ∃aU:Int,∃aV:Int,∃aX:Int,∃aY:Value,∃aE:Value,(∀w',S2 w'->(Instr.lookup 176 (.map cp) (.int .i64 gB) false).run prog w'=.ok (.agg #[.int .u8 aU,.int .i64 aV,.int .i64 aX,aY,aE]) w')/\
 (
 ∃bT:ByteArray,∃bY,(convert 22 9 (bp.v)).run prog bA=.ok (.string bT) bY/\
 ∃S3:World->Prop,S3 bY/\(∀u,S3 u->S2 u)/\
 (
 fnE aE λf75 first75 aH=>
 zQt prog f75=true/\Calls prog f75 (first75.toList ++ (([.string bT]:List Value) ++ aH.toList)).toArray bY λe ce=>
 ∃ah:Int,∃ai:Int,∃aj:ByteArray,∃au:Bool,e=.returned (.tuple #[.agg #[.int .i64 ah,.int .i64 ai,.string aj],.bool au])/\
 alE (.cells #[.int .i64 0,.int .i64 0,.string (⟨#[]⟩:ByteArray)] 73) ce λaB cf=>
 stA prog 73 (⟨aB,0,none⟩:Addr) #[.int .i64 ah,.int .i64 ai,.string aj] cf λbt=>
 Br b9 (
 zQf p6 λkP=>
 ∃aw:SV,bt.cell? (kP.add 1)=some (aw.v)/\
 ∃ak,bt.cell? ((⟨aB,0,none⟩:Addr).add 0)=some (.int .i64 ak)/\
 ∃am,bt.cell? ((⟨aB,0,none⟩:Addr).add 1)=some (.int .i64 am)/\
 ∃ao,bt.cell? ((⟨aB,0,none⟩:Addr).add 2)=some (.string ao)/\
 alE (.cells #[.int .i64 ak,.int .i64 am,.string ao] 73) bt λbx cy=>
 ∃ax:SV,∃cS,(Builtin.append_ #[38,38] 38 #[aw.v,.slice (some ⟨bx,0,none⟩) 1 1]).run prog cy=.ok (ax.v) cS/\
 zQf p6 λkQ=>
 st1 (kQ.add 1) (ax.v) cS λdB=>
 zQC R J1 l1 p4 p6 (IntKind.i64.wrap (n7+cv)) (IntKind.i64.wrap (n8+1)) au bw n25 bo ds dB) (
 zQf p6 λuc=>
 ∃aw:SV,bt.cell? (uc.add 1)=some (aw.v)/\
 ∃ak,bt.cell? ((⟨aB,0,none⟩:Addr).add 0)=some (.int .i64 ak)/\
 ∃am,bt.cell? ((⟨aB,0,none⟩:Addr).add 1)=some (.int .i64 am)/\
 ∃ao,bt.cell? ((⟨aB,0,none⟩:Addr).add 2)=some (.string ao)/\
 alE (.cells #[.int .i64 ak,.int .i64 am,.string ao] 73) bt λbx dN=>
 ∃ax:SV,∃fg,(Builtin.append_ #[38,38] 38 #[aw.v,.slice (some ⟨bx,0,none⟩) 1 1]).run prog dN=.ok (ax.v) fg/\
 zQf p6 λpb=>
 st1 (pb.add 1) (ax.v) fg λeD=>
 zQC R J1 l1 p4 p6 (IntKind.i64.wrap (n7+cv)) (IntKind.i64.wrap (n8+1)) false bw n25 bo ds eD))/\(
 alE (.cells #[.int .i64 0,.int .i64 0,.string (⟨#[]⟩:ByteArray)] 73) bY λaB ft=>
 ∃S4:World->Prop,S4 ft/\(∀u,S4 u->S3 u)/\
 fnE aE λf75 first75 aH=>
 zQt prog f75=true/\Calls prog f75 (first75.toList ++ (([.string bT]:List Value) ++ aH.toList)).toArray ft λe iK=>
 ∃ah:Int,∃ai:Int,∃aj:ByteArray,∃au:Bool,e=.returned (.tuple #[.agg #[.int .i64 ah,.int .i64 ai,.string aj],.bool au])/\
 stA prog 73 (⟨aB,0,none⟩:Addr) #[.int .i64 ah,.int .i64 ai,.string aj] iK λdO=>
 Br b9 (
 zQf p6 λqI=>
 ∃aw:SV,dO.cell? (qI.add 1)=some (aw.v)/\
 ∃ak,dO.cell? ((⟨aB,0,none⟩:Addr).add 0)=some (.int .i64 ak)/\
 ∃am,dO.cell? ((⟨aB,0,none⟩:Addr).add 1)=some (.int .i64 am)/\
 ∃ao,dO.cell? ((⟨aB,0,none⟩:Addr).add 2)=some (.string ao)/\
 alE (.cells #[.int .i64 ak,.int .i64 am,.string ao] 73) dO λbx re=>
 ∃ax:SV,∃qa,(Builtin.append_ #[38,38] 38 #[aw.v,.slice (some ⟨bx,0,none⟩) 1 1]).run prog re=.ok (ax.v) qa/\
 zQf p6 λzq=>
 st1 (zq.add 1) (ax.v) qa λfZ=>
 zQC R J1 l1 p4 p6 (IntKind.i64.wrap (n7+cv)) (IntKind.i64.wrap (n8+1)) au bw n25 bo ds fZ) (
 zQf p6 λlQ=>
 ∃aw:SV,dO.cell? (lQ.add 1)=some (aw.v)/\
 ∃ak,dO.cell? ((⟨aB,0,none⟩:Addr).add 0)=some (.int .i64 ak)/\
 ∃am,dO.cell? ((⟨aB,0,none⟩:Addr).add 1)=some (.int .i64 am)/\
 ∃ao,dO.cell? ((⟨aB,0,none⟩:Addr).add 2)=some (.string ao)/\
 alE (.cells #[.int .i64 ak,.int .i64 am,.string ao] 73) dO λbx lE=>
 ∃ax:SV,∃rg,(Builtin.append_ #[38,38] 38 #[aw.v,.slice (some ⟨bx,0,none⟩) 1 1]).run prog lE=.ok (ax.v) rg/\
 zQf p6 λzr=>
 st1 (zr.add 1) (ax.v) rg λjt=>
 zQC R J1 l1 p4 p6 (IntKind.i64.wrap (n7+cv)) (IntKind.i64.wrap (n8+1)) false bw n25 bo ds jt)))/\(
 alE (.cells #[.int .i64 0,.int .i64 0,.string (⟨#[]⟩:ByteArray)] 73) bA λaB rI=>
 ∃S5:World->Prop,S5 rI/\(∀u,S5 u->S2 u)/\
 ∃bT:ByteArray,∃pk,(convert 22 9 (bp.v)).run prog rI=.ok (.string bT) pk/\
 ∃S6:World->Prop,S6 pk/\(∀u,S6 u->S5 u)/\
 fnE aE λf75 first75 aH=>
 zQt prog f75=true/\Calls prog f75 (first75.toList ++ (([.string bT]:List Value) ++ aH.toList)).toArray pk λe rq=>
 ∃ah:Int,∃ai:Int,∃aj:ByteArray,∃au:Bool,e=.returned (.tuple #[.agg #[.int .i64 ah,.int .i64 ai,.string aj],.bool au])/\
 stA prog 73 (⟨aB,0,none⟩:Addr) #[.int .i64 ah,.int .i64 ai,.string aj] rq λip=>
 Br b9 (
 zQf p6 λrt=>
 ∃aw:SV,ip.cell? (rt.add 1)=some (aw.v)/\
 ∃ak,ip.cell? ((⟨aB,0,none⟩:Addr).add 0)=some (.int .i64 ak)/\
 ∃am,ip.cell? ((⟨aB,0,none⟩:Addr).add 1)=some (.int .i64 am)/\
 ∃ao,ip.cell? ((⟨aB,0,none⟩:Addr).add 2)=some (.string ao)/\
 alE (.cells #[.int .i64 ak,.int .i64 am,.string ao] 73) ip λbx zt=>
 ∃ax:SV,∃xY,(Builtin.append_ #[38,38] 38 #[aw.v,.slice (some ⟨bx,0,none⟩) 1 1]).run prog zt=.ok (ax.v) xY/\
 zQf p6 λug=>
 st1 (ug.add 1) (ax.v) xY λmH=>
 zQC R J1 l1 p4 p6 (IntKind.i64.wrap (n7+cv)) (IntKind.i64.wrap (n8+1)) au bw n25 bo ds mH) (
 zQf p6 λru=>
 ∃aw:SV,ip.cell? (ru.add 1)=some (aw.v)/\
 ∃ak,ip.cell? ((⟨aB,0,none⟩:Addr).add 0)=some (.int .i64 ak)/\
 ∃am,ip.cell? ((⟨aB,0,none⟩:Addr).add 1)=some (.int .i64 am)/\
 ∃ao,ip.cell? ((⟨aB,0,none⟩:Addr).add 2)=some (.string ao)/\
 alE (.cells #[.int .i64 ak,.int .i64 am,.string ao] 73) ip λbx tI=>
 ∃ax:SV,∃tB,(Builtin.append_ #[38,38] 38 #[aw.v,.slice (some ⟨bx,0,none⟩) 1 1]).run prog tI=.ok (ax.v) tB/\
 zQf p6 λzu=>
 st1 (zu.add 1) (ax.v) tB λlD=>
 zQC R J1 l1 p4 p6 (IntKind.i64.wrap (n7+cv)) (IntKind.i64.wrap (n8+1)) false bw n25 bo ds lD)))/\(
 (
 ∃bT:ByteArray,∃jD,(convert 22 9 (bp.v)).run prog bK=.ok (.string bT) jD/\
 ∃S7:World->Prop,S7 jD/\(∀u,S7 u->S1 u)/\
 (
 Calls prog 145 #[] jD λe kH=>
 ∃cp:Option Nat,e=.returned (.map cp)/\
 ∃S8:World->Prop,S8 kH/\(∀u,S8 u->S7 u)/\
 ∃aU:Int,∃aV:Int,∃aX:Int,∃aY:Value,∃aE:Value,(∀w',S8 w'->(Instr.lookup 176 (.map cp) (.int .i64 gB) false).run prog w'=.ok (.agg #[.int .u8 aU,.int .i64 aV,.int .i64 aX,aY,aE]) w')/\
 (
 fnE aE λf75 first75 aH=>
 zQt prog f75=true/\Calls prog f75 (first75.toList ++ (([.string bT]:List Value) ++ aH.toList)).toArray kH λe mI=>
 ∃ah:Int,∃ai:Int,∃aj:ByteArray,∃au:Bool,e=.returned (.tuple #[.agg #[.int .i64 ah,.int .i64 ai,.string aj],.bool au])/\
 alE (.cells #[.int .i64 0,.int .i64 0,.string (⟨#[]⟩:ByteArray)] 73) mI λaB kR=>
 stA prog 73 (⟨aB,0,none⟩:Addr) #[.int .i64 ah,.int .i64 ai,.string aj] kR λju=>
 Br b9 (
 zQf p6 λzv=>
 ∃aw:SV,ju.cell? (zv.add 1)=some (aw.v)/\
 ∃ak,ju.cell? ((⟨aB,0,none⟩:Addr).add 0)=some (.int .i64 ak)/\
 ∃am,ju.cell? ((⟨aB,0,none⟩:Addr).add 1)=some (.int .i64 am)/\
 ∃ao,ju.cell? ((⟨aB,0,none⟩:Addr).add 2)=some (.string ao)/\
 alE (.cells #[.int .i64 ak,.int .i64 am,.string ao] 73) ju λbx kj=>
 ∃ax:SV,∃lR,(Builtin.append_ #[38,38] 38 #[aw.v,.slice (some ⟨bx,0,none⟩) 1 1]).run prog kj=.ok (ax.v) lR/\
 zQf p6 λtJ=>
 st1 (tJ.add 1) (ax.v) lR λqN=>
 zQC R J1 l1 p4 p6 (IntKind.i64.wrap (n7+cv)) (IntKind.i64.wrap (n8+1)) au bw n25 bo ds qN) (
 zQf p6 λzw=>
 ∃aw:SV,ju.cell? (zw.add 1)=some (aw.v)/\
 ∃ak,ju.cell? ((⟨aB,0,none⟩:Addr).add 0)=some (.int .i64 ak)/\
 ∃am,ju.cell? ((⟨aB,0,none⟩:Addr).add 1)=some (.int .i64 am)/\
 ∃ao,ju.cell? ((⟨aB,0,none⟩:Addr).add 2)=some (.string ao)/\
 alE (.cells #[.int .i64 ak,.int .i64 am,.string ao] 73) ju λbx ui=>
 ∃ax:SV,∃lU,(Builtin.append_ #[38,38] 38 #[aw.v,.slice (some ⟨bx,0,none⟩) 1 1]).run prog ui=.ok (ax.v) lU/\
 zQf p6 λa72=>
 st1 (a72.add 1) (ax.v) lU λpY=>
 zQC R J1 l1 p4 p6 (IntKind.i64.wrap (n7+cv)) (IntKind.i64.wrap (n8+1)) false bw n25 bo ds pY))/\(
 alE (.cells #[.int .i64 0,.int .i64 0,.string (⟨#[]⟩:ByteArray)] 73) kH λaB pf=>
 ∃S9:World->Prop,S9 pf/\(∀u,S9 u->S8 u)/\
 fnE aE λf75 first75 aH=>
 zQt prog f75=true/\Calls prog f75 (first75.toList ++ (([.string bT]:List Value) ++ aH.toList)).toArray pf λe jE=>
 ∃ah:Int,∃ai:Int,∃aj:ByteArray,∃au:Bool,e=.returned (.tuple #[.agg #[.int .i64 ah,.int .i64 ai,.string aj],.bool au])/\
 stA prog 73 (⟨aB,0,none⟩:Addr) #[.int .i64 ah,.int .i64 ai,.string aj] jE λj0=>
 Br b9 (
 zQf p6 λzy=>
 ∃aw:SV,j0.cell? (zy.add 1)=some (aw.v)/\
 ∃ak,j0.cell? ((⟨aB,0,none⟩:Addr).add 0)=some (.int .i64 ak)/\
 ∃am,j0.cell? ((⟨aB,0,none⟩:Addr).add 1)=some (.int .i64 am)/\
 ∃ao,j0.cell? ((⟨aB,0,none⟩:Addr).add 2)=some (.string ao)/\
 alE (.cells #[.int .i64 ak,.int .i64 am,.string ao] 73) j0 λbx zA=>
 ∃ax:SV,∃xZ,(Builtin.append_ #[38,38] 38 #[aw.v,.slice (some ⟨bx,0,none⟩) 1 1]).run prog zA=.ok (ax.v) xZ/\
 zQf p6 λzB=>
 st1 (zB.add 1) (ax.v) xZ λzC=>
 zQC R J1 l1 p4 p6 (IntKind.i64.wrap (n7+cv)) (IntKind.i64.wrap (n8+1)) au bw n25 bo ds zC) (
 zQf p6 λzD=>
 ∃aw:SV,j0.cell? (zD.add 1)=some (aw.v)/\
 ∃ak,j0.cell? ((⟨aB,0,none⟩:Addr).add 0)=some (.int .i64 ak)/\
 ∃am,j0.cell? ((⟨aB,0,none⟩:Addr).add 1)=some (.int .i64 am)/\
 ∃ao,j0.cell? ((⟨aB,0,none⟩:Addr).add 2)=some (.string ao)/\
 alE (.cells #[.int .i64 ak,.int .i64 am,.string ao] 73) j0 λbx zE=>
 ∃ax:SV,∃w84,(Builtin.append_ #[38,38] 38 #[aw.v,.slice (some ⟨bx,0,none⟩) 1 1]).run prog zE=.ok (ax.v) w84/\
 zQf p6 λzF=>
 st1 (zF.add 1) (ax.v) w84 λzG=>
 zQC R J1 l1 p4 p6 (IntKind.i64.wrap (n7+cv)) (IntKind.i64.wrap (n8+1)) false bw n25 bo ds zG)))/\(
 alE (.cells #[.int .i64 0,.int .i64 0,.string (⟨#[]⟩:ByteArray)] 73) jD λaB rJ=>
 ∃S10:World->Prop,S10 rJ/\(∀u,S10 u->S7 u)/\
 Calls prog 145 #[] rJ λe rK=>
 ∃cp:Option Nat,e=.returned (.map cp)/\
 ∃S11:World->Prop,S11 rK/\(∀u,S11 u->S10 u)/\
 ∃aU:Int,∃aV:Int,∃aX:Int,∃aY:Value,∃aE:Value,(∀w',S11 w'->(Instr.lookup 176 (.map cp) (.int .i64 gB) false).run prog w'=.ok (.agg #[.int .u8 aU,.int .i64 aV,.int .i64 aX,aY,aE]) w')/\
 fnE aE λf75 first75 aH=>
 zQt prog f75=true/\Calls prog f75 (first75.toList ++ (([.string bT]:List Value) ++ aH.toList)).toArray rK λe uq=>
 ∃ah:Int,∃ai:Int,∃aj:ByteArray,∃au:Bool,e=.returned (.tuple #[.agg #[.int .i64 ah,.int .i64 ai,.string aj],.bool au])/\
 stA prog 73 (⟨aB,0,none⟩:Addr) #[.int .i64 ah,.int .i64 ai,.string aj] uq λkJ=>
 Br b9 (
 zQf p6 λzH=>
 ∃aw:SV,kJ.cell? (zH.add 1)=some (aw.v)/\
 ∃ak,kJ.cell? ((⟨aB,0,none⟩:Addr).add 0)=some (.int .i64 ak)/\
 ∃am,kJ.cell? ((⟨aB,0,none⟩:Addr).add 1)=some (.int .i64 am)/\
 ∃ao,kJ.cell? ((⟨aB,0,none⟩:Addr).add 2)=some (.string ao)/\
 alE (.cells #[.int .i64 ak,.int .i64 am,.string ao] 73) kJ λbx zI=>
 ∃ax:SV,∃x4,(Builtin.append_ #[38,38] 38 #[aw.v,.slice (some ⟨bx,0,none⟩) 1 1]).run prog zI=.ok (ax.v) x4/\
 zQf p6 λzJ=>
 st1 (zJ.add 1) (ax.v) x4 λzK=>
 zQC R J1 l1 p4 p6 (IntKind.i64.wrap (n7+cv)) (IntKind.i64.wrap (n8+1)) au bw n25 bo ds zK) (
 zQf p6 λzL=>
 ∃aw:SV,kJ.cell? (zL.add 1)=some (aw.v)/\
 ∃ak,kJ.cell? ((⟨aB,0,none⟩:Addr).add 0)=some (.int .i64 ak)/\
 ∃am,kJ.cell? ((⟨aB,0,none⟩:Addr).add 1)=some (.int .i64 am)/\
 ∃ao,kJ.cell? ((⟨aB,0,none⟩:Addr).add 2)=some (.string ao)/\
 alE (.cells #[.int .i64 ak,.int .i64 am,.string ao] 73) kJ λbx zM=>
 ∃ax:SV,∃x5,(Builtin.append_ #[38,38] 38 #[aw.v,.slice (some ⟨bx,0,none⟩) 1 1]).run prog zM=.ok (ax.v) x5/\
 zQf p6 λzN=>
 st1 (zN.add 1) (ax.v) x5 λur=>
 zQC R J1 l1 p4 p6 (IntKind.i64.wrap (n7+cv)) (IntKind.i64.wrap (n8+1)) false bw n25 bo ds ur)))/\(
 alE (.cells #[.int .i64 0,.int .i64 0,.string (⟨#[]⟩:ByteArray)] 73) bK λaB jK=>
 ∃S12:World->Prop,S12 jK/\(∀u,S12 u->S1 u)/\
 (
 Calls prog 145 #[] jK λe lg=>
 ∃cp:Option Nat,e=.returned (.map cp)/\
 ∃S13:World->Prop,S13 lg/\(∀u,S13 u->S12 u)/\
 ∃aU:Int,∃aV:Int,∃aX:Int,∃aY:Value,∃aE:Value,(∀w',S13 w'->(Instr.lookup 176 (.map cp) (.int .i64 gB) false).run prog w'=.ok (.agg #[.int .u8 aU,.int .i64 aV,.int .i64 aX,aY,aE]) w')/\
 ∃bT:ByteArray,∃jL,(convert 22 9 (bp.v)).run prog lg=.ok (.string bT) jL/\
 ∃S14:World->Prop,S14 jL/\(∀u,S14 u->S13 u)/\
 fnE aE λf75 first75 aH=>
 zQt prog f75=true/\Calls prog f75 (first75.toList ++ (([.string bT]:List Value) ++ aH.toList)).toArray jL λe pm=>
 ∃ah:Int,∃ai:Int,∃aj:ByteArray,∃au:Bool,e=.returned (.tuple #[.agg #[.int .i64 ah,.int .i64 ai,.string aj],.bool au])/\
 stA prog 73 (⟨aB,0,none⟩:Addr) #[.int .i64 ah,.int .i64 ai,.string aj] pm λfm=>
 Br b9 (
 zQf p6 λut=>
 ∃aw:SV,fm.cell? (ut.add 1)=some (aw.v)/\
 ∃ak,fm.cell? ((⟨aB,0,none⟩:Addr).add 0)=some (.int .i64 ak)/\
 ∃am,fm.cell? ((⟨aB,0,none⟩:Addr).add 1)=some (.int .i64 am)/\
 ∃ao,fm.cell? ((⟨aB,0,none⟩:Addr).add 2)=some (.string ao)/\
 alE (.cells #[.int .i64 ak,.int .i64 am,.string ao] 73) fm λbx uu=>
 ∃ax:SV,∃rL,(Builtin.append_ #[38,38] 38 #[aw.v,.slice (some ⟨bx,0,none⟩) 1 1]).run prog uu=.ok (ax.v) rL/\
 zQf p6 λa109=>
 st1 (a109.add 1) (ax.v) rL λuv=>
 zQC R J1 l1 p4 p6 (IntKind.i64.wrap (n7+cv)) (IntKind.i64.wrap (n8+1)) au bw n25 bo ds uv) (
 zQf p6 λuw=>
 ∃aw:SV,fm.cell? (uw.add 1)=some (aw.v)/\
 ∃ak,fm.cell? ((⟨aB,0,none⟩:Addr).add 0)=some (.int .i64 ak)/\
 ∃am,fm.cell? ((⟨aB,0,none⟩:Addr).add 1)=some (.int .i64 am)/\
 ∃ao,fm.cell? ((⟨aB,0,none⟩:Addr).add 2)=some (.string ao)/\
 alE (.cells #[.int .i64 ak,.int .i64 am,.string ao] 73) fm λbx ux=>
 ∃ax:SV,∃rM,(Builtin.append_ #[38,38] 38 #[aw.v,.slice (some ⟨bx,0,none⟩) 1 1]).run prog ux=.ok (ax.v) rM/\
 zQf p6 λuy=>
 st1 (uy.add 1) (ax.v) rM λuz=>
 zQC R J1 l1 p4 p6 (IntKind.i64.wrap (n7+cv)) (IntKind.i64.wrap (n8+1)) false bw n25 bo ds uz))/\(
 ∃bT:ByteArray,∃jM,(convert 22 9 (bp.v)).run prog jK=.ok (.string bT) jM/\
 ∃S15:World->Prop,S15 jM/\(∀u,S15 u->S12 u)/\
 Calls prog 145 #[] jM λe li=>
 ∃cp:Option Nat,e=.returned (.map cp)/\
 ∃S16:World->Prop,S16 li/\(∀u,S16 u->S15 u)/\
 ∃aU:Int,∃aV:Int,∃aX:Int,∃aY:Value,∃aE:Value,(∀w',S16 w'->(Instr.lookup 176 (.map cp) (.int .i64 gB) false).run prog w'=.ok (.agg #[.int .u8 aU,.int .i64 aV,.int .i64 aX,aY,aE]) w')/\
 fnE aE λf75 first75 aH=>
 zQt prog f75=true/\Calls prog f75 (first75.toList ++ (([.string bT]:List Value) ++ aH.toList)).toArray li λe pn=>
 ∃ah:Int,∃ai:Int,∃aj:ByteArray,∃au:Bool,e=.returned (.tuple #[.agg #[.int .i64 ah,.int .i64 ai,.string aj],.bool au])/\
 stA prog 73 (⟨aB,0,none⟩:Addr) #[.int .i64 ah,.int .i64 ai,.string aj] pn λfo=>
 Br b9 (
 zQf p6 λuA=>
 ∃aw:SV,fo.cell? (uA.add 1)=some (aw.v)/\
 ∃ak,fo.cell? ((⟨aB,0,none⟩:Addr).add 0)=some (.int .i64 ak)/\
 ∃am,fo.cell? ((⟨aB,0,none⟩:Addr).add 1)=some (.int .i64 am)/\
 ∃ao,fo.cell? ((⟨aB,0,none⟩:Addr).add 2)=some (.string ao)/\
 alE (.cells #[.int .i64 ak,.int .i64 am,.string ao] 73) fo λbx uB=>
 ∃ax:SV,∃rN,(Builtin.append_ #[38,38] 38 #[aw.v,.slice (some ⟨bx,0,none⟩) 1 1]).run prog uB=.ok (ax.v) rN/\
 zQf p6 λuC=>
 st1 (uC.add 1) (ax.v) rN λuD=>
 zQC R J1 l1 p4 p6 (IntKind.i64.wrap (n7+cv)) (IntKind.i64.wrap (n8+1)) au bw n25 bo ds uD) (
 zQf p6 λuE=>
 ∃aw:SV,fo.cell? (uE.add 1)=some (aw.v)/\
 ∃ak,fo.cell? ((⟨aB,0,none⟩:Addr).add 0)=some (.int .i64 ak)/\
 ∃am,fo.cell? ((⟨aB,0,none⟩:Addr).add 1)=some (.int .i64 am)/\
 ∃ao,fo.cell? ((⟨aB,0,none⟩:Addr).add 2)=some (.string ao)/\
 alE (.cells #[.int .i64 ak,.int .i64 am,.string ao] 73) fo λbx uF=>
 ∃ax:SV,∃rO,(Builtin.append_ #[38,38] 38 #[aw.v,.slice (some ⟨bx,0,none⟩) 1 1]).run prog uF=.ok (ax.v) rO/\
 zQf p6 λuG=>
 st1 (uG.add 1) (ax.v) rO λuH=>
 zQC R J1 l1 p4 p6 (IntKind.i64.wrap (n7+cv)) (IntKind.i64.wrap (n8+1)) false bw n25 bo ds uH)))))) (
 dwE w9 λlZ=>
 ∃S17:World->Prop,S17 lZ/\
 ∃gB,(∀w',S17 w'->w'.cell? ((⟨cg,0,none⟩:Addr).add 1)=some (.int .i64 gB))/\
 (
 Calls prog 145 #[] lZ λe po=>
 ∃cp:Option Nat,e=.returned (.map cp)/\
 ∃S18:World->Prop,S18 po/\(∀u,S18 u->S17 u)/\
 ∃aU:Int,∃aV:Int,∃aX:Int,∃aY:Value,∃aE:Value,(∀w',S18 w'->(Instr.lookup 176 (.map cp) (.int .i64 gB) false).run prog w'=.ok (.agg #[.int .u8 aU,.int .i64 aV,.int .i64 aX,aY,aE]) w')/\
 (
 ∃bT:ByteArray,∃mc,(convert 22 9 (bp.v)).run prog po=.ok (.string bT) mc/\
 ∃S19:World->Prop,S19 mc/\(∀u,S19 u->S18 u)/\
 (
 fnE aE λf75 first75 aH=>
 zQt prog f75=true/\Calls prog f75 (first75.toList ++ (([.string bT]:List Value) ++ aH.toList)).toArray mc λe uI=>
 ∃ah:Int,∃ai:Int,∃aj:ByteArray,∃au:Bool,e=.returned (.tuple #[.agg #[.int .i64 ah,.int .i64 ai,.string aj],.bool au])/\
 alE (.cells #[.int .i64 0,.int .i64 0,.string (⟨#[]⟩:ByteArray)] 73) uI λaB uJ=>
 stA prog 73 (⟨aB,0,none⟩:Addr) #[.int .i64 ah,.int .i64 ai,.string aj] uJ λf9=>
 Br b9 (
 zQf p6 λuK=>
 ∃aw:SV,f9.cell? (uK.add 1)=some (aw.v)/\
 ∃ak,f9.cell? ((⟨aB,0,none⟩:Addr).add 0)=some (.int .i64 ak)/\
 ∃am,f9.cell? ((⟨aB,0,none⟩:Addr).add 1)=some (.int .i64 am)/\
 ∃ao,f9.cell? ((⟨aB,0,none⟩:Addr).add 2)=some (.string ao)/\
 alE (.cells #[.int .i64 ak,.int .i64 am,.string ao] 73) f9 λbx uL=>
 ∃ax:SV,∃rP,(Builtin.append_ #[38,38] 38 #[aw.v,.slice (some ⟨bx,0,none⟩) 1 1]).run prog uL=.ok (ax.v) rP/\
 zQf p6 λa139=>
 st1 (a139.add 1) (ax.v) rP λuM=>
 zQC R J1 l1 p4 p6 (IntKind.i64.wrap (n7+cv)) n8 au bw n25 bo ds uM) (
 zQf p6 λuN=>
 ∃aw:SV,f9.cell? (uN.add 1)=some (aw.v)/\
 ∃ak,f9.cell? ((⟨aB,0,none⟩:Addr).add 0)=some (.int .i64 ak)/\
 ∃am,f9.cell? ((⟨aB,0,none⟩:Addr).add 1)=some (.int .i64 am)/\
 ∃ao,f9.cell? ((⟨aB,0,none⟩:Addr).add 2)=some (.string ao)/\
 alE (.cells #[.int .i64 ak,.int .i64 am,.string ao] 73) f9 λbx uO=>
 ∃ax:SV,∃rQ,(Builtin.append_ #[38,38] 38 #[aw.v,.slice (some ⟨bx,0,none⟩) 1 1]).run prog uO=.ok (ax.v) rQ/\
 zQf p6 λuP=>
 st1 (uP.add 1) (ax.v) rQ λuQ=>
 zQC R J1 l1 p4 p6 (IntKind.i64.wrap (n7+cv)) n8 false bw n25 bo ds uQ))/\(
 alE (.cells #[.int .i64 0,.int .i64 0,.string (⟨#[]⟩:ByteArray)] 73) mc λaB rR=>
 ∃S20:World->Prop,S20 rR/\(∀u,S20 u->S19 u)/\
 fnE aE λf75 first75 aH=>
 zQt prog f75=true/\Calls prog f75 (first75.toList ++ (([.string bT]:List Value) ++ aH.toList)).toArray rR λe uR=>
 ∃ah:Int,∃ai:Int,∃aj:ByteArray,∃au:Bool,e=.returned (.tuple #[.agg #[.int .i64 ah,.int .i64 ai,.string aj],.bool au])/\
 stA prog 73 (⟨aB,0,none⟩:Addr) #[.int .i64 ah,.int .i64 ai,.string aj] uR λga=>
 Br b9 (
 zQf p6 λuS=>
 ∃aw:SV,ga.cell? (uS.add 1)=some (aw.v)/\
 ∃ak,ga.cell? ((⟨aB,0,none⟩:Addr).add 0)=some (.int .i64 ak)/\
 ∃am,ga.cell? ((⟨aB,0,none⟩:Addr).add 1)=some (.int .i64 am)/\
 ∃ao,ga.cell? ((⟨aB,0,none⟩:Addr).add 2)=some (.string ao)/\
 alE (.cells #[.int .i64 ak,.int .i64 am,.string ao] 73) ga λbx uT=>
 ∃ax:SV,∃rS,(Builtin.append_ #[38,38] 38 #[aw.v,.slice (some ⟨bx,0,none⟩) 1 1]).run prog uT=.ok (ax.v) rS/\
 zQf p6 λuU=>
 st1 (uU.add 1) (ax.v) rS λuV=>
 zQC R J1 l1 p4 p6 (IntKind.i64.wrap (n7+cv)) n8 au bw n25 bo ds uV) (
 zQf p6 λuW=>
 ∃aw:SV,ga.cell? (uW.add 1)=some (aw.v)/\
 ∃ak,ga.cell? ((⟨aB,0,none⟩:Addr).add 0)=some (.int .i64 ak)/\
 ∃am,ga.cell? ((⟨aB,0,none⟩:Addr).add 1)=some (.int .i64 am)/\
 ∃ao,ga.cell? ((⟨aB,0,none⟩:Addr).add 2)=some (.string ao)/\
 alE (.cells #[.int .i64 ak,.int .i64 am,.string ao] 73) ga λbx uX=>
 ∃ax:SV,∃rT,(Builtin.append_ #[38,38] 38 #[aw.v,.slice (some ⟨bx,0,none⟩) 1 1]).run prog uX=.ok (ax.v) rT/\
 zQf p6 λuY=>
 st1 (uY.add 1) (ax.v) rT λuZ=>
 zQC R J1 l1 p4 p6 (IntKind.i64.wrap (n7+cv)) n8 false bw n25 bo ds uZ)))/\(
 alE (.cells #[.int .i64 0,.int .i64 0,.string (⟨#[]⟩:ByteArray)] 73) po λaB rU=>
 ∃S21:World->Prop,S21 rU/\(∀u,S21 u->S18 u)/\
 ∃bT:ByteArray,∃pp,(convert 22 9 (bp.v)).run prog rU=.ok (.string bT) pp/\
 ∃S22:World->Prop,S22 pp/\(∀u,S22 u->S21 u)/\
 fnE aE λf75 first75 aH=>
 zQt prog f75=true/\Calls prog f75 (first75.toList ++ (([.string bT]:List Value) ++ aH.toList)).toArray pp λe u0=>
 ∃ah:Int,∃ai:Int,∃aj:ByteArray,∃au:Bool,e=.returned (.tuple #[.agg #[.int .i64 ah,.int .i64 ai,.string aj],.bool au])/\
 stA prog 73 (⟨aB,0,none⟩:Addr) #[.int .i64 ah,.int .i64 ai,.string aj] u0 λgb=>
 Br b9 (
 zQf p6 λu6=>
 ∃aw:SV,gb.cell? (u6.add 1)=some (aw.v)/\
 ∃ak,gb.cell? ((⟨aB,0,none⟩:Addr).add 0)=some (.int .i64 ak)/\
 ∃am,gb.cell? ((⟨aB,0,none⟩:Addr).add 1)=some (.int .i64 am)/\
 ∃ao,gb.cell? ((⟨aB,0,none⟩:Addr).add 2)=some (.string ao)/\
 alE (.cells #[.int .i64 ak,.int .i64 am,.string ao] 73) gb λbx u7=>
 ∃ax:SV,∃rV,(Builtin.append_ #[38,38] 38 #[aw.v,.slice (some ⟨bx,0,none⟩) 1 1]).run prog u7=.ok (ax.v) rV/\
 zQf p6 λvc=>
 st1 (vc.add 1) (ax.v) rV λvd=>
 zQC R J1 l1 p4 p6 (IntKind.i64.wrap (n7+cv)) n8 au bw n25 bo ds vd) (
 zQf p6 λve=>
 ∃aw:SV,gb.cell? (ve.add 1)=some (aw.v)/\
 ∃ak,gb.cell? ((⟨aB,0,none⟩:Addr).add 0)=some (.int .i64 ak)/\
 ∃am,gb.cell? ((⟨aB,0,none⟩:Addr).add 1)=some (.int .i64 am)/\
 ∃ao,gb.cell? ((⟨aB,0,none⟩:Addr).add 2)=some (.string ao)/\
 alE (.cells #[.int .i64 ak,.int .i64 am,.string ao] 73) gb λbx vg=>
 ∃ax:SV,∃rW,(Builtin.append_ #[38,38] 38 #[aw.v,.slice (some ⟨bx,0,none⟩) 1 1]).run prog vg=.ok (ax.v) rW/\
 zQf p6 λvh=>
 st1 (vh.add 1) (ax.v) rW λvi=>
 zQC R J1 l1 p4 p6 (IntKind.i64.wrap (n7+cv)) n8 false bw n25 bo ds vi)))/\(
 (
 ∃bT:ByteArray,∃md,(convert 22 9 (bp.v)).run prog lZ=.ok (.string bT) md/\
 ∃S23:World->Prop,S23 md/\(∀u,S23 u->S17 u)/\
 (
 Calls prog 145 #[] md λe pq=>
 ∃cp:Option Nat,e=.returned (.map cp)/\
 ∃S24:World->Prop,S24 pq/\(∀u,S24 u->S23 u)/\
 ∃aU:Int,∃aV:Int,∃aX:Int,∃aY:Value,∃aE:Value,(∀w',S24 w'->(Instr.lookup 176 (.map cp) (.int .i64 gB) false).run prog w'=.ok (.agg #[.int .u8 aU,.int .i64 aV,.int .i64 aX,aY,aE]) w')/\
 (
 fnE aE λf75 first75 aH=>
 zQt prog f75=true/\Calls prog f75 (first75.toList ++ (([.string bT]:List Value) ++ aH.toList)).toArray pq λe vj=>
 ∃ah:Int,∃ai:Int,∃aj:ByteArray,∃au:Bool,e=.returned (.tuple #[.agg #[.int .i64 ah,.int .i64 ai,.string aj],.bool au])/\
 alE (.cells #[.int .i64 0,.int .i64 0,.string (⟨#[]⟩:ByteArray)] 73) vj λaB vk=>
 stA prog 73 (⟨aB,0,none⟩:Addr) #[.int .i64 ah,.int .i64 ai,.string aj] vk λgc=>
 Br b9 (
 zQf p6 λvl=>
 ∃aw:SV,gc.cell? (vl.add 1)=some (aw.v)/\
 ∃ak,gc.cell? ((⟨aB,0,none⟩:Addr).add 0)=some (.int .i64 ak)/\
 ∃am,gc.cell? ((⟨aB,0,none⟩:Addr).add 1)=some (.int .i64 am)/\
 ∃ao,gc.cell? ((⟨aB,0,none⟩:Addr).add 2)=some (.string ao)/\
 alE (.cells #[.int .i64 ak,.int .i64 am,.string ao] 73) gc λbx vm=>
 ∃ax:SV,∃rX,(Builtin.append_ #[38,38] 38 #[aw.v,.slice (some ⟨bx,0,none⟩) 1 1]).run prog vm=.ok (ax.v) rX/\
 zQf p6 λvo=>
 st1 (vo.add 1) (ax.v) rX λvp=>
 zQC R J1 l1 p4 p6 (IntKind.i64.wrap (n7+cv)) n8 au bw n25 bo ds vp) (
 zQf p6 λvq=>
 ∃aw:SV,gc.cell? (vq.add 1)=some (aw.v)/\
 ∃ak,gc.cell? ((⟨aB,0,none⟩:Addr).add 0)=some (.int .i64 ak)/\
 ∃am,gc.cell? ((⟨aB,0,none⟩:Addr).add 1)=some (.int .i64 am)/\
 ∃ao,gc.cell? ((⟨aB,0,none⟩:Addr).add 2)=some (.string ao)/\
 alE (.cells #[.int .i64 ak,.int .i64 am,.string ao] 73) gc λbx vr=>
 ∃ax:SV,∃rY,(Builtin.append_ #[38,38] 38 #[aw.v,.slice (some ⟨bx,0,none⟩) 1 1]).run prog vr=.ok (ax.v) rY/\
 zQf p6 λvt=>
 st1 (vt.add 1) (ax.v) rY λvu=>
 zQC R J1 l1 p4 p6 (IntKind.i64.wrap (n7+cv)) n8 false bw n25 bo ds vu))/\(
 alE (.cells #[.int .i64 0,.int .i64 0,.string (⟨#[]⟩:ByteArray)] 73) pq λaB rZ=>
 ∃S25:World->Prop,S25 rZ/\(∀u,S25 u->S24 u)/\
 fnE aE λf75 first75 aH=>
 zQt prog f75=true/\Calls prog f75 (first75.toList ++ (([.string bT]:List Value) ++ aH.toList)).toArray rZ λe vv=>
 ∃ah:Int,∃ai:Int,∃aj:ByteArray,∃au:Bool,e=.returned (.tuple #[.agg #[.int .i64 ah,.int .i64 ai,.string aj],.bool au])/\
 stA prog 73 (⟨aB,0,none⟩:Addr) #[.int .i64 ah,.int .i64 ai,.string aj] vv λgd=>
 Br b9 (
 zQf p6 λvw=>
 ∃aw:SV,gd.cell? (vw.add 1)=some (aw.v)/\
 ∃ak,gd.cell? ((⟨aB,0,none⟩:Addr).add 0)=some (.int .i64 ak)/\
 ∃am,gd.cell? ((⟨aB,0,none⟩:Addr).add 1)=some (.int .i64 am)/\
 ∃ao,gd.cell? ((⟨aB,0,none⟩:Addr).add 2)=some (.string ao)/\
 alE (.cells #[.int .i64 ak,.int .i64 am,.string ao] 73) gd λbx vz=>
 ∃ax:SV,∃sa,(Builtin.append_ #[38,38] 38 #[aw.v,.slice (some ⟨bx,0,none⟩) 1 1]).run prog vz=.ok (ax.v) sa/\
 zQf p6 λvA=>
 st1 (vA.add 1) (ax.v) sa λvB=>
 zQC R J1 l1 p4 p6 (IntKind.i64.wrap (n7+cv)) n8 au bw n25 bo ds vB) (
 zQf p6 λvC=>
 ∃aw:SV,gd.cell? (vC.add 1)=some (aw.v)/\
 ∃ak,gd.cell? ((⟨aB,0,none⟩:Addr).add 0)=some (.int .i64 ak)/\
 ∃am,gd.cell? ((⟨aB,0,none⟩:Addr).add 1)=some (.int .i64 am)/\
 ∃ao,gd.cell? ((⟨aB,0,none⟩:Addr).add 2)=some (.string ao)/\
 alE (.cells #[.int .i64 ak,.int .i64 am,.string ao] 73) gd λbx vD=>
 ∃ax:SV,∃sb,(Builtin.append_ #[38,38] 38 #[aw.v,.slice (some ⟨bx,0,none⟩) 1 1]).run prog vD=.ok (ax.v) sb/\
 zQf p6 λvE=>
 st1 (vE.add 1) (ax.v) sb λvF=>
 zQC R J1 l1 p4 p6 (IntKind.i64.wrap (n7+cv)) n8 false bw n25 bo ds vF)))/\(
 alE (.cells #[.int .i64 0,.int .i64 0,.string (⟨#[]⟩:ByteArray)] 73) md λaB sc=>
 ∃S26:World->Prop,S26 sc/\(∀u,S26 u->S23 u)/\
 Calls prog 145 #[] sc λe sd=>
 ∃cp:Option Nat,e=.returned (.map cp)/\
 ∃S27:World->Prop,S27 sd/\(∀u,S27 u->S26 u)/\
 ∃aU:Int,∃aV:Int,∃aX:Int,∃aY:Value,∃aE:Value,(∀w',S27 w'->(Instr.lookup 176 (.map cp) (.int .i64 gB) false).run prog w'=.ok (.agg #[.int .u8 aU,.int .i64 aV,.int .i64 aX,aY,aE]) w')/\
 fnE aE λf75 first75 aH=>
 zQt prog f75=true/\Calls prog f75 (first75.toList ++ (([.string bT]:List Value) ++ aH.toList)).toArray sd λe vG=>
 ∃ah:Int,∃ai:Int,∃aj:ByteArray,∃au:Bool,e=.returned (.tuple #[.agg #[.int .i64 ah,.int .i64 ai,.string aj],.bool au])/\
 stA prog 73 (⟨aB,0,none⟩:Addr) #[.int .i64 ah,.int .i64 ai,.string aj] vG λgf=>
 Br b9 (
 zQf p6 λvH=>
 ∃aw:SV,gf.cell? (vH.add 1)=some (aw.v)/\
 ∃ak,gf.cell? ((⟨aB,0,none⟩:Addr).add 0)=some (.int .i64 ak)/\
 ∃am,gf.cell? ((⟨aB,0,none⟩:Addr).add 1)=some (.int .i64 am)/\
 ∃ao,gf.cell? ((⟨aB,0,none⟩:Addr).add 2)=some (.string ao)/\
 alE (.cells #[.int .i64 ak,.int .i64 am,.string ao] 73) gf λbx vI=>
 ∃ax:SV,∃se,(Builtin.append_ #[38,38] 38 #[aw.v,.slice (some ⟨bx,0,none⟩) 1 1]).run prog vI=.ok (ax.v) se/\
 zQf p6 λvJ=>
 st1 (vJ.add 1) (ax.v) se λvK=>
 zQC R J1 l1 p4 p6 (IntKind.i64.wrap (n7+cv)) n8 au bw n25 bo ds vK) (
 zQf p6 λvL=>
 ∃aw:SV,gf.cell? (vL.add 1)=some (aw.v)/\
 ∃ak,gf.cell? ((⟨aB,0,none⟩:Addr).add 0)=some (.int .i64 ak)/\
 ∃am,gf.cell? ((⟨aB,0,none⟩:Addr).add 1)=some (.int .i64 am)/\
 ∃ao,gf.cell? ((⟨aB,0,none⟩:Addr).add 2)=some (.string ao)/\
 alE (.cells #[.int .i64 ak,.int .i64 am,.string ao] 73) gf λbx vM=>
 ∃ax:SV,∃sf,(Builtin.append_ #[38,38] 38 #[aw.v,.slice (some ⟨bx,0,none⟩) 1 1]).run prog vM=.ok (ax.v) sf/\
 zQf p6 λvN=>
 st1 (vN.add 1) (ax.v) sf λvO=>
 zQC R J1 l1 p4 p6 (IntKind.i64.wrap (n7+cv)) n8 false bw n25 bo ds vO)))/\(
 alE (.cells #[.int .i64 0,.int .i64 0,.string (⟨#[]⟩:ByteArray)] 73) lZ λaB pr=>
 ∃S28:World->Prop,S28 pr/\(∀u,S28 u->S17 u)/\
 (
 Calls prog 145 #[] pr λe si=>
 ∃cp:Option Nat,e=.returned (.map cp)/\
 ∃S29:World->Prop,S29 si/\(∀u,S29 u->S28 u)/\
 ∃aU:Int,∃aV:Int,∃aX:Int,∃aY:Value,∃aE:Value,(∀w',S29 w'->(Instr.lookup 176 (.map cp) (.int .i64 gB) false).run prog w'=.ok (.agg #[.int .u8 aU,.int .i64 aV,.int .i64 aX,aY,aE]) w')/\
 ∃bT:ByteArray,∃pv,(convert 22 9 (bp.v)).run prog si=.ok (.string bT) pv/\
 ∃S30:World->Prop,S30 pv/\(∀u,S30 u->S29 u)/\
 fnE aE λf75 first75 aH=>
 zQt prog f75=true/\Calls prog f75 (first75.toList ++ (([.string bT]:List Value) ++ aH.toList)).toArray pv λe vP=>
 ∃ah:Int,∃ai:Int,∃aj:ByteArray,∃au:Bool,e=.returned (.tuple #[.agg #[.int .i64 ah,.int .i64 ai,.string aj],.bool au])/\
 stA prog 73 (⟨aB,0,none⟩:Addr) #[.int .i64 ah,.int .i64 ai,.string aj] vP λgg=>
 Br b9 (
 zQf p6 λvQ=>
 ∃aw:SV,gg.cell? (vQ.add 1)=some (aw.v)/\
 ∃ak,gg.cell? ((⟨aB,0,none⟩:Addr).add 0)=some (.int .i64 ak)/\
 ∃am,gg.cell? ((⟨aB,0,none⟩:Addr).add 1)=some (.int .i64 am)/\
 ∃ao,gg.cell? ((⟨aB,0,none⟩:Addr).add 2)=some (.string ao)/\
 alE (.cells #[.int .i64 ak,.int .i64 am,.string ao] 73) gg λbx vR=>
 ∃ax:SV,∃sj,(Builtin.append_ #[38,38] 38 #[aw.v,.slice (some ⟨bx,0,none⟩) 1 1]).run prog vR=.ok (ax.v) sj/\
 zQf p6 λvT=>
 st1 (vT.add 1) (ax.v) sj λvU=>
 zQC R J1 l1 p4 p6 (IntKind.i64.wrap (n7+cv)) n8 au bw n25 bo ds vU) (
 zQf p6 λvV=>
 ∃aw:SV,gg.cell? (vV.add 1)=some (aw.v)/\
 ∃ak,gg.cell? ((⟨aB,0,none⟩:Addr).add 0)=some (.int .i64 ak)/\
 ∃am,gg.cell? ((⟨aB,0,none⟩:Addr).add 1)=some (.int .i64 am)/\
 ∃ao,gg.cell? ((⟨aB,0,none⟩:Addr).add 2)=some (.string ao)/\
 alE (.cells #[.int .i64 ak,.int .i64 am,.string ao] 73) gg λbx vW=>
 ∃ax:SV,∃sk,(Builtin.append_ #[38,38] 38 #[aw.v,.slice (some ⟨bx,0,none⟩) 1 1]).run prog vW=.ok (ax.v) sk/\
 zQf p6 λvX=>
 st1 (vX.add 1) (ax.v) sk λvY=>
 zQC R J1 l1 p4 p6 (IntKind.i64.wrap (n7+cv)) n8 false bw n25 bo ds vY))/\(
 ∃bT:ByteArray,∃pw,(convert 22 9 (bp.v)).run prog pr=.ok (.string bT) pw/\
 ∃S31:World->Prop,S31 pw/\(∀u,S31 u->S28 u)/\
 Calls prog 145 #[] pw λe sl=>
 ∃cp:Option Nat,e=.returned (.map cp)/\
 ∃S32:World->Prop,S32 sl/\(∀u,S32 u->S31 u)/\
 ∃aU:Int,∃aV:Int,∃aX:Int,∃aY:Value,∃aE:Value,(∀w',S32 w'->(Instr.lookup 176 (.map cp) (.int .i64 gB) false).run prog w'=.ok (.agg #[.int .u8 aU,.int .i64 aV,.int .i64 aX,aY,aE]) w')/\
 fnE aE λf75 first75 aH=>
 zQt prog f75=true/\Calls prog f75 (first75.toList ++ (([.string bT]:List Value) ++ aH.toList)).toArray sl λe vZ=>
 ∃ah:Int,∃ai:Int,∃aj:ByteArray,∃au:Bool,e=.returned (.tuple #[.agg #[.int .i64 ah,.int .i64 ai,.string aj],.bool au])/\
 stA prog 73 (⟨aB,0,none⟩:Addr) #[.int .i64 ah,.int .i64 ai,.string aj] vZ λgh=>
 Br b9 (
 zQf p6 λv6=>
 ∃aw:SV,gh.cell? (v6.add 1)=some (aw.v)/\
 ∃ak,gh.cell? ((⟨aB,0,none⟩:Addr).add 0)=some (.int .i64 ak)/\
 ∃am,gh.cell? ((⟨aB,0,none⟩:Addr).add 1)=some (.int .i64 am)/\
 ∃ao,gh.cell? ((⟨aB,0,none⟩:Addr).add 2)=some (.string ao)/\
 alE (.cells #[.int .i64 ak,.int .i64 am,.string ao] 73) gh λbx v7=>
 ∃ax:SV,∃sm,(Builtin.append_ #[38,38] 38 #[aw.v,.slice (some ⟨bx,0,none⟩) 1 1]).run prog v7=.ok (ax.v) sm/\
 zQf p6 λwi=>
 st1 (wi.add 1) (ax.v) sm λwj=>
 zQC R J1 l1 p4 p6 (IntKind.i64.wrap (n7+cv)) n8 au bw n25 bo ds wj) (
 zQf p6 λwk=>
 ∃aw:SV,gh.cell? (wk.add 1)=some (aw.v)/\
 ∃ak,gh.cell? ((⟨aB,0,none⟩:Addr).add 0)=some (.int .i64 ak)/\
 ∃am,gh.cell? ((⟨aB,0,none⟩:Addr).add 1)=some (.int .i64 am)/\
 ∃ao,gh.cell? ((⟨aB,0,none⟩:Addr).add 2)=some (.string ao)/\
 alE (.cells #[.int .i64 ak,.int .i64 am,.string ao] 73) gh λbx wm=>
 ∃ax:SV,∃sn,(Builtin.append_ #[38,38] 38 #[aw.v,.slice (some ⟨bx,0,none⟩) 1 1]).run prog wm=.ok (ax.v) sn/\
 zQf p6 λwo=>
 st1 (wo.add 1) (ax.v) sn λwq=>
 zQC R J1 l1 p4 p6 (IntKind.i64.wrap (n7+cv)) n8 false bw n25 bo ds wq)))))
def xZC (R:Rt) (J1:(Int × Int × Bool × Int)->World->Prop) (l1:SV) (p4 p6:Option Addr) (n7 n8:Int) (b9:Bool) (bw:SV) (n25 bo:Int) (ds:Ds) (w:World):Prop:=
 Br (decide (bo<n25)) (
 xQC R J1 l1 p4 p6 n7 n8 b9 bw n25 bo ds w) (
 xXV R p4 p6 b9 ds w)
def xQA(R:Rt)(l1:SV)(p4 p6:Option Addr)(n7 n8:Int)(b9:Bool)(bw:SV)(n25 bo:Int)(ds:Ds)(w:World):Prop:=
 zQW (λ(J1:(Int × Int × Bool × Int)->World->Prop) (s:Int × Int × Bool × Int) (w:World)=>xZC R J1 l1 p4 p6 s.1 s.2.1 s.2.2.1 bw n25 s.2.2.2 ds w) (n7,n8,b9,bo) w
def xXe(R:Rt)(l0 l1:SV)(ds:Ds)(w:World):Prop:=
 alE (.cells #[.bool false,.slice none 0 0] 67) w λr4 sq=>
 ∃sr,l1.a=some sr/\0<=(0:Int)/\(0:Int)<(l1.len:Int)/\
 ∃iI,sq.cell? (sr.add ((0:Int).toNat * 1))=some (.int .u8 iI)/\
 alE (.cells #[.bool false,.slice none 0 0] 67) sq λr6 ws=>
 stA prog 67 (⟨r6,0,none⟩:Addr) #[.bool (iI == 42),.slice none 0 0] ws λwt=>
 Calls prog 203 #[l0.v] wt λe wu=>
 ∃n22:Int,e=.returned (.int .i64 n22)/\
 xQA R l1 (some (⟨r4,0,none⟩:Addr)) (some (⟨r6,0,none⟩:Addr)) (IntKind.i64.wrap ((1:Int)+n22)) 0 true l0 (l0.len:Int) 0 ds wu
theorem F163_p:Pl prog f163 [lS 0,lS 1] xXe:=λR=>
 pc 4 (rest [lS 1,pS 4,pS 6,iS 7,iS 8,bS 9,lS 24,iS 25,iS 26] (xQA R) (bk 0 (rest [pS 4,pS 6,bS 9] (xXV R) lf) (lp [iS 7,iS 8,bS 9,iS 26] [lS 1,pS 4,pS 6,iS 7,iS 8,bS 9,lS 24,iS 25,iS 26] (xZC R) zZU λJ1=>pc 2 (rest [lS 1,pS 4,pS 6,iS 7,iS 8,bS 9,lS 24,iS 25,iS 26] (xQC R J1) (pc 1 (rest [lS 1,pS 4,pS 6,iS 7,iS 8,bS 9,lS 24,iS 25,iS 26] (zQC R J1) lf))))))
theorem yKv (l0 l1:SV) (w:World) (R:Rt) (h:xXe R l0 l1 [] w):Calls prog 163 #[l0.v,l1.v] w R:=
 plC F163_p func163 h
def xZ0(R:Rt)(l0 l1:SV)(ds:Ds)(w:World):Prop:=
 ∃s6:ByteArray,∃w1,(convert 22 9 (l0.v)).run prog w=.ok (.string s6) w1/\
 ∃s8:ByteArray,∃w2,(convert 22 9 (l1.v)).run prog w1=.ok (.string s8) w2/\
 zQd prog ds w2 λw3=>
 R (.returned (.bool (s6.toList == s8.toList))) w3
theorem F125_p:Pl prog f125 [lS 0,lS 1] xZ0:=λR=>
 lf
theorem yZK (l0 l1:SV) (w:World) (R:Rt) (h:xZ0 R l0 l1 [] w):Calls prog 125 #[l0.v,l1.v] w R:=
 plC F125_p func125 h
end Go.Proofs.YtaeecpjhfmcliaaGreatDoor
