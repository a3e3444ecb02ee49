import Derived.Test.YtcihcbfcgjepfaaGreatDoorProg
import Derived.Test.YtcihcbfcgjepfaaGreatDoorShTwentyEight
/- Shallow texts of functions, printed by program, each checked by the kernel against the loaded code. No condition. -/
set_option maxRecDepth 100000
set_option linter.unusedVariables false
namespace Go.Proofs.YtcihcbfcgjepfaaGreatDoor
open Go.Sh Tryz
def xZ5(R:Rt)(v0:Value)(ds:Ds)(w:World):Prop:=
 Calls prog 165 #[v0] w λe w1=>
 ∃l5:SV,e=.returned (l5.v)/\
 Calls prog 166 #[l5.v] w1 λe w2=>
 e=.returned (.tuple #[])/\
 zQe prog ds w2 λw3=>
 R (.returned (l5.v)) w3
theorem F128_p:Pl prog f128 [vS 0] xZ5:=λR=>
 lf
theorem yJr (v0:Value) (w:World) (R:Rt) (h:xZ5 R v0 [] w):Calls prog 128 #[v0] w R:=
 plC F128_p func128 h
def xXr(R:Rt)(m0:Option Nat)(ds:Ds)(w:World):Prop:=
 alE (.cells #[.map m0] 88) w λr1 w1=>
 zQe prog ds w1 λw2=>
 R (.returned (.func (.func 167) #[] #[.pointer (some (⟨r1,0,none⟩:Addr))])) w2
theorem F129_p:Pl prog f129 [mS 0] xXr:=λR=>
 lf
theorem zV9 (m0:Option Nat) (w:World) (R:Rt) (h:xXr R m0 [] w):Calls prog 129 #[.map m0] w R:=
 plC F129_p func129 h
def xX8(R:Rt)(v0:Value)(ds:Ds)(w:World):Prop:=
 Calls prog 201 #[.slice none 0 0,v0] w λe w1=>
 ∃l4:SV,e=.returned (l4.v)/\
 zQe prog ds w1 λw2=>
 R (.returned (l4.v)) w2
theorem F165_p:Pl prog f165 [vS 0] xX8:=λR=>
 lf
theorem yJu (v0:Value) (w:World) (R:Rt) (h:xX8 R v0 [] w):Calls prog 165 #[v0] w R:=
 plC F165_p func165 h
end Go.Proofs.YtcihcbfcgjepfaaGreatDoor
/- Shallow texts of functions, printed by program, each checked by the kernel against the loaded code. No condition. -/
namespace Go.Proofs.YtcihcbfcgjepfaaGreatDoor
open Go.Sh Tryz
def xZr(R:Rt)(az aA:Int)(dd:ByteArray)(ds:Ds)(w:World):Prop:=
 alE (.cells #[.int .i64 az,.int .i64 aA,.string dd] 28) w λr1 w1=>
 ∃s4,w1.cell? ((⟨r1,0,none⟩:Addr).add 2)=some (.string s4)/\
 Br (decide ((s4.size:Int) > 2048)) (
 zQe prog ds w1 λw2=>
 R (.returned (.int .i64 3)) w2) (
 ∃fH,w1.cell? ((⟨r1,0,none⟩:Addr).add 0)=some (.int .i64 fH)/\
 ∃ni,w1.cell? ((⟨r1,0,none⟩:Addr).add 1)=some (.int .i64 ni)/\
 ∃nj,w1.cell? ((⟨r1,0,none⟩:Addr).add 2)=some (.string nj)/\
 Calls prog 152 #[.agg #[.int .i64 fH,.int .i64 ni,.string nj]] w1 λe w3=>
 ∃b8:Bool,e=.returned (.bool b8)/\
 Br (!b8) (
 zQe prog ds w3 λw4=>
 R (.returned (.int .i64 1)) w4) (
 zQe prog ds w3 λw5=>
 R (.returned (.int .i64 0)) w5))
theorem F107_p:Pl prog f107 [aS 0 [.int .i64,.int .i64,.str]] xZr:=λR=>
 lf
theorem yZ5 (az aA:Int) (dd:ByteArray) (w:World) (R:Rt) (h:xZr R az aA dd [] w):Calls prog 107 #[.agg #[.int .i64 az,.int .i64 aA,.string dd]] w R:=
 plC F107_p func107 h
def zVq(R:Rt)(p1:Option Addr)(fI:Int)(ds:Ds)(w:World):Prop:=
 Br (fI == 0) (
 zQi p1 λa1=>
 ∃n26,w.cell? (a1.add 1)=some (.int .i64 n26)/\
 zQe prog ds w λw2=>
 R (.returned (.bool (n26 == 0))) w2) (
 Br (fI == 1) (
 zQi p1 λa3=>
 ∃kW,w.cell? (a3.add 1)=some (.int .i64 kW)/\
 Br (kW == 0) (
 zQe prog ds w λw4=>
 R (.returned (.bool true)) w4) (
 zQi p1 λa5=>
 ∃u0,w.cell? (a5.add 1)=some (.int .i64 u0)/\
 zQe prog ds w λw6=>
 R (.returned (.bool (u0 == 1))) w6)) (
 Br (fI == 2) (
 zQi p1 λa7=>
 ∃n41,w.cell? (a7.add 1)=some (.int .i64 n41)/\
 Calls prog 158 #[.int .i64 n41] w λe w8=>
 ∃sj:Bool,e=.returned (.bool sj)/\
 zQe prog ds w8 λw9=>
 R (.returned (.bool sj)) w9) (
 Br (fI == 3) (
 zQi p1 λcW=>
 ∃kX,w.cell? (cW.add 1)=some (.int .i64 kX)/\
 Calls prog 188 #[.int .i64 kX] w λe av=>
 ∃wD:Bool,e=.returned (.bool wD)/\
 zQe prog ds av λao=>
 R (.returned (.bool wD)) ao) (
 zQi p1 λdB=>
 ∃sk,w.cell? dB=some (.int .i64 sk)/\
 zQe prog ds w λaI=>
 R (.returned (.bool (sk == 4))) aI))))
def xZE(R:Rt)(az aA:Int)(dd:ByteArray)(ds:Ds)(w:World):Prop:=
 alE (.cells #[.int .i64 az,.int .i64 aA,.string dd] 28) w λr1 aD=>
 ∃n4,aD.cell? (⟨r1,0,none⟩:Addr)=some (.int .i64 n4)/\
 Br (n4 != 4) (
 ∃s8,aD.cell? ((⟨r1,0,none⟩:Addr).add 2)=some (.string s8)/\
 Br (!(s8.toList == (⟨#[]⟩:ByteArray).toList)) (
 zQe prog ds aD λaU=>
 R (.returned (.bool false)) aU) (
 ∃ba,aD.cell? (⟨r1,0,none⟩:Addr)=some (.int .i64 ba)/\
 Br (ba == 4) (
 ∃jU,aD.cell? ((⟨r1,0,none⟩:Addr).add 1)=some (.int .i64 jU)/\
 Br (jU != 0) (
 zQe prog ds aD λbr=>
 R (.returned (.bool false)) br) (
 ∃fI,aD.cell? (⟨r1,0,none⟩:Addr)=some (.int .i64 fI)/\
 zVq R (some (⟨r1,0,none⟩:Addr)) fI ds aD)) (
 ∃fI,aD.cell? (⟨r1,0,none⟩:Addr)=some (.int .i64 fI)/\
 zVq R (some (⟨r1,0,none⟩:Addr)) fI ds aD))) (
 ∃ba,aD.cell? (⟨r1,0,none⟩:Addr)=some (.int .i64 ba)/\
 Br (ba == 4) (
 ∃jU,aD.cell? ((⟨r1,0,none⟩:Addr).add 1)=some (.int .i64 jU)/\
 Br (jU != 0) (
 zQe prog ds aD λbD=>
 R (.returned (.bool false)) bD) (
 ∃fI,aD.cell? (⟨r1,0,none⟩:Addr)=some (.int .i64 fI)/\
 zVq R (some (⟨r1,0,none⟩:Addr)) fI ds aD)) (
 ∃fI,aD.cell? (⟨r1,0,none⟩:Addr)=some (.int .i64 fI)/\
 zVq R (some (⟨r1,0,none⟩:Addr)) fI ds aD))
theorem F152_p:Pl prog f152 [aS 0 [.int .i64,.int .i64,.str]] xZE:=λR=>
 pc 4 (zQz [pS 1,iS 22] (zVq R) lf)
theorem yZu (az aA:Int) (dd:ByteArray) (w:World) (R:Rt) (h:xZE R az aA dd [] w):Calls prog 152 #[.agg #[.int .i64 az,.int .i64 aA,.string dd]] w R:=
 plC F152_p func152 h
def xXo(R:Rt)(n0:Int)(ds:Ds)(w:World):Prop:=
 Br (decide (n0 >= (-1000000000000000))) (
 zQe prog ds w λw1=>
 R (.returned (.bool (decide (n0<=1000000000000000)))) w1) (
 zQe prog ds w λw2=>
 R (.returned (.bool false)) w2)
theorem F158_p:Pl prog f158 [iS 0] xXo:=λR=>
 lf
theorem yZW (n0:Int) (w:World) (R:Rt) (h:xXo R n0 [] w):Calls prog 158 #[.int .i64 n0] w R:=
 plC F158_p func158 h
def xXM(R:Rt)(n0:Int)(ds:Ds)(w:World):Prop:=
 Br (decide (n0 >= 0)) (
 zQe prog ds w λw1=>
 R (.returned (.bool (decide (n0<=3652059)))) w1) (
 zQe prog ds w λw2=>
 R (.returned (.bool false)) w2)
theorem F188_p:Pl prog f188 [iS 0] xXM:=λR=>
 lf
theorem yZ7 (n0:Int) (w:World) (R:Rt) (h:xXM R n0 [] w):Calls prog 188 #[.int .i64 n0] w R:=
 plC F188_p func188 h
def zVn(R:Rt)(p1:Option Addr)(b3:Bool)(ds:Ds)(w:World):Prop:=
 Br (!b3) (
 zQe prog ds w λw1=>
 R (.returned (.int .i64 1)) w1) (
 zQi p1 λa2=>
 ∃sk,w.cell? a2=some (.int .i64 sk)/\
 Br (sk != 4) (
 zQi p1 λa3=>
 ∃s53,w.cell? (a3.add 2)=some (.string s53)/\
 Br (!(s53.toList == (⟨#[]⟩:ByteArray).toList)) (
 zQe prog ds w λw4=>
 R (.returned (.int .i64 1)) w4) (
 zQe prog ds w λw5=>
 R (.returned (.int .i64 0)) w5)) (
 zQe prog ds w λw6=>
 R (.returned (.int .i64 0)) w6))
def F45_2(R:Rt)(az aA:Int)(dd:ByteArray)(ds:Ds)(w:World):Prop:=
 alE (.cells #[.int .i64 az,.int .i64 aA,.string dd] 28) w λr1 w7=>
 ∃s5,w7.cell? ((⟨r1,0,none⟩:Addr).add 2)=some (.string s5)/\
 Br (decide ((s5.size:Int) > 2048)) (
 zQe prog ds w7 λw8=>
 R (.returned (.int .i64 3)) w8) (
 ∃n9,w7.cell? (⟨r1,0,none⟩:Addr)=some (.int .i64 n9)/\
 Br (n9 == 0) (
 ∃ba,w7.cell? ((⟨r1,0,none⟩:Addr).add 1)=some (.int .i64 ba)/\
 zVn R (some (⟨r1,0,none⟩:Addr)) (ba == 0) ds w7) (
 Br (n9 == 1) (
 ∃gS,w7.cell? ((⟨r1,0,none⟩:Addr).add 1)=some (.int .i64 gS)/\
 Br (gS == 0) (
 zVn R (some (⟨r1,0,none⟩:Addr)) true ds w7) (
 ∃fI,w7.cell? ((⟨r1,0,none⟩:Addr).add 1)=some (.int .i64 fI)/\
 zVn R (some (⟨r1,0,none⟩:Addr)) (fI == 1) ds w7)) (
 Br (n9 == 2) (
 ∃fv,w7.cell? ((⟨r1,0,none⟩:Addr).add 1)=some (.int .i64 fv)/\
 Calls prog 98 #[.int .i64 fv] w7 λe w9=>
 ∃sl:Bool,e=.returned (.bool sl)/\
 zVn R (some (⟨r1,0,none⟩:Addr)) sl ds w9) (
 Br (n9 == 3) (
 ∃ji,w7.cell? ((⟨r1,0,none⟩:Addr).add 1)=some (.int .i64 ji)/\
 Br (decide (ji >= 0)) (
 ∃gX,w7.cell? ((⟨r1,0,none⟩:Addr).add 1)=some (.int .i64 gX)/\
 zVn R (some (⟨r1,0,none⟩:Addr)) (decide (gX<=3652059)) ds w7) (
 zVn R (some (⟨r1,0,none⟩:Addr)) false ds w7)) (
 Br (n9 == 4) (
 ∃sm,w7.cell? ((⟨r1,0,none⟩:Addr).add 1)=some (.int .i64 sm)/\
 zVn R (some (⟨r1,0,none⟩:Addr)) (sm == 0) ds w7) (
 zVn R (some (⟨r1,0,none⟩:Addr)) false ds w7))))))
theorem F45_p:Pl prog f45 [aS 0 [.int .i64,.int .i64,.str]] F45_2:=λR=>
 pc 6 (zQz [pS 1,bS 3] (zVn R) lf)
theorem yW4 (az aA:Int) (dd:ByteArray) (w:World) (R:Rt) (h:F45_2 R az aA dd [] w):Calls prog 45 #[.agg #[.int .i64 az,.int .i64 aA,.string dd]] w R:=
 plC F45_p func45 h
def F98_1(R:Rt)(n0:Int)(ds:Ds)(w:World):Prop:=
 Br (decide (n0 >= (-1000000000000000))) (
 zQe prog ds w λw1=>
 R (.returned (.bool (decide (n0<=1000000000000000)))) w1) (
 zQe prog ds w λw2=>
 R (.returned (.bool false)) w2)
theorem F98_p:Pl prog f98 [iS 0] F98_1:=λR=>
 lf
theorem yKB (n0:Int) (w:World) (R:Rt) (h:F98_1 R n0 [] w):Calls prog 98 #[.int .i64 n0] w R:=
 plC F98_p func98 h
end Go.Proofs.YtcihcbfcgjepfaaGreatDoor
/- Shallow texts of functions, printed by program, each checked by the kernel against the loaded code. No condition. -/
namespace Go.Proofs.YtcihcbfcgjepfaaGreatDoor
open Go.Sh Tryz
def yXT(R:Rt)(p1 p3:Option Addr)(b4:Bool)(ds:Ds)(w:World):Prop:=
 Br b4 (
 zQi p1 λa1=>
 ∃s15,w.cell? a1=some (.string s15)/\
 Calls prog 151 #[.string s15] w λe w2=>
 ∃kY:Bool,e=.returned (.bool kY)/\
 Br kY (
 zQi p1 λa3=>
 ∃fD,w2.cell? (a3.add 2)=some (.int .i64 fD)/\
 zQi p3 λa4=>
 ∃fI,w2.cell? (a4.add 1)=some (.int .i64 fI)/\
 Br (decide (fD >= fI)) (
 zQi p1 λa5=>
 ∃rj,w2.cell? (a5.add 2)=some (.int .i64 rj)/\
 zQi p3 λa6=>
 ∃vC,w2.cell? (a6.add 2)=some (.int .i64 vC)/\
 zQe prog ds w2 λw7=>
 R (.returned (.bool (decide (rj<=vC)))) w7) (
 zQe prog ds w2 λw8=>
 R (.returned (.bool false)) w8)) (
 zQe prog ds w2 λw9=>
 R (.returned (.bool false)) w9)) (
 zQe prog ds w λau=>
 R (.returned (.bool false)) au)
def xZ9(R:Rt)(aL:ByteArray)(aA aK:Int)(aM:Bool)(ds:Ds)(w:World):Prop:=
 alE (.cells #[.string aL,.int .i64 aA,.int .i64 aK,.bool aM] 38) w λr1 av=>
 dwE av λao=>
 ∃S1:World->Prop,S1 ao/\
 ∃n8,(∀w',S1 w'->w'.cell? ((⟨r1,0,none⟩:Addr).add 1)=some (.int .i64 n8))/\
 (
 Calls prog 150 #[] ao λe aE=>
 ∃m6:Option Nat,e=.returned (.map m6)/\
 ∃S2:World->Prop,S2 aE/\(∀u,S2 u->S1 u)/\
 ∃jZ:Int,∃j0:Int,∃j1:Int,∃j2:Value,∃j3:Value,∃sn:Bool,(∀w',S2 w'->(Instr.lookup 186 (.map m6) (.int .i64 n8) true).run prog w'=.ok (.tuple #[.agg #[.int .u8 jZ,.int .i64 j0,.int .i64 j1,j2,j3],.bool sn]) w')/\
 alE (.cells #[.int .u8 0,.int .i64 0,.int .i64 0,.nilFunc,.nilFunc] 184) aE λr3 aI=>
 ∃S3:World->Prop,S3 aI/\(∀u,S3 u->S2 u)/\
 stA prog 184 (⟨r3,0,none⟩:Addr) #[.int .u8 jZ,.int .i64 j0,.int .i64 j1,j2,j3] aI λaD=>
 yXT R (some (⟨r1,0,none⟩:Addr)) (some (⟨r3,0,none⟩:Addr)) sn ds aD)/\(
 alE (.cells #[.int .u8 0,.int .i64 0,.int .i64 0,.nilFunc,.nilFunc] 184) ao λr3 aU=>
 ∃S4:World->Prop,S4 aU/\(∀u,S4 u->S1 u)/\
 Calls prog 150 #[] aU λe br=>
 ∃m6:Option Nat,e=.returned (.map m6)/\
 ∃S5:World->Prop,S5 br/\(∀u,S5 u->S4 u)/\
 ∃jZ:Int,∃j0:Int,∃j1:Int,∃j2:Value,∃j3:Value,∃sn:Bool,(∀w',S5 w'->(Instr.lookup 186 (.map m6) (.int .i64 n8) true).run prog w'=.ok (.tuple #[.agg #[.int .u8 jZ,.int .i64 j0,.int .i64 j1,j2,j3],.bool sn]) w')/\
 stA prog 184 (⟨r3,0,none⟩:Addr) #[.int .u8 jZ,.int .i64 j0,.int .i64 j1,j2,j3] br λbD=>
 yXT R (some (⟨r1,0,none⟩:Addr)) (some (⟨r3,0,none⟩:Addr)) sn ds bD)
theorem F106_p:Pl prog f106 [aS 0 [.str,.int .i64,.int .i64,.bool]] xZ9:=λR=>
 pc 2 (zQz [pS 1,pS 3,bS 4] (yXT R) lf)
theorem yJt (aL:ByteArray) (aA aK:Int) (aM:Bool) (w:World) (R:Rt) (h:xZ9 R aL aA aK aM [] w):Calls prog 106 #[.agg #[.string aL,.int .i64 aA,.int .i64 aK,.bool aM]] w R:=
 plC F106_p func106 h
def yVl(R:Rt)(s0:ByteArray)(ds:Ds)(w:World):Prop:=
 Br (!(s0.toList == (⟨#[]⟩:ByteArray).toList)) (
 Br (decide ((s0.size:Int)<=10)) (
 Calls prog 187 #[.string s0,.string (⟨#[65,66,67,68,69,70,71,72,73,74,75,76,77,78,79,80,81,82,83,84,85,86,87,88,89,90,48,49,50,51,52,53,54,55,56,57,95]⟩:ByteArray)] w λe w1=>
 ∃u3:ByteArray,e=.returned (.string u3)/\
 Br (u3.toList == (⟨#[]⟩:ByteArray).toList) (
 ∃b17:UInt8,0<=(0:Int)/\s0[(0:Int).toNat]?=some b17/\
 Br (decide ((b17.toNat:Int) >= 65)) (
 ∃kK:UInt8,0<=(0:Int)/\s0[(0:Int).toNat]?=some kK/\
 zQe prog ds w1 λw2=>
 R (.returned (.bool (decide ((kK.toNat:Int)<=90)))) w2) (
 zQe prog ds w1 λw3=>
 R (.returned (.bool false)) w3)) (
 zQe prog ds w1 λw4=>
 R (.returned (.bool false)) w4)) (
 zQe prog ds w λw5=>
 R (.returned (.bool false)) w5)) (
 zQe prog ds w λw6=>
 R (.returned (.bool false)) w6)
theorem F151_p:Pl prog f151 [sS 0] yVl:=λR=>
 lf
theorem yJp (s0:ByteArray) (w:World) (R:Rt) (h:yVl R s0 [] w):Calls prog 151 #[.string s0] w R:=
 plC F151_p func151 h
def xQu(R:Rt)(ds:Ds)(w:World):Prop:=
 alE (.map #[] 0) w λr1 w1=>
 doE prog (Instr.mapUpdate 186 (.map (some r1)) (.int .i64 1) (.agg #[.int .u8 76,.int .i64 1,.int .i64 1,.func (.func 177) #[] #[],.func (.func 178) #[] #[]])) w1 λw2=>
 doE prog (Instr.mapUpdate 186 (.map (some r1)) (.int .i64 2) (.agg #[.int .u8 78,.int .i64 1,.int .i64 15,.func (.func 179) #[] #[],.func (.func 180) #[] #[]])) w2 λw3=>
 doE prog (Instr.mapUpdate 186 (.map (some r1)) (.int .i64 3) (.agg #[.int .u8 68,.int .i64 8,.int .i64 8,.func (.func 181) #[] #[],.func (.func 182) #[] #[]])) w3 λw4=>
 doE prog (Instr.mapUpdate 186 (.map (some r1)) (.int .i64 4) (.agg #[.int .u8 67,.int .i64 1,.int .i64 254,.func (.func 183) #[] #[],.func (.func 184) #[] #[]])) w4 λw5=>
 doE prog (Instr.mapUpdate 186 (.map (some r1)) (.int .i64 5) (.agg #[.int .u8 77,.int .i64 8,.int .i64 8,.func (.func 185) #[] #[],.func (.func 186) #[] #[]])) w5 λw6=>
 zQe prog ds w6 λw7=>
 R (.returned (.map (some r1))) w7
theorem F150_p:Pl prog f150 [] xQu:=λR=>
 lf
theorem yZ4  (w:World) (R:Rt) (h:xQu R [] w):Calls prog 150 #[] w R:=
 plC F150_p func150 h
def F92_1(R:Rt)(n0:Int)(ds:Ds)(w:World):Prop:=
 Br (decide (n0 >= 0)) (
 zQe prog ds w λw1=>
 R (.returned (.bool (decide (n0<=2)))) w1) (
 zQe prog ds w λw2=>
 R (.returned (.bool false)) w2)
theorem F92_p:Pl prog f92 [iS 0] F92_1:=λR=>
 lf
theorem yVZ (n0:Int) (w:World) (R:Rt) (h:F92_1 R n0 [] w):Calls prog 92 #[.int .i64 n0] w R:=
 plC F92_p func92 h
def F44_1(R:Rt)(aL:ByteArray)(aA aK:Int)(aM:Bool)(ds:Ds)(w:World):Prop:=
 alE (.cells #[.string aL,.int .i64 aA,.int .i64 aK,.bool aM] 38) w λr1 w1=>
 ∃s4,w1.cell? (⟨r1,0,none⟩:Addr)=some (.string s4)/\
 Calls prog 97 #[.string s4] w1 λe w2=>
 ∃b5:Bool,e=.returned (.bool b5)/\
 Br (!b5) (
 zQe prog ds w2 λw3=>
 R (.returned (.bool false)) w3) (
 ∃n8,w2.cell? ((⟨r1,0,none⟩:Addr).add 1)=some (.int .i64 n8)/\
 Br (n8 == 1) (
 ∃fo,w2.cell? ((⟨r1,0,none⟩:Addr).add 2)=some (.int .i64 fo)/\
 zQe prog ds w2 λw4=>
 R (.returned (.bool (fo == 1))) w4) (
 Br (n8 == 2) (
 ∃jU,w2.cell? ((⟨r1,0,none⟩:Addr).add 2)=some (.int .i64 jU)/\
 Br (decide (jU >= 1)) (
 ∃qh,w2.cell? ((⟨r1,0,none⟩:Addr).add 2)=some (.int .i64 qh)/\
 zQe prog ds w2 λw5=>
 R (.returned (.bool (decide (qh<=15)))) w5) (
 zQe prog ds w2 λw6=>
 R (.returned (.bool false)) w6)) (
 Br (n8 == 3) (
 Br (n8 == 3) (
 ∃fv,w2.cell? ((⟨r1,0,none⟩:Addr).add 2)=some (.int .i64 fv)/\
 zQe prog ds w2 λw7=>
 R (.returned (.bool (fv == 8))) w7) (
 Br (n8 == 4) (
 ∃ji,w2.cell? ((⟨r1,0,none⟩:Addr).add 2)=some (.int .i64 ji)/\
 Br (decide (ji >= 1)) (
 ∃gX,w2.cell? ((⟨r1,0,none⟩:Addr).add 2)=some (.int .i64 gX)/\
 zQe prog ds w2 λw8=>
 R (.returned (.bool (decide (gX<=254)))) w8) (
 zQe prog ds w2 λw9=>
 R (.returned (.bool false)) w9)) (
 zQe prog ds w2 λau=>
 R (.returned (.bool false)) au))) (
 Br (n8 == 5) (
 ∃fv,w2.cell? ((⟨r1,0,none⟩:Addr).add 2)=some (.int .i64 fv)/\
 zQe prog ds w2 λav=>
 R (.returned (.bool (fv == 8))) av) (
 Br (n8 == 4) (
 ∃ji,w2.cell? ((⟨r1,0,none⟩:Addr).add 2)=some (.int .i64 ji)/\
 Br (decide (ji >= 1)) (
 ∃gX,w2.cell? ((⟨r1,0,none⟩:Addr).add 2)=some (.int .i64 gX)/\
 zQe prog ds w2 λao=>
 R (.returned (.bool (decide (gX<=254)))) ao) (
 zQe prog ds w2 λaE=>
 R (.returned (.bool false)) aE)) (
 zQe prog ds w2 λaI=>
 R (.returned (.bool false)) aI))))))
theorem F44_p:Pl prog f44 [aS 0 [.str,.int .i64,.int .i64,.bool]] F44_1:=λR=>
 lf
theorem yWZ (aL:ByteArray) (aA aK:Int) (aM:Bool) (w:World) (R:Rt) (h:F44_1 R aL aA aK aM [] w):Calls prog 44 #[.agg #[.string aL,.int .i64 aA,.int .i64 aK,.bool aM]] w R:=
 plC F44_p func44 h
def F41_1(R:Rt)(n0:Int)(ds:Ds)(w:World):Prop:=
 Br (decide (n0 >= 0)) (
 zQe prog ds w λw1=>
 R (.returned (.bool (decide (n0<=2)))) w1) (
 zQe prog ds w λw2=>
 R (.returned (.bool false)) w2)
theorem F41_p:Pl prog f41 [iS 0] F41_1:=λR=>
 lf
theorem yW6 (n0:Int) (w:World) (R:Rt) (h:F41_1 R n0 [] w):Calls prog 41 #[.int .i64 n0] w R:=
 plC F41_p func41 h
def F97_1(R:Rt)(ds:Ds)(w:World):Prop:=
 zQe prog ds w λw1=>
 R (.returned (.bool true)) w1
def zYy (R:Rt) (J1:(Int)->World->Prop) (s0:ByteArray) (n3:Int) (ds:Ds) (w:World):Prop:=
 J1 (IntKind.i64.wrap (n3+1)) w
def F97_3 (R:Rt) (J1:(Int)->World->Prop) (s0:ByteArray) (n3:Int) (ds:Ds) (w:World):Prop:=
 ∃kK:UInt8,0<=n3/\s0[n3.toNat]?=some kK/\
 Br (decide ((kK.toNat:Int) >= 65)) (
 Br (!(decide ((kK.toNat:Int)<=90))) (
 Br (n3 == 0) (
 zQe prog ds w λw2=>
 R (.returned (.bool false)) w2) (
 Br ((kK.toNat:Int) != 95) (
 Calls prog 148 #[.int .u8 (kK.toNat:Int)] w λe w3=>
 ∃wE:Bool,e=.returned (.bool wE)/\
 Br (!wE) (
 zQe prog ds w3 λw4=>
 R (.returned (.bool false)) w4) (
 zYy R J1 s0 n3 ds w3)) (
 zYy R J1 s0 n3 ds w))) (
 zYy R J1 s0 n3 ds w)) (
 Br (n3 == 0) (
 zQe prog ds w λw5=>
 R (.returned (.bool false)) w5) (
 Br ((kK.toNat:Int) != 95) (
 Calls prog 148 #[.int .u8 (kK.toNat:Int)] w λe w6=>
 ∃wE:Bool,e=.returned (.bool wE)/\
 Br (!wE) (
 zQe prog ds w6 λw7=>
 R (.returned (.bool false)) w7) (
 zYy R J1 s0 n3 ds w6)) (
 zYy R J1 s0 n3 ds w)))
def F97_4 (R:Rt) (J1:(Int)->World->Prop) (s0:ByteArray) (n3:Int) (ds:Ds) (w:World):Prop:=
 Br (decide (n3<(s0.size:Int))) (
 F97_3 R J1 s0 n3 ds w) (
 F97_1 R ds w)
def F97_5(R:Rt)(s0:ByteArray)(n3:Int)(ds:Ds)(w:World):Prop:=
 zQ8 (λ(J1:(Int)->World->Prop) (s:Int) (w:World)=>F97_4 R J1 s0 s ds w) n3 w
def F97_7(R:Rt)(s0:ByteArray)(ds:Ds)(w:World):Prop:=
 Br (decide ((s0.size:Int)<1)) (
 zQe prog ds w λw8=>
 R (.returned (.bool false)) w8) (
 Br (decide ((s0.size:Int) > 10)) (
 zQe prog ds w λw9=>
 R (.returned (.bool false)) w9) (
 F97_5 R s0 0 ds w))
theorem F97_p:Pl prog f97 [sS 0] F97_7:=λR=>
 pc 4 (zQz [sS 0,iS 3] (F97_5 R) (bk 0 (zQz [] (F97_1 R) lf) (lp [iS 3] [sS 0,iS 3] (F97_4 R) zXs λJ1=>pc 2 (zQz [sS 0,iS 3] (F97_3 R J1) (pc 1 (zQz [sS 0,iS 3] (zYy R J1) lf))))))
theorem yWi (s0:ByteArray) (w:World) (R:Rt) (h:F97_7 R s0 [] w):Calls prog 97 #[.string s0] w R:=
 plC F97_p func97 h
def xZt(R:Rt)(n0:Int)(ds:Ds)(w:World):Prop:=
 Br (decide (n0 >= 48)) (
 zQe prog ds w λw1=>
 R (.returned (.bool (decide (n0<=57)))) w1) (
 zQe prog ds w λw2=>
 R (.returned (.bool false)) w2)
theorem F148_p:Pl prog f148 [kS .u8 0] xZt:=λR=>
 lf
theorem yJ0 (n0:Int) (w:World) (R:Rt) (h:xZt R n0 [] w):Calls prog 148 #[.int .u8 n0] w R:=
 plC F148_p func148 h
def xZh(R:Rt)(aL:ByteArray)(aA aK:Int)(aM:Bool)(ds:Ds)(w:World):Prop:=
 alE (.cells #[.string aL,.int .i64 aA,.int .i64 aK,.bool aM] 38) w λr1 w1=>
 alE (.cells #[.int .i64 0,.int .i64 0,.string (⟨#[]⟩:ByteArray)] 28) w1 λr2 w2=>
 ∃n4,w2.cell? ((⟨r1,0,none⟩:Addr).add 1)=some (.int .i64 n4)/\
 Br (n4 == 5) (
 stA prog 28 (⟨r2,0,none⟩:Addr) #[.int .i64 2,.int .i64 0,.string (⟨#[]⟩:ByteArray)] w2 λw3=>
 zQe prog ds w3 λw4=>
 ∃aa,w4.cell? ((⟨r2,0,none⟩:Addr).add 0)=some (.int .i64 aa)/\
 ∃ac,w4.cell? ((⟨r2,0,none⟩:Addr).add 1)=some (.int .i64 ac)/\
 ∃ae,w4.cell? ((⟨r2,0,none⟩:Addr).add 2)=some (.string ae)/\
 R (.returned (.agg #[.int .i64 aa,.int .i64 ac,.string ae])) w4) (
 ∃n8,w2.cell? ((⟨r1,0,none⟩:Addr).add 1)=some (.int .i64 n8)/\
 stA prog 28 (⟨r2,0,none⟩:Addr) #[.int .i64 n8,.int .i64 0,.string (⟨#[]⟩:ByteArray)] w2 λw5=>
 zQe prog ds w5 λw6=>
 ∃aa,w6.cell? ((⟨r2,0,none⟩:Addr).add 0)=some (.int .i64 aa)/\
 ∃ac,w6.cell? ((⟨r2,0,none⟩:Addr).add 1)=some (.int .i64 ac)/\
 ∃ae,w6.cell? ((⟨r2,0,none⟩:Addr).add 2)=some (.string ae)/\
 R (.returned (.agg #[.int .i64 aa,.int .i64 ac,.string ae])) w6)
theorem F108_p:Pl prog f108 [aS 0 [.str,.int .i64,.int .i64,.bool]] xZh:=λR=>
 lf
theorem yJc (aL:ByteArray) (aA aK:Int) (aM:Bool) (w:World) (R:Rt) (h:xZh R aL aA aK aM [] w):Calls prog 108 #[.agg #[.string aL,.int .i64 aA,.int .i64 aK,.bool aM]] w R:=
 plC F108_p func108 h
def xX0(R:Rt)(aL:ByteArray)(aA aK:Int)(aM:Bool)(ds:Ds)(w:World):Prop:=
 alE (.cells #[.string aL,.int .i64 aA,.int .i64 aK,.bool aM] 38) w λr1 w1=>
 alE (.cells #[.int .i64 0,.int .i64 0,.string (⟨#[]⟩:ByteArray)] 28) w1 λr2 w2=>
 ∃n4,w2.cell? ((⟨r1,0,none⟩:Addr).add 1)=some (.int .i64 n4)/\
 Br (n4 == 5) (
 Calls prog 37 #[.int .i64 0] w2 λe w3=>
 ∃sq:Int,∃n6_1:Int,∃s6_2:ByteArray,e=.returned (.agg #[.int .i64 sq,.int .i64 n6_1,.string s6_2])/\
 stA prog 28 (⟨r2,0,none⟩:Addr) #[.int .i64 sq,.int .i64 n6_1,.string s6_2] w3 λw4=>
 zQe prog ds w4 λw5=>
 ∃aa,w5.cell? ((⟨r2,0,none⟩:Addr).add 0)=some (.int .i64 aa)/\
 ∃ac,w5.cell? ((⟨r2,0,none⟩:Addr).add 1)=some (.int .i64 ac)/\
 ∃ae,w5.cell? ((⟨r2,0,none⟩:Addr).add 2)=some (.string ae)/\
 R (.returned (.agg #[.int .i64 aa,.int .i64 ac,.string ae])) w5) (
 ∃n8,w2.cell? ((⟨r1,0,none⟩:Addr).add 1)=some (.int .i64 n8)/\
 stA prog 28 (⟨r2,0,none⟩:Addr) #[.int .i64 n8,.int .i64 0,.string (⟨#[]⟩:ByteArray)] w2 λw6=>
 zQe prog ds w6 λw7=>
 ∃aa,w7.cell? ((⟨r2,0,none⟩:Addr).add 0)=some (.int .i64 aa)/\
 ∃ac,w7.cell? ((⟨r2,0,none⟩:Addr).add 1)=some (.int .i64 ac)/\
 ∃ae,w7.cell? ((⟨r2,0,none⟩:Addr).add 2)=some (.string ae)/\
 R (.returned (.agg #[.int .i64 aa,.int .i64 ac,.string ae])) w7)
theorem F163_p:Pl prog f163 [aS 0 [.str,.int .i64,.int .i64,.bool]] xX0:=λR=>
 lf
theorem yJ2 (aL:ByteArray) (aA aK:Int) (aM:Bool) (w:World) (R:Rt) (h:xX0 R aL aA aK aM [] w):Calls prog 163 #[.agg #[.string aL,.int .i64 aA,.int .i64 aK,.bool aM]] w R:=
 plC F163_p func163 h
end Go.Proofs.YtcihcbfcgjepfaaGreatDoor
/- Shallow texts of functions, printed by program, each checked by the kernel against the loaded code. No condition. -/
namespace Go.Proofs.YtcihcbfcgjepfaaGreatDoor
open Go.Sh Tryz
def yWS(R:Rt)(n1:Int)(s6:ByteArray)(ds:Ds)(w:World):Prop:=
 Calls prog 160 #[.string (⟨#[32]⟩:ByteArray),.int .i64 (IntKind.i64.wrap (n1 - (s6.size:Int)))] w λe w1=>
 ∃s30:ByteArray,e=.returned (.string s30)/\
 ((s30.size+s6.size:Nat):Int)<=9223372036854775807/\
 zQe prog ds w1 λw2=>
 R (.returned (.tuple #[.string (s30 ++ s6),.int .i64 0])) w2
def xZ0(R:Rt)(n0 n1:Int)(ds:Ds)(w:World):Prop:=
 Calls prog 158 #[.int .i64 n0] w λe w3=>
 ∃b8:Bool,e=.returned (.bool b8)/\
 Br (!b8) (
 zQe prog ds w3 λw4=>
 R (.returned (.tuple #[.string (⟨#[]⟩:ByteArray),.int .i64 1])) w4) (
 Br (decide (n1<1)) (
 zQe prog ds w3 λw5=>
 R (.returned (.tuple #[.string (⟨#[]⟩:ByteArray),.int .i64 1])) w5) (
 Br (decide (n1 > 254)) (
 zQe prog ds w3 λw6=>
 R (.returned (.tuple #[.string (⟨#[]⟩:ByteArray),.int .i64 1])) w6) (
 Calls prog 159 #[.int .i64 n0] w3 λe w7=>
 ∃nk:ByteArray,e=.returned (.string nk)/\
 Br (decide ((nk.size:Int) > n1)) (
 Calls prog 160 #[.string (⟨#[42]⟩:ByteArray),.int .i64 n1] w7 λe w8=>
 ∃s25:ByteArray,e=.returned (.string s25)/\
 zQe prog ds w8 λw9=>
 R (.returned (.tuple #[.string s25,.int .i64 0])) w9) (
 yWS R n1 nk ds w7))))
theorem F111_p:Pl prog f111 [iS 0,iS 1] xZ0:=λR=>
 pc 6 (zQz [iS 1,sS 6] (yWS R) lf)
theorem yZ3 (n0 n1:Int) (w:World) (R:Rt) (h:xZ0 R n0 n1 [] w):Calls prog 111 #[.int .i64 n0,.int .i64 n1] w R:=
 plC F111_p func111 h
def xQ2(R:Rt)(n0:Int)(ds:Ds)(w:World):Prop:=
 Br (decide (n0<0)) (
 Calls prog 159 #[.int .i64 (IntKind.i64.wrap (0 - n0))] w λe w1=>
 ∃s8:ByteArray,e=.returned (.string s8)/\
 (((⟨#[45]⟩:ByteArray).size+s8.size:Nat):Int)<=9223372036854775807/\
 zQe prog ds w1 λw2=>
 R (.returned (.string ((⟨#[45]⟩:ByteArray) ++ s8))) w2) (
 Br (decide (n0<10)) (
 0<=(IntKind.i64.wrap (n0+1))/\(IntKind.i64.wrap (n0+1)).toNat<=(⟨#[48,49,50,51,52,53,54,55,56,57]⟩:ByteArray).size/\0<=n0/\n0.toNat<=(IntKind.i64.wrap (n0+1)).toNat/\
 zQe prog ds w λw3=>
 R (.returned (.string ((⟨#[48,49,50,51,52,53,54,55,56,57]⟩:ByteArray).extract n0.toNat ((IntKind.i64.wrap (n0+1)).toNat)))) w3) (
 dwE w λw4=>
 IntKind.i64=IntKind.i64/\(10:Int) ≠ 0/\
 IntKind.i64=IntKind.i64/\(10:Int) ≠ 0/\
 IntKind.i64=IntKind.i64/\(10:Int) ≠ 0/\
 0<=(IntKind.i64.wrap ((n0.tmod 10)+1))/\(IntKind.i64.wrap ((n0.tmod 10)+1)).toNat<=(⟨#[48,49,50,51,52,53,54,55,56,57]⟩:ByteArray).size/\0<=(n0.tmod 10)/\(n0.tmod 10).toNat<=(IntKind.i64.wrap ((n0.tmod 10)+1)).toNat/\
 Calls prog 159 #[.int .i64 (IntKind.i64.wrap (n0.tdiv 10))] w4 λe w5=>
 ∃nk:ByteArray,e=.returned (.string nk)/\
 ((nk.size+((⟨#[48,49,50,51,52,53,54,55,56,57]⟩:ByteArray).extract ((n0.tmod 10).toNat) ((IntKind.i64.wrap ((n0.tmod 10)+1)).toNat)).size:Nat):Int)<=9223372036854775807/\
 zQe prog ds w5 λw6=>
 R (.returned (.string (nk ++ ((⟨#[48,49,50,51,52,53,54,55,56,57]⟩:ByteArray).extract ((n0.tmod 10).toNat) ((IntKind.i64.wrap ((n0.tmod 10)+1)).toNat))))) w6))
theorem F159_p:Pl prog f159 [iS 0] xQ2:=λR=>
 lf
theorem zVP (n0:Int) (w:World) (R:Rt) (h:xQ2 R n0 [] w):Calls prog 159 #[.int .i64 n0] w R:=
 plC F159_p func159 h
def xZ3(R:Rt)(n0:Int)(ds:Ds)(w:World):Prop:=
 Br (decide (n0<0)) (
 Br (n0 == (-9223372036854775808)) (
 zQe prog ds w λw1=>
 R (.returned (.string (⟨#[45,57,50,50,51,51,55,50,48,51,54,56,53,52,55,55,53,56,48,56]⟩:ByteArray))) w1) (
 Calls prog 147 #[.int .i64 (IntKind.i64.wrap (0 - n0))] w λe w2=>
 ∃s9:ByteArray,e=.returned (.string s9)/\
 (((⟨#[45]⟩:ByteArray).size+s9.size:Nat):Int)<=9223372036854775807/\
 zQe prog ds w2 λw3=>
 R (.returned (.string ((⟨#[45]⟩:ByteArray) ++ s9))) w3)) (
 Br (decide (n0<10)) (
 0<=(IntKind.i64.wrap (n0+1))/\(IntKind.i64.wrap (n0+1)).toNat<=(⟨#[48,49,50,51,52,53,54,55,56,57]⟩:ByteArray).size/\0<=n0/\n0.toNat<=(IntKind.i64.wrap (n0+1)).toNat/\
 zQe prog ds w λw4=>
 R (.returned (.string ((⟨#[48,49,50,51,52,53,54,55,56,57]⟩:ByteArray).extract n0.toNat ((IntKind.i64.wrap (n0+1)).toNat)))) w4) (
 IntKind.i64=IntKind.i64/\(10:Int) ≠ 0/\
 Calls prog 147 #[.int .i64 (IntKind.i64.wrap (n0.tdiv 10))] w λe w5=>
 ∃nk:ByteArray,e=.returned (.string nk)/\
 IntKind.i64=IntKind.i64/\(10:Int) ≠ 0/\
 Calls prog 147 #[.int .i64 (n0.tmod 10)] w5 λe w6=>
 ∃s22:ByteArray,e=.returned (.string s22)/\
 ((nk.size+s22.size:Nat):Int)<=9223372036854775807/\
 zQe prog ds w6 λw7=>
 R (.returned (.string (nk ++ s22))) w7))
theorem F147_p:Pl prog f147 [iS 0] xZ3:=λR=>
 lf
theorem zVu (n0:Int) (w:World) (R:Rt) (h:xZ3 R n0 [] w):Calls prog 147 #[.int .i64 n0] w R:=
 plC F147_p func147 h
def yJU(R:Rt)(s0:ByteArray)(n3:Int)(ds:Ds)(w:World):Prop:=
 0<=n3/\n3.toNat<=s0.size/\0<=n3.toNat/\
 zQe prog ds w λw1=>
 R (.returned (.string (s0.extract 0 n3.toNat))) w1
def F99_2 (R:Rt) (J1:(Int)->World->Prop) (s0:ByteArray) (n3:Int) (ds:Ds) (w:World):Prop:=
 Br (decide (n3 > 0)) (
 ∃wG:UInt8,0<=(IntKind.i64.wrap (n3 - 1))/\s0[(IntKind.i64.wrap (n3 - 1)).toNat]?=some wG/\
 Br ((wG.toNat:Int) == 32) (
 J1 (IntKind.i64.wrap (n3 - 1)) w) (
 yJU R s0 n3 ds w)) (
 yJU R s0 n3 ds w)
def F99_3(R:Rt)(s0:ByteArray)(n3:Int)(ds:Ds)(w:World):Prop:=
 zQ8 (λ(J1:(Int)->World->Prop) (s:Int) (w:World)=>F99_2 R J1 s0 s ds w) n3 w
def F99_5(R:Rt)(s0:ByteArray)(ds:Ds)(w:World):Prop:=
 F99_3 R s0 (s0.size:Int) ds w
theorem F99_p:Pl prog f99 [sS 0] F99_5:=λR=>
 pc 2 (zQz [sS 0,iS 3] (F99_3 R) (bk 0 (zQz [sS 0,iS 3] (yJU R) lf) (lp [iS 3] [sS 0,iS 3] (F99_2 R) zXs λJ1=>lf)))
theorem yKv (s0:ByteArray) (w:World) (R:Rt) (h:F99_5 R s0 [] w):Calls prog 99 #[.string s0] w R:=
 plC F99_p func99 h
def xZL(R:Rt)(s0:ByteArray)(ds:Ds)(w:World):Prop:=
 alE (.cells #[.int .i64 0,.int .i64 0,.string (⟨#[]⟩:ByteArray)] 28) w λr2 w1=>
 stA prog 28 (⟨r2,0,none⟩:Addr) #[.int .i64 4,.int .i64 0,.string s0] w1 λw2=>
 zQe prog ds w2 λw3=>
 ∃aa,w3.cell? ((⟨r2,0,none⟩:Addr).add 0)=some (.int .i64 aa)/\
 ∃ac,w3.cell? ((⟨r2,0,none⟩:Addr).add 1)=some (.int .i64 ac)/\
 ∃ae,w3.cell? ((⟨r2,0,none⟩:Addr).add 2)=some (.string ae)/\
 R (.returned (.agg #[.int .i64 aa,.int .i64 ac,.string ae])) w3
theorem F101_p:Pl prog f101 [sS 0] xZL:=λR=>
 lf
theorem yJH (s0:ByteArray) (w:World) (R:Rt) (h:xZL R s0 [] w):Calls prog 101 #[.string s0] w R:=
 plC F101_p func101 h
end Go.Proofs.YtcihcbfcgjepfaaGreatDoor
/- Shallow texts of functions, printed by program, each checked by the kernel against the loaded code. No condition. -/
namespace Go.Proofs.YtcihcbfcgjepfaaGreatDoor
open Go.Sh Tryz
def xZ8(R:Rt)(s0:ByteArray)(n1:Int)(ds:Ds)(w:World):Prop:=
 Calls prog 157 #[.string s0,.int .i64 n1] w λe w1=>
 ∃wH:Bool,∃kZ:Int,e=.returned (.tuple #[.bool wH,.int .i64 kZ])/\
 Br wH (
 zQe prog ds w1 λw2=>
 R (.returned (.bool (kZ == 0))) w2) (
 zQe prog ds w1 λw3=>
 R (.returned (.bool false)) w3)
theorem F110_p:Pl prog f110 [sS 0,iS 1] xZ8:=λR=>
 lf
theorem yZt (s0:ByteArray) (n1:Int) (w:World) (R:Rt) (h:xZ8 R s0 n1 [] w):Calls prog 110 #[.string s0,.int .i64 n1] w R:=
 plC F110_p func110 h
def xZb(R:Rt)(ds:Ds)(w:World):Prop:=
 zQe prog ds w λw1=>
 R (.returned (.tuple #[.bool true,.int .i64 0])) w1
def xQD (R:Rt) (J1:(Int)->World->Prop) (p7:Option Addr) (cI:SV) (fI du:Int) (ds:Ds) (w:World):Prop:=
 Br (decide (du<fI)) (
 ∃a2,cI.a=some a2/\0<=du/\du<(cI.len:Int)/\
 ∃n26,w.cell? (a2.add (du.toNat * 1))=some (.int .u8 n26)/\
 zQi p7 λa3=>
 0<=n26/\n26<(256:Int)/\
 ∃vC,w.cell? (a3.add (n26.toNat * 1))=some (.int .i32 vC)/\
 Br (decide (vC<0)) (
 zQe prog ds w λw4=>
 R (.returned (.tuple #[.bool false,.int .i64 0])) w4) (
 J1 (IntKind.i64.wrap (du+1)) w)) (
 xZb R ds w)
def xXy(R:Rt)(p7:Option Addr)(cI:SV)(fI du:Int)(ds:Ds)(w:World):Prop:=
 zQ8 (λ(J1:(Int)->World->Prop) (s:Int) (w:World)=>xQD R J1 p7 cI fI s ds w) du w
def xQ3(R:Rt)(s0:ByteArray)(n1:Int)(ds:Ds)(w:World):Prop:=
 alE (.cells #[.string s0] 9) w λrl w5=>
 Calls prog 192 #[.int .i64 n1,.slice (some ⟨rl,0,none⟩) 1 1] w5 λe w6=>
 ∃ba:Int,e=.returned (.int .i64 ba)/\
 Br (ba != 0) (
 zQe prog ds w6 λw7=>
 R (.returned (.tuple #[.bool false,.int .i64 ba])) w7) (
 Calls prog 193 #[] w6 λe w8=>
 ∃c17:Array Value,c17.size=768/\e=.returned (.agg c17)/\
 ∃c19:Array Value,c19.size=256/\∃w9,(Instr.index 215 (.agg c17) (.int .i64 n1)).run prog w8=.ok (.agg c19) w9/\
 alE (.cells (zc prog 214) 214) w9 λr7 au=>
 stA prog 214 (⟨r7,0,none⟩:Addr) c19 au λav=>
 ∃cI:SV,∃ao,(convert 9 217 (.string s0)).run prog av=.ok (cI.v) ao/\
 xXy R (some (⟨r7,0,none⟩:Addr)) cI (cI.len:Int) 0 ds ao)
theorem F157_p:Pl prog f157 [sS 0,iS 1] xQ3:=λR=>
 pc 6 (zQz [pS 7,lS 21,iS 22,iS 23] (xXy R) (bk 0 (zQz [] (xZb R) lf) (lp [iS 23] [pS 7,lS 21,iS 22,iS 23] (xQD R) zXs λJ1=>lf)))
theorem yJB (s0:ByteArray) (n1:Int) (w:World) (R:Rt) (h:xQ3 R s0 n1 [] w):Calls prog 157 #[.string s0,.int .i64 n1] w R:=
 plC F157_p func157 h
def xXh(R:Rt)(n0:Int)(ds:Ds)(w:World):Prop:=
 Br (decide (n0<0)) (
 zQe prog ds w λw1=>
 R (.returned (.int .i64 1)) w1) (
 Br (decide (n0 > 2)) (
 zQe prog ds w λw2=>
 R (.returned (.int .i64 1)) w2) (
 zQe prog ds w λw3=>
 R (.returned (.int .i64 0)) w3))
def xQz (R:Rt) (J1:(Int)->World->Prop) (n0:Int) (l7:SV) (n8 n9:Int) (ds:Ds) (w:World):Prop:=
 Br (decide (n9<n8)) (
 ∃a4,l7.a=some a4/\0<=n9/\n9<(l7.len:Int)/\
 ∃u3,w.cell? (a4.add (n9.toNat * 1))=some (.string u3)/\
 Br (decide ((u3.size:Int) > 2048)) (
 zQe prog ds w λw5=>
 R (.returned (.int .i64 3)) w5) (
 J1 (IntKind.i64.wrap (n9+1)) w)) (
 xXh R n0 ds w)
def xZD(R:Rt)(n0:Int)(l7:SV)(n8 n9:Int)(ds:Ds)(w:World):Prop:=
 zQ8 (λ(J1:(Int)->World->Prop) (s:Int) (w:World)=>xQz R J1 n0 l7 n8 s ds w) n9 w
def xXF(R:Rt)(n0:Int)(l1:SV)(ds:Ds)(w:World):Prop:=
 xZD R n0 l1 (l1.len:Int) 0 ds w
theorem F192_p:Pl prog f192 [iS 0,lS 1] xXF:=λR=>
 pc 2 (zQz [iS 0,lS 7,iS 8,iS 9] (xZD R) (bk 0 (zQz [iS 0] (xXh R) lf) (lp [iS 9] [iS 0,lS 7,iS 8,iS 9] (xQz R) zXs λJ1=>lf)))
theorem yJ6 (n0:Int) (l1:SV) (w:World) (R:Rt) (h:xXF R n0 l1 [] w):Calls prog 192 #[.int .i64 n0,l1.v] w R:=
 plC F192_p func192 h
def yWR(R:Rt)(p0 p1:Option Addr)(ds:Ds)(w:World):Prop:=
 zQi p1 λa1=>
 ∃c48:Array Value,c48.size=768/\(∀i,i<768->w.cell? (a1.add i)=c48[i]?)/\
 zQi p0 λa2=>
 stA prog 215 a2 c48 w λw3=>
 zQe prog ds w3 λw4=>
 zQi p0 λa5=>
 ∃cR0:Array Value,cR0.size=768/\(∀i,i<768->w4.cell? (a5.add i)=cR0[i]?)/\
 R (.returned (.agg cR0)) w4
def xXB (R:Rt) (J1:(Int)->World->Prop) (p0 p1:Option Addr) (n5:Int) (ds:Ds) (w:World):Prop:=
 Br (decide (n5<=239)) (
 zQi p1 λa6=>
 0<=(2:Int)/\(2:Int)<(3:Int)/\
 0<=n5/\n5<(256:Int)/\
 st1 ((a6.add ((2:Int).toNat * 256)).add (n5.toNat * 1)) (.int .i32 (IntKind.i32.wrap ((1088:Int)+(IntKind.i32.wrap (IntKind.i64.wrap (n5 - 224)))))) w λw7=>
 J1 (IntKind.i64.wrap (n5+1)) w7) (
 yWR R p0 p1 ds w)
def xXV(R:Rt)(p0 p1:Option Addr)(n5:Int)(ds:Ds)(w:World):Prop:=
 zQ8 (λ(J1:(Int)->World->Prop) (s:Int) (w:World)=>xXB R J1 p0 p1 s ds w) n5 w
def xZC(R:Rt)(p0 p1:Option Addr)(ds:Ds)(w:World):Prop:=
 xXV R p0 p1 224 ds w
def xXX (R:Rt) (J1:(Int)->World->Prop) (p0 p1:Option Addr) (n4:Int) (ds:Ds) (w:World):Prop:=
 Br (decide (n4<=175)) (
 zQi p1 λa8=>
 0<=(2:Int)/\(2:Int)<(3:Int)/\
 0<=n4/\n4<(256:Int)/\
 st1 ((a8.add ((2:Int).toNat * 256)).add (n4.toNat * 1)) (.int .i32 (IntKind.i32.wrap ((1040:Int)+(IntKind.i32.wrap (IntKind.i64.wrap (n4 - 128)))))) w λw9=>
 J1 (IntKind.i64.wrap (n4+1)) w9) (
 xZC R p0 p1 ds w)
def xJc(R:Rt)(p0 p1:Option Addr)(n4:Int)(ds:Ds)(w:World):Prop:=
 zQ8 (λ(J1:(Int)->World->Prop) (s:Int) (w:World)=>xXX R J1 p0 p1 s ds w) n4 w
def xQP(R:Rt)(p0 p1:Option Addr)(ds:Ds)(w:World):Prop:=
 xJc R p0 p1 128 ds w
def yWd (R:Rt) (J1:(Int)->World->Prop) (p0 p1:Option Addr) (n6:Int) (ds:Ds) (w:World):Prop:=
 Br (decide (n6<256)) (
 zQi p1 λcW=>
 0<=(1:Int)/\(1:Int)<(3:Int)/\
 0<=n6/\n6<(256:Int)/\
 st1 ((cW.add ((1:Int).toNat * 256)).add (n6.toNat * 1)) (.int .i32 (IntKind.i32.wrap n6)) w λav=>
 Br (decide (n6 >= 128)) (
 zQi p1 λgL=>
 0<=(0:Int)/\(0:Int)<(3:Int)/\
 0<=n6/\n6<(256:Int)/\
 st1 ((gL.add ((0:Int).toNat * 256)).add (n6.toNat * 1)) (.int .i32 (-1)) av λaE=>
 zQi p1 λfi=>
 0<=(2:Int)/\(2:Int)<(3:Int)/\
 0<=n6/\n6<(256:Int)/\
 st1 ((fi.add ((2:Int).toNat * 256)).add (n6.toNat * 1)) (.int .i32 (-1)) aE λaD=>
 J1 (IntKind.i64.wrap (n6+1)) aD) (
 zQi p1 λna=>
 0<=(0:Int)/\(0:Int)<(3:Int)/\
 0<=n6/\n6<(256:Int)/\
 st1 ((na.add ((0:Int).toNat * 256)).add (n6.toNat * 1)) (.int .i32 (IntKind.i32.wrap n6)) av λbr=>
 zQi p1 λk6=>
 0<=(2:Int)/\(2:Int)<(3:Int)/\
 0<=n6/\n6<(256:Int)/\
 st1 ((k6.add ((2:Int).toNat * 256)).add (n6.toNat * 1)) (.int .i32 (IntKind.i32.wrap n6)) br λbE=>
 J1 (IntKind.i64.wrap (n6+1)) bE)) (
 xQP R p0 p1 ds w)
def yVn(R:Rt)(p0 p1:Option Addr)(n6:Int)(ds:Ds)(w:World):Prop:=
 zQ8 (λ(J1:(Int)->World->Prop) (s:Int) (w:World)=>yWd R J1 p0 p1 s ds w) n6 w
def yYd(R:Rt)(ds:Ds)(w:World):Prop:=
 alE (.cells (zc prog 215) 215) w λr0 cX=>
 alE (.cells (zc prog 215) 215) cX λr1 cO=>
 yVn R (some (⟨r0,0,none⟩:Addr)) (some (⟨r1,0,none⟩:Addr)) 0 ds cO
theorem F193_p:Pl prog f193 [] yYd:=λR=>
 pc 3 (zQz [pS 0,pS 1,iS 6] (yVn R) (bk 0 (zQz [pS 0,pS 1] (xQP R) (pc 1 (zQz [pS 0,pS 1,iS 4] (xJc R) (bk 2 (zQz [pS 0,pS 1] (xZC R) (pc 1 (zQz [pS 0,pS 1,iS 5] (xXV R) (bk 4 (zQz [pS 0,pS 1] (yWR R) lf) (lp [iS 5] [pS 0,pS 1,iS 5] (xXB R) zXs λJ1=>lf))))) (lp [iS 4] [pS 0,pS 1,iS 4] (xXX R) zXs λJ1=>lf))))) (lp [iS 6] [pS 0,pS 1,iS 6] (yWd R) zXs λJ1=>lf)))
theorem yJK  (w:World) (R:Rt) (h:yYd R [] w):Calls prog 193 #[] w R:=
 plC F193_p func193 h
def xZo(R:Rt)(ds:Ds)(w:World):Prop:=
 zQe prog ds w λw1=>
 R (.returned (.bool true)) w1
def xZZ (R:Rt) (J1:(Int)->World->Prop) (s0:ByteArray) (n1 n5:Int) (ds:Ds) (w:World):Prop:=
 Br (decide (n5<(s0.size:Int))) (
 ∃ld:UInt8,0<=n5/\s0[n5.toNat]?=some ld/\
 Calls prog 149 #[.int .u8 (ld.toNat:Int),.int .i64 n1] w λe w2=>
 ∃kY:Bool,e=.returned (.bool kY)/\
 Br (!kY) (
 zQe prog ds w2 λw3=>
 R (.returned (.bool false)) w3) (
 J1 (IntKind.i64.wrap (n5+1)) w2)) (
 xZo R ds w)
def xQC(R:Rt)(s0:ByteArray)(n1 n5:Int)(ds:Ds)(w:World):Prop:=
 zQ8 (λ(J1:(Int)->World->Prop) (s:Int) (w:World)=>xZZ R J1 s0 n1 s ds w) n5 w
def xQK(R:Rt)(s0:ByteArray)(n1:Int)(ds:Ds)(w:World):Prop:=
 xQC R s0 n1 0 ds w
theorem F100_p:Pl prog f100 [sS 0,iS 1] xQK:=λR=>
 pc 2 (zQz [sS 0,iS 1,iS 5] (xQC R) (bk 0 (zQz [] (xZo R) lf) (lp [iS 5] [sS 0,iS 1,iS 5] (xZZ R) zXs λJ1=>lf)))
theorem yJx (s0:ByteArray) (n1:Int) (w:World) (R:Rt) (h:xQK R s0 n1 [] w):Calls prog 100 #[.string s0,.int .i64 n1] w R:=
 plC F100_p func100 h
def xZz(R:Rt)(n0 n1:Int)(ds:Ds)(w:World):Prop:=
 Br (n1 == 0) (
 zQe prog ds w λw1=>
 R (.returned (.bool (decide (n0<128)))) w1) (
 Br (n1 == 1) (
 zQe prog ds w λw2=>
 R (.returned (.bool true)) w2) (
 Br (decide (n0<176)) (
 zQe prog ds w λw3=>
 R (.returned (.bool true)) w3) (
 Br (decide (n0 >= 224)) (
 zQe prog ds w λw4=>
 R (.returned (.bool (decide (n0<240)))) w4) (
 zQe prog ds w λw5=>
 R (.returned (.bool false)) w5))))
theorem F149_p:Pl prog f149 [kS .u8 0,iS 1] xZz:=λR=>
 lf
theorem yJh (n0 n1:Int) (w:World) (R:Rt) (h:xZz R n0 n1 [] w):Calls prog 149 #[.int .u8 n0,.int .i64 n1] w R:=
 plC F149_p func149 h
end Go.Proofs.YtcihcbfcgjepfaaGreatDoor
/- Shallow texts of functions, printed by program, each checked by the kernel against the loaded code. No condition. -/
namespace Go.Proofs.YtcihcbfcgjepfaaGreatDoor
open Go.Sh Tryz
def F52_1(R:Rt)(n1:Int)(p3 p5 p6:Option Addr)(u6:Int)(ds:Ds)(w:World):Prop:=
 Br (u6 == 4) (
 zQi p5 λa1=>
 ∃s46,w.cell? (a1.add 2)=some (.string s46)/\
 zQi p5 λa2=>
 ∃s48,w.cell? (a2.add 2)=some (.string s48)/\
 zQi p3 λa3=>
 ∃n51,w.cell? (a3.add 2)=some (.int .i64 n51)/\
 ∃wI:Int,∃w4,(Builtin.min_ #[3,3] 3 #[.int .i64 (s48.size:Int),.int .i64 n51]).run prog w=.ok (.int .i64 wI) w4/\
 0<=wI/\wI.toNat<=s46.size/\0<=wI.toNat/\
 Calls prog 109 #[.string (s46.extract 0 wI.toNat),.string (⟨#[32]⟩:ByteArray)] w4 λe w5=>
 ∃s54:ByteArray,e=.returned (.string s54)/\
 zQi p5 λa6=>
 st1 (a6.add 2) (.string s54) w5 λw7=>
 zQi p5 λa8=>
 ∃s57,w7.cell? (a8.add 2)=some (.string s57)/\
 Calls prog 110 #[.string s57,.int .i64 n1] w7 λe w9=>
 ∃b59:Bool,e=.returned (.bool b59)/\
 Br (!b59) (
 zQi p6 λcW=>
 stA prog 28 cW #[.int .i64 0,.int .i64 0,.string (⟨#[]⟩:ByteArray)] w9 λav=>
 zQe prog ds av λao=>
 zQi p6 λdB=>
 ∃aa,ao.cell? (dB.add 0)=some (.int .i64 aa)/\
 ∃ac,ao.cell? (dB.add 1)=some (.int .i64 ac)/\
 ∃ae,ao.cell? (dB.add 2)=some (.string ae)/\
 R (.returned (.tuple #[.agg #[.int .i64 aa,.int .i64 ac,.string ae],.int .i64 10])) ao) (
 zQi p5 λfi=>
 ∃dC,w9.cell? (fi.add 0)=some (.int .i64 dC)/\
 ∃fJ,w9.cell? (fi.add 1)=some (.int .i64 fJ)/\
 ∃fK,w9.cell? (fi.add 2)=some (.string fK)/\
 zQi p6 λrU=>
 stA prog 28 rU #[.int .i64 dC,.int .i64 fJ,.string fK] w9 λaU=>
 zQe prog ds aU λbr=>
 zQi p6 λk6=>
 ∃aa,br.cell? (k6.add 0)=some (.int .i64 aa)/\
 ∃ac,br.cell? (k6.add 1)=some (.int .i64 ac)/\
 ∃ae,br.cell? (k6.add 2)=some (.string ae)/\
 R (.returned (.tuple #[.agg #[.int .i64 aa,.int .i64 ac,.string ae],.int .i64 0])) br)) (
 Br (u6 == 2) (
 zQi p5 λj4=>
 ∃n66,w.cell? (j4.add 1)=some (.int .i64 n66)/\
 zQi p3 λa20=>
 ∃n68,w.cell? (a20.add 2)=some (.int .i64 n68)/\
 Calls prog 111 #[.int .i64 n66,.int .i64 n68] w λe cO=>
 ∃wJ:ByteArray,∃nl:Int,e=.returned (.tuple #[.string wJ,.int .i64 nl])/\
 Br (nl != 0) (
 zQi p6 λrm=>
 stA prog 28 rm #[.int .i64 0,.int .i64 0,.string (⟨#[]⟩:ByteArray)] cO λcJ=>
 zQe prog ds cJ λcP=>
 zQi p6 λj5=>
 ∃aa,cP.cell? (j5.add 0)=some (.int .i64 aa)/\
 ∃ac,cP.cell? (j5.add 1)=some (.int .i64 ac)/\
 ∃ae,cP.cell? (j5.add 2)=some (.string ae)/\
 R (.returned (.tuple #[.agg #[.int .i64 aa,.int .i64 ac,.string ae],.int .i64 10])) cP) (
 Calls prog 112 #[.string wJ,.string (⟨#[42]⟩:ByteArray)] cO λe bV=>
 ∃b76:Bool,e=.returned (.bool b76)/\
 Br b76 (
 zQi p6 λu7=>
 stA prog 28 u7 #[.int .i64 0,.int .i64 0,.string (⟨#[]⟩:ByteArray)] bV λcR=>
 zQe prog ds cR λdj=>
 zQi p6 λpO=>
 ∃aa,dj.cell? (pO.add 0)=some (.int .i64 aa)/\
 ∃ac,dj.cell? (pO.add 1)=some (.int .i64 ac)/\
 ∃ae,dj.cell? (pO.add 2)=some (.string ae)/\
 R (.returned (.tuple #[.agg #[.int .i64 aa,.int .i64 ac,.string ae],.int .i64 10])) dj) (
 zQi p5 λpE=>
 ∃dC,bV.cell? (pE.add 0)=some (.int .i64 dC)/\
 ∃fJ,bV.cell? (pE.add 1)=some (.int .i64 fJ)/\
 ∃fK,bV.cell? (pE.add 2)=some (.string fK)/\
 zQi p6 λnp=>
 stA prog 28 np #[.int .i64 dC,.int .i64 fJ,.string fK] bV λcK=>
 zQe prog ds cK λbn=>
 zQi p6 λvD=>
 ∃aa,bn.cell? (vD.add 0)=some (.int .i64 aa)/\
 ∃ac,bn.cell? (vD.add 1)=some (.int .i64 ac)/\
 ∃ae,bn.cell? (vD.add 2)=some (.string ae)/\
 R (.returned (.tuple #[.agg #[.int .i64 aa,.int .i64 ac,.string ae],.int .i64 0])) bn))) (
 Br (u6 == 5) (
 zQi p5 λpP=>
 ∃n82,w.cell? (pP.add 1)=some (.int .i64 n82)/\
 Br (decide (n82<0)) (
 zQi p6 λa37=>
 stA prog 28 a37 #[.int .i64 0,.int .i64 0,.string (⟨#[]⟩:ByteArray)] w λiK=>
 zQe prog ds iK λiF=>
 zQi p6 λa40=>
 ∃aa,iF.cell? (a40.add 0)=some (.int .i64 aa)/\
 ∃ac,iF.cell? (a40.add 1)=some (.int .i64 ac)/\
 ∃ae,iF.cell? (a40.add 2)=some (.string ae)/\
 R (.returned (.tuple #[.agg #[.int .i64 aa,.int .i64 ac,.string ae],.int .i64 10])) iF) (
 zQi p5 λmQ=>
 ∃n86,w.cell? (mQ.add 1)=some (.int .i64 n86)/\
 Br (decide (n86 > 99999999)) (
 zQi p6 λrW=>
 stA prog 28 rW #[.int .i64 0,.int .i64 0,.string (⟨#[]⟩:ByteArray)] w λjV=>
 zQe prog ds jV λgM=>
 zQi p6 λpF=>
 ∃aa,gM.cell? (pF.add 0)=some (.int .i64 aa)/\
 ∃ac,gM.cell? (pF.add 1)=some (.int .i64 ac)/\
 ∃ae,gM.cell? (pF.add 2)=some (.string ae)/\
 R (.returned (.tuple #[.agg #[.int .i64 aa,.int .i64 ac,.string ae],.int .i64 10])) gM) (
 zQi p5 λa46=>
 ∃dC,w.cell? (a46.add 0)=some (.int .i64 dC)/\
 ∃fJ,w.cell? (a46.add 1)=some (.int .i64 fJ)/\
 ∃fK,w.cell? (a46.add 2)=some (.string fK)/\
 zQi p6 λa47=>
 stA prog 28 a47 #[.int .i64 dC,.int .i64 fJ,.string fK] w λrX=>
 zQe prog ds rX λfw=>
 zQi p6 λa50=>
 ∃aa,fw.cell? (a50.add 0)=some (.int .i64 aa)/\
 ∃ac,fw.cell? (a50.add 1)=some (.int .i64 ac)/\
 ∃ae,fw.cell? (a50.add 2)=some (.string ae)/\
 R (.returned (.tuple #[.agg #[.int .i64 aa,.int .i64 ac,.string ae],.int .i64 0])) fw))) (
 zQi p5 λa51=>
 ∃dC,w.cell? (a51.add 0)=some (.int .i64 dC)/\
 ∃fJ,w.cell? (a51.add 1)=some (.int .i64 fJ)/\
 ∃fK,w.cell? (a51.add 2)=some (.string fK)/\
 zQi p6 λa52=>
 stA prog 28 a52 #[.int .i64 dC,.int .i64 fJ,.string fK] w λnv=>
 zQe prog ds nv λlg=>
 zQi p6 λa55=>
 ∃aa,lg.cell? (a55.add 0)=some (.int .i64 aa)/\
 ∃ac,lg.cell? (a55.add 1)=some (.int .i64 ac)/\
 ∃ae,lg.cell? (a55.add 2)=some (.string ae)/\
 R (.returned (.tuple #[.agg #[.int .i64 aa,.int .i64 ac,.string ae],.int .i64 0])) lg)))
def F52_2(R:Rt)(aL:ByteArray)(aA aK:Int)(aM:Bool)(n1 bF bG:Int)(cC:ByteArray)(ds:Ds)(w:World):Prop:=
 alE (.cells #[.string aL,.int .i64 aA,.int .i64 aK,.bool aM] 38) w λr3 wK=>
 alE (.cells #[.int .i64 bF,.int .i64 bG,.string cC] 28) wK λr5 w57=>
 alE (.cells #[.int .i64 0,.int .i64 0,.string (⟨#[]⟩:ByteArray)] 28) w57 λr6 vd=>
 ∃nw,vd.cell? ((⟨r3,0,none⟩:Addr).add 0)=some (.string nw)/\
 ∃fL,vd.cell? ((⟨r3,0,none⟩:Addr).add 1)=some (.int .i64 fL)/\
 ∃gY,vd.cell? ((⟨r3,0,none⟩:Addr).add 2)=some (.int .i64 gY)/\
 ∃nx,vd.cell? ((⟨r3,0,none⟩:Addr).add 3)=some (.bool nx)/\
 Calls prog 106 #[.agg #[.string nw,.int .i64 fL,.int .i64 gY,.bool nx]] vd λe w59=>
 ∃wG:Bool,e=.returned (.bool wG)/\
 Br (!wG) (
 stA prog 28 (⟨r6,0,none⟩:Addr) #[.int .i64 0,.int .i64 0,.string (⟨#[]⟩:ByteArray)] w59 λw60=>
 zQe prog ds w60 λpQ=>
 ∃aa,pQ.cell? ((⟨r6,0,none⟩:Addr).add 0)=some (.int .i64 aa)/\
 ∃ac,pQ.cell? ((⟨r6,0,none⟩:Addr).add 1)=some (.int .i64 ac)/\
 ∃ae,pQ.cell? ((⟨r6,0,none⟩:Addr).add 2)=some (.string ae)/\
 R (.returned (.tuple #[.agg #[.int .i64 aa,.int .i64 ac,.string ae],.int .i64 1])) pQ) (
 Calls prog 92 #[.int .i64 n1] w59 λe pG=>
 ∃kY:Bool,e=.returned (.bool kY)/\
 Br (!kY) (
 stA prog 28 (⟨r6,0,none⟩:Addr) #[.int .i64 0,.int .i64 0,.string (⟨#[]⟩:ByteArray)] pG λrY=>
 zQe prog ds rY λve=>
 ∃aa,ve.cell? ((⟨r6,0,none⟩:Addr).add 0)=some (.int .i64 aa)/\
 ∃ac,ve.cell? ((⟨r6,0,none⟩:Addr).add 1)=some (.int .i64 ac)/\
 ∃ae,ve.cell? ((⟨r6,0,none⟩:Addr).add 2)=some (.string ae)/\
 R (.returned (.tuple #[.agg #[.int .i64 aa,.int .i64 ac,.string ae],.int .i64 1])) ve) (
 ∃dD,pG.cell? ((⟨r5,0,none⟩:Addr).add 0)=some (.int .i64 dD)/\
 ∃dE,pG.cell? ((⟨r5,0,none⟩:Addr).add 1)=some (.int .i64 dE)/\
 ∃ny,pG.cell? ((⟨r5,0,none⟩:Addr).add 2)=some (.string ny)/\
 Calls prog 107 #[.agg #[.int .i64 dD,.int .i64 dE,.string ny]] pG λe pR=>
 ∃qh:Int,e=.returned (.int .i64 qh)/\
 Br (qh != 0) (
 stA prog 28 (⟨r6,0,none⟩:Addr) #[.int .i64 0,.int .i64 0,.string (⟨#[]⟩:ByteArray)] pR λw66=>
 zQe prog ds w66 λwL=>
 ∃aa,wL.cell? ((⟨r6,0,none⟩:Addr).add 0)=some (.int .i64 aa)/\
 ∃ac,wL.cell? ((⟨r6,0,none⟩:Addr).add 1)=some (.int .i64 ac)/\
 ∃ae,wL.cell? ((⟨r6,0,none⟩:Addr).add 2)=some (.string ae)/\
 R (.returned (.tuple #[.agg #[.int .i64 aa,.int .i64 ac,.string ae],.int .i64 qh])) wL) (
 ∃rj,pR.cell? (⟨r5,0,none⟩:Addr)=some (.int .i64 rj)/\
 Br (rj == 0) (
 ∃wM,pR.cell? ((⟨r3,0,none⟩:Addr).add 3)=some (.bool wM)/\
 Br (!wM) (
 stA prog 28 (⟨r6,0,none⟩:Addr) #[.int .i64 0,.int .i64 0,.string (⟨#[]⟩:ByteArray)] pR λw68=>
 zQe prog ds w68 λw69=>
 ∃aa,w69.cell? ((⟨r6,0,none⟩:Addr).add 0)=some (.int .i64 aa)/\
 ∃ac,w69.cell? ((⟨r6,0,none⟩:Addr).add 1)=some (.int .i64 ac)/\
 ∃ae,w69.cell? ((⟨r6,0,none⟩:Addr).add 2)=some (.string ae)/\
 R (.returned (.tuple #[.agg #[.int .i64 aa,.int .i64 ac,.string ae],.int .i64 7])) w69) (
 ∃dG,pR.cell? ((⟨r5,0,none⟩:Addr).add 0)=some (.int .i64 dG)/\
 ∃fM,pR.cell? ((⟨r5,0,none⟩:Addr).add 1)=some (.int .i64 fM)/\
 ∃fN,pR.cell? ((⟨r5,0,none⟩:Addr).add 2)=some (.string fN)/\
 stA prog 28 (⟨r6,0,none⟩:Addr) #[.int .i64 dG,.int .i64 fM,.string fN] pR λw70=>
 zQe prog ds w70 λvg=>
 ∃aa,vg.cell? ((⟨r6,0,none⟩:Addr).add 0)=some (.int .i64 aa)/\
 ∃ac,vg.cell? ((⟨r6,0,none⟩:Addr).add 1)=some (.int .i64 ac)/\
 ∃ae,vg.cell? ((⟨r6,0,none⟩:Addr).add 2)=some (.string ae)/\
 R (.returned (.tuple #[.agg #[.int .i64 aa,.int .i64 ac,.string ae],.int .i64 0])) vg)) (
 dwE pR λpT=>
 ∃S1:World->Prop,S1 pT/\
 ∃u0,(∀w',S1 w'->w'.cell? (⟨r5,0,none⟩:Addr)=some (.int .i64 u0))/\
 ∃wN,(∀w',S1 w'->w'.cell? ((⟨r3,0,none⟩:Addr).add 0)=some (.string wN))/\
 ∃jj,(∀w',S1 w'->w'.cell? ((⟨r3,0,none⟩:Addr).add 1)=some (.int .i64 jj))/\
 ∃wO,(∀w',S1 w'->w'.cell? ((⟨r3,0,none⟩:Addr).add 2)=some (.int .i64 wO))/\
 ∃wP,(∀w',S1 w'->w'.cell? ((⟨r3,0,none⟩:Addr).add 3)=some (.bool wP))/\
 Calls prog 108 #[.agg #[.string wN,.int .i64 jj,.int .i64 wO,.bool wP]] pT λe wQ=>
 ∃nz:Int,∃n37_1:Int,∃s37_2:ByteArray,e=.returned (.agg #[.int .i64 nz,.int .i64 n37_1,.string s37_2])/\
 S1 wQ/\
 Br (u0 != nz) (
 stA prog 28 (⟨r6,0,none⟩:Addr) #[.int .i64 0,.int .i64 0,.string (⟨#[]⟩:ByteArray)] wQ λw74=>
 zQe prog ds w74 λw75=>
 ∃aa,w75.cell? ((⟨r6,0,none⟩:Addr).add 0)=some (.int .i64 aa)/\
 ∃ac,w75.cell? ((⟨r6,0,none⟩:Addr).add 1)=some (.int .i64 ac)/\
 ∃ae,w75.cell? ((⟨r6,0,none⟩:Addr).add 2)=some (.string ae)/\
 R (.returned (.tuple #[.agg #[.int .i64 aa,.int .i64 ac,.string ae],.int .i64 6])) w75) (
 ∃u6,wQ.cell? ((⟨r3,0,none⟩:Addr).add 1)=some (.int .i64 u6)/\
 F52_1 R n1 (some (⟨r3,0,none⟩:Addr)) (some (⟨r5,0,none⟩:Addr)) (some (⟨r6,0,none⟩:Addr)) u6 ds wQ)))))
theorem F52_p:Pl prog f52 [aS 0 [.str,.int .i64,.int .i64,.bool],iS 1,aS 2 [.int .i64,.int .i64,.str]] F52_2:=λR=>
 pc 11 (zQz [iS 1,pS 3,pS 5,pS 6,iS 42] (F52_1 R) lf)
theorem yVR (aL:ByteArray) (aA aK:Int) (aM:Bool) (n1 bF bG:Int) (cC:ByteArray) (w:World) (R:Rt) (h:F52_2 R aL aA aK aM n1 bF bG cC [] w):Calls prog 52 #[.agg #[.string aL,.int .i64 aA,.int .i64 aK,.bool aM],.int .i64 n1,.agg #[.int .i64 bF,.int .i64 bG,.string cC]] w R:=
 plC F52_p func52 h
def F13_1(R:Rt)(aL:ByteArray)(aA aK:Int)(aM:Bool)(n1 bF bG:Int)(cC:ByteArray)(ds:Ds)(w:World):Prop:=
 alE (.cells #[.string aL,.int .i64 aA,.int .i64 aK,.bool aM] 38) w λr3 w1=>
 alE (.cells #[.int .i64 bF,.int .i64 bG,.string cC] 28) w1 λr5 w2=>
 alE (.cells #[.int .i64 0,.int .i64 0,.string (⟨#[]⟩:ByteArray)] 28) w2 λr6 w3=>
 ∃s9_0,w3.cell? ((⟨r3,0,none⟩:Addr).add 0)=some (.string s9_0)/\
 ∃sr,w3.cell? ((⟨r3,0,none⟩:Addr).add 1)=some (.int .i64 sr)/\
 ∃su,w3.cell? ((⟨r3,0,none⟩:Addr).add 2)=some (.int .i64 su)/\
 ∃b9_3,w3.cell? ((⟨r3,0,none⟩:Addr).add 3)=some (.bool b9_3)/\
 Calls prog 44 #[.agg #[.string s9_0,.int .i64 sr,.int .i64 su,.bool b9_3]] w3 λe w4=>
 ∃iG:Bool,e=.returned (.bool iG)/\
 Br (!iG) (
 stA prog 28 (⟨r6,0,none⟩:Addr) #[.int .i64 0,.int .i64 0,.string (⟨#[]⟩:ByteArray)] w4 λw5=>
 zQe prog ds w5 λw6=>
 ∃aa,w6.cell? ((⟨r6,0,none⟩:Addr).add 0)=some (.int .i64 aa)/\
 ∃ac,w6.cell? ((⟨r6,0,none⟩:Addr).add 1)=some (.int .i64 ac)/\
 ∃ae,w6.cell? ((⟨r6,0,none⟩:Addr).add 2)=some (.string ae)/\
 R (.returned (.tuple #[.agg #[.int .i64 aa,.int .i64 ac,.string ae],.int .i64 1])) w6) (
 Calls prog 41 #[.int .i64 n1] w4 λe w7=>
 ∃ld:Bool,e=.returned (.bool ld)/\
 Br (!ld) (
 stA prog 28 (⟨r6,0,none⟩:Addr) #[.int .i64 0,.int .i64 0,.string (⟨#[]⟩:ByteArray)] w7 λw8=>
 zQe prog ds w8 λw9=>
 ∃aa,w9.cell? ((⟨r6,0,none⟩:Addr).add 0)=some (.int .i64 aa)/\
 ∃ac,w9.cell? ((⟨r6,0,none⟩:Addr).add 1)=some (.int .i64 ac)/\
 ∃ae,w9.cell? ((⟨r6,0,none⟩:Addr).add 2)=some (.string ae)/\
 R (.returned (.tuple #[.agg #[.int .i64 aa,.int .i64 ac,.string ae],.int .i64 1])) w9) (
 ∃nD,w7.cell? ((⟨r5,0,none⟩:Addr).add 0)=some (.int .i64 nD)/\
 ∃nE,w7.cell? ((⟨r5,0,none⟩:Addr).add 1)=some (.int .i64 nE)/\
 ∃wR,w7.cell? ((⟨r5,0,none⟩:Addr).add 2)=some (.string wR)/\
 Calls prog 45 #[.agg #[.int .i64 nD,.int .i64 nE,.string wR]] w7 λe au=>
 ∃lh:Int,e=.returned (.int .i64 lh)/\
 Br (lh != 0) (
 stA prog 28 (⟨r6,0,none⟩:Addr) #[.int .i64 0,.int .i64 0,.string (⟨#[]⟩:ByteArray)] au λav=>
 zQe prog ds av λao=>
 ∃aa,ao.cell? ((⟨r6,0,none⟩:Addr).add 0)=some (.int .i64 aa)/\
 ∃ac,ao.cell? ((⟨r6,0,none⟩:Addr).add 1)=some (.int .i64 ac)/\
 ∃ae,ao.cell? ((⟨r6,0,none⟩:Addr).add 2)=some (.string ae)/\
 R (.returned (.tuple #[.agg #[.int .i64 aa,.int .i64 ac,.string ae],.int .i64 lh])) ao) (
 ∃nG,au.cell? ((⟨r3,0,none⟩:Addr).add 0)=some (.string nG)/\
 ∃cN,au.cell? ((⟨r3,0,none⟩:Addr).add 1)=some (.int .i64 cN)/\
 ∃nH,au.cell? ((⟨r3,0,none⟩:Addr).add 2)=some (.int .i64 nH)/\
 ∃nI,au.cell? ((⟨r3,0,none⟩:Addr).add 3)=some (.bool nI)/\
 ∃wS,au.cell? ((⟨r5,0,none⟩:Addr).add 0)=some (.int .i64 wS)/\
 ∃jk,au.cell? ((⟨r5,0,none⟩:Addr).add 1)=some (.int .i64 jk)/\
 ∃wT,au.cell? ((⟨r5,0,none⟩:Addr).add 2)=some (.string wT)/\
 Calls prog 46 #[.agg #[.string nG,.int .i64 cN,.int .i64 nH,.bool nI],.int .i64 n1,.agg #[.int .i64 wS,.int .i64 jk,.string wT]] au λe aE=>
 ∃qi:Int,∃qj:Int,∃qk:ByteArray,∃nJ:Int,e=.returned (.tuple #[.agg #[.int .i64 qi,.int .i64 qj,.string qk],.int .i64 nJ])/\
 stA prog 28 (⟨r6,0,none⟩:Addr) #[.int .i64 qi,.int .i64 qj,.string qk] aE λaI=>
 zQe prog ds aI λaD=>
 ∃aa,aD.cell? ((⟨r6,0,none⟩:Addr).add 0)=some (.int .i64 aa)/\
 ∃ac,aD.cell? ((⟨r6,0,none⟩:Addr).add 1)=some (.int .i64 ac)/\
 ∃ae,aD.cell? ((⟨r6,0,none⟩:Addr).add 2)=some (.string ae)/\
 R (.returned (.tuple #[.agg #[.int .i64 aa,.int .i64 ac,.string ae],.int .i64 nJ])) aD)))
theorem F13_p:Pl prog f13 [aS 0 [.str,.int .i64,.int .i64,.bool],iS 1,aS 2 [.int .i64,.int .i64,.str]] F13_1:=λR=>
 lf
theorem yWA (aL:ByteArray) (aA aK:Int) (aM:Bool) (n1 bF bG:Int) (cC:ByteArray) (w:World) (R:Rt) (h:F13_1 R aL aA aK aM n1 bF bG cC [] w):Calls prog 13 #[.agg #[.string aL,.int .i64 aA,.int .i64 aK,.bool aM],.int .i64 n1,.agg #[.int .i64 bF,.int .i64 bG,.string cC]] w R:=
 plC F13_p func13 h
def F46_1(R:Rt)(aL:ByteArray)(aA aK:Int)(aM:Bool)(n1 bF bG:Int)(cC:ByteArray)(ds:Ds)(w:World):Prop:=
 alE (.cells #[.string aL,.int .i64 aA,.int .i64 aK,.bool aM] 38) w λr3 w1=>
 alE (.cells #[.int .i64 bF,.int .i64 bG,.string cC] 28) w1 λr5 w2=>
 alE (.cells #[.int .i64 0,.int .i64 0,.string (⟨#[]⟩:ByteArray)] 28) w2 λr6 w3=>
 ∃dv,w3.cell? (⟨r5,0,none⟩:Addr)=some (.int .i64 dv)/\
 Br (dv == 0) (
 ∃ld,w3.cell? ((⟨r3,0,none⟩:Addr).add 3)=some (.bool ld)/\
 Br (!ld) (
 stA prog 28 (⟨r6,0,none⟩:Addr) #[.int .i64 0,.int .i64 0,.string (⟨#[]⟩:ByteArray)] w3 λw4=>
 zQe prog ds w4 λw5=>
 ∃aa,w5.cell? ((⟨r6,0,none⟩:Addr).add 0)=some (.int .i64 aa)/\
 ∃ac,w5.cell? ((⟨r6,0,none⟩:Addr).add 1)=some (.int .i64 ac)/\
 ∃ae,w5.cell? ((⟨r6,0,none⟩:Addr).add 2)=some (.string ae)/\
 R (.returned (.tuple #[.agg #[.int .i64 aa,.int .i64 ac,.string ae],.int .i64 7])) w5) (
 ∃cD,w3.cell? ((⟨r5,0,none⟩:Addr).add 0)=some (.int .i64 cD)/\
 ∃fp,w3.cell? ((⟨r5,0,none⟩:Addr).add 1)=some (.int .i64 fp)/\
 ∃jl,w3.cell? ((⟨r5,0,none⟩:Addr).add 2)=some (.string jl)/\
 stA prog 28 (⟨r6,0,none⟩:Addr) #[.int .i64 cD,.int .i64 fp,.string jl] w3 λw6=>
 zQe prog ds w6 λw7=>
 ∃aa,w7.cell? ((⟨r6,0,none⟩:Addr).add 0)=some (.int .i64 aa)/\
 ∃ac,w7.cell? ((⟨r6,0,none⟩:Addr).add 1)=some (.int .i64 ac)/\
 ∃ae,w7.cell? ((⟨r6,0,none⟩:Addr).add 2)=some (.string ae)/\
 R (.returned (.tuple #[.agg #[.int .i64 aa,.int .i64 ac,.string ae],.int .i64 0])) w7)) (
 ∃lh,w3.cell? ((⟨r3,0,none⟩:Addr).add 1)=some (.int .i64 lh)/\
 Br (lh == 5) (
 ∃du,w3.cell? (⟨r5,0,none⟩:Addr)=some (.int .i64 du)/\
 Br (du != 2) (
 stA prog 28 (⟨r6,0,none⟩:Addr) #[.int .i64 0,.int .i64 0,.string (⟨#[]⟩:ByteArray)] w3 λw8=>
 zQe prog ds w8 λw9=>
 ∃aa,w9.cell? ((⟨r6,0,none⟩:Addr).add 0)=some (.int .i64 aa)/\
 ∃ac,w9.cell? ((⟨r6,0,none⟩:Addr).add 1)=some (.int .i64 ac)/\
 ∃ae,w9.cell? ((⟨r6,0,none⟩:Addr).add 2)=some (.string ae)/\
 R (.returned (.tuple #[.agg #[.int .i64 aa,.int .i64 ac,.string ae],.int .i64 6])) w9) (
 ∃fv,w3.cell? ((⟨r3,0,none⟩:Addr).add 1)=some (.int .i64 fv)/\
 Br (fv == 4) (
 ∃sv,w3.cell? ((⟨r5,0,none⟩:Addr).add 2)=some (.string sv)/\
 ∃wU,w3.cell? ((⟨r5,0,none⟩:Addr).add 2)=some (.string wU)/\
 ∃pU,w3.cell? ((⟨r3,0,none⟩:Addr).add 2)=some (.int .i64 pU)/\
 ∃gX:Int,∃au,(Builtin.min_ #[3,3] 3 #[.int .i64 (wU.size:Int),.int .i64 pU]).run prog w3=.ok (.int .i64 gX) au/\
 0<=gX/\gX.toNat<=sv.size/\0<=gX.toNat/\
 Calls prog 99 #[.string (sv.extract 0 gX.toNat)] au λe av=>
 ∃sw:ByteArray,e=.returned (.string sw)/\
 Calls prog 100 #[.string sw,.int .i64 n1] av λe ao=>
 ∃sj:Bool,e=.returned (.bool sj)/\
 Br (!sj) (
 stA prog 28 (⟨r6,0,none⟩:Addr) #[.int .i64 0,.int .i64 0,.string (⟨#[]⟩:ByteArray)] ao λaE=>
 zQe prog ds aE λaI=>
 ∃aa,aI.cell? ((⟨r6,0,none⟩:Addr).add 0)=some (.int .i64 aa)/\
 ∃ac,aI.cell? ((⟨r6,0,none⟩:Addr).add 1)=some (.int .i64 ac)/\
 ∃ae,aI.cell? ((⟨r6,0,none⟩:Addr).add 2)=some (.string ae)/\
 R (.returned (.tuple #[.agg #[.int .i64 aa,.int .i64 ac,.string ae],.int .i64 10])) aI) (
 Calls prog 101 #[.string sw] ao λe aD=>
 ∃fO:Int,∃fP:Int,∃jm:ByteArray,e=.returned (.agg #[.int .i64 fO,.int .i64 fP,.string jm])/\
 stA prog 28 (⟨r6,0,none⟩:Addr) #[.int .i64 fO,.int .i64 fP,.string jm] aD λaU=>
 zQe prog ds aU λbr=>
 ∃aa,br.cell? ((⟨r6,0,none⟩:Addr).add 0)=some (.int .i64 aa)/\
 ∃ac,br.cell? ((⟨r6,0,none⟩:Addr).add 1)=some (.int .i64 ac)/\
 ∃ae,br.cell? ((⟨r6,0,none⟩:Addr).add 2)=some (.string ae)/\
 R (.returned (.tuple #[.agg #[.int .i64 aa,.int .i64 ac,.string ae],.int .i64 0])) br)) (
 ∃jn,w3.cell? ((⟨r3,0,none⟩:Addr).add 0)=some (.string jn)/\
 ∃jo,w3.cell? ((⟨r3,0,none⟩:Addr).add 1)=some (.int .i64 jo)/\
 ∃jp,w3.cell? ((⟨r3,0,none⟩:Addr).add 2)=some (.int .i64 jp)/\
 ∃jq,w3.cell? ((⟨r3,0,none⟩:Addr).add 3)=some (.bool jq)/\
 ∃fQ,w3.cell? ((⟨r5,0,none⟩:Addr).add 0)=some (.int .i64 fQ)/\
 ∃fR,w3.cell? ((⟨r5,0,none⟩:Addr).add 1)=some (.int .i64 fR)/\
 ∃fS,w3.cell? ((⟨r5,0,none⟩:Addr).add 2)=some (.string fS)/\
 Calls prog 96 #[.agg #[.string jn,.int .i64 jo,.int .i64 jp,.bool jq],.int .i64 n1,.agg #[.int .i64 fQ,.int .i64 fR,.string fS]] w3 λe bD=>
 ∃wV:Bool,e=.returned (.bool wV)/\
 Br (!wV) (
 stA prog 28 (⟨r6,0,none⟩:Addr) #[.int .i64 0,.int .i64 0,.string (⟨#[]⟩:ByteArray)] bD λbE=>
 zQe prog ds bE λcX=>
 ∃aa,cX.cell? ((⟨r6,0,none⟩:Addr).add 0)=some (.int .i64 aa)/\
 ∃ac,cX.cell? ((⟨r6,0,none⟩:Addr).add 1)=some (.int .i64 ac)/\
 ∃ae,cX.cell? ((⟨r6,0,none⟩:Addr).add 2)=some (.string ae)/\
 R (.returned (.tuple #[.agg #[.int .i64 aa,.int .i64 ac,.string ae],.int .i64 10])) cX) (
 ∃jr,bD.cell? ((⟨r5,0,none⟩:Addr).add 0)=some (.int .i64 jr)/\
 ∃js,bD.cell? ((⟨r5,0,none⟩:Addr).add 1)=some (.int .i64 js)/\
 ∃jt,bD.cell? ((⟨r5,0,none⟩:Addr).add 2)=some (.string jt)/\
 stA prog 28 (⟨r6,0,none⟩:Addr) #[.int .i64 jr,.int .i64 js,.string jt] bD λcO=>
 zQe prog ds cO λcS=>
 ∃aa,cS.cell? ((⟨r6,0,none⟩:Addr).add 0)=some (.int .i64 aa)/\
 ∃ac,cS.cell? ((⟨r6,0,none⟩:Addr).add 1)=some (.int .i64 ac)/\
 ∃ae,cS.cell? ((⟨r6,0,none⟩:Addr).add 2)=some (.string ae)/\
 R (.returned (.tuple #[.agg #[.int .i64 aa,.int .i64 ac,.string ae],.int .i64 0])) cS)))) (
 ∃du,w3.cell? (⟨r5,0,none⟩:Addr)=some (.int .i64 du)/\
 Br (du != lh) (
 stA prog 28 (⟨r6,0,none⟩:Addr) #[.int .i64 0,.int .i64 0,.string (⟨#[]⟩:ByteArray)] w3 λcJ=>
 zQe prog ds cJ λcP=>
 ∃aa,cP.cell? ((⟨r6,0,none⟩:Addr).add 0)=some (.int .i64 aa)/\
 ∃ac,cP.cell? ((⟨r6,0,none⟩:Addr).add 1)=some (.int .i64 ac)/\
 ∃ae,cP.cell? ((⟨r6,0,none⟩:Addr).add 2)=some (.string ae)/\
 R (.returned (.tuple #[.agg #[.int .i64 aa,.int .i64 ac,.string ae],.int .i64 6])) cP) (
 ∃fv,w3.cell? ((⟨r3,0,none⟩:Addr).add 1)=some (.int .i64 fv)/\
 Br (fv == 4) (
 ∃sv,w3.cell? ((⟨r5,0,none⟩:Addr).add 2)=some (.string sv)/\
 ∃wU,w3.cell? ((⟨r5,0,none⟩:Addr).add 2)=some (.string wU)/\
 ∃pU,w3.cell? ((⟨r3,0,none⟩:Addr).add 2)=some (.int .i64 pU)/\
 ∃gX:Int,∃dQ,(Builtin.min_ #[3,3] 3 #[.int .i64 (wU.size:Int),.int .i64 pU]).run prog w3=.ok (.int .i64 gX) dQ/\
 0<=gX/\gX.toNat<=sv.size/\0<=gX.toNat/\
 Calls prog 99 #[.string (sv.extract 0 gX.toNat)] dQ λe bV=>
 ∃sw:ByteArray,e=.returned (.string sw)/\
 Calls prog 100 #[.string sw,.int .i64 n1] bV λe dR=>
 ∃sj:Bool,e=.returned (.bool sj)/\
 Br (!sj) (
 stA prog 28 (⟨r6,0,none⟩:Addr) #[.int .i64 0,.int .i64 0,.string (⟨#[]⟩:ByteArray)] dR λcR=>
 zQe prog ds cR λdj=>
 ∃aa,dj.cell? ((⟨r6,0,none⟩:Addr).add 0)=some (.int .i64 aa)/\
 ∃ac,dj.cell? ((⟨r6,0,none⟩:Addr).add 1)=some (.int .i64 ac)/\
 ∃ae,dj.cell? ((⟨r6,0,none⟩:Addr).add 2)=some (.string ae)/\
 R (.returned (.tuple #[.agg #[.int .i64 aa,.int .i64 ac,.string ae],.int .i64 10])) dj) (
 Calls prog 101 #[.string sw] dR λe dw=>
 ∃fO:Int,∃fP:Int,∃jm:ByteArray,e=.returned (.agg #[.int .i64 fO,.int .i64 fP,.string jm])/\
 stA prog 28 (⟨r6,0,none⟩:Addr) #[.int .i64 fO,.int .i64 fP,.string jm] dw λgB=>
 zQe prog ds gB λgZ=>
 ∃aa,gZ.cell? ((⟨r6,0,none⟩:Addr).add 0)=some (.int .i64 aa)/\
 ∃ac,gZ.cell? ((⟨r6,0,none⟩:Addr).add 1)=some (.int .i64 ac)/\
 ∃ae,gZ.cell? ((⟨r6,0,none⟩:Addr).add 2)=some (.string ae)/\
 R (.returned (.tuple #[.agg #[.int .i64 aa,.int .i64 ac,.string ae],.int .i64 0])) gZ)) (
 ∃jn,w3.cell? ((⟨r3,0,none⟩:Addr).add 0)=some (.string jn)/\
 ∃jo,w3.cell? ((⟨r3,0,none⟩:Addr).add 1)=some (.int .i64 jo)/\
 ∃jp,w3.cell? ((⟨r3,0,none⟩:Addr).add 2)=some (.int .i64 jp)/\
 ∃jq,w3.cell? ((⟨r3,0,none⟩:Addr).add 3)=some (.bool jq)/\
 ∃fQ,w3.cell? ((⟨r5,0,none⟩:Addr).add 0)=some (.int .i64 fQ)/\
 ∃fR,w3.cell? ((⟨r5,0,none⟩:Addr).add 1)=some (.int .i64 fR)/\
 ∃fS,w3.cell? ((⟨r5,0,none⟩:Addr).add 2)=some (.string fS)/\
 Calls prog 96 #[.agg #[.string jn,.int .i64 jo,.int .i64 jp,.bool jq],.int .i64 n1,.agg #[.int .i64 fQ,.int .i64 fR,.string fS]] w3 λe cK=>
 ∃wV:Bool,e=.returned (.bool wV)/\
 Br (!wV) (
 stA prog 28 (⟨r6,0,none⟩:Addr) #[.int .i64 0,.int .i64 0,.string (⟨#[]⟩:ByteArray)] cK λbn=>
 zQe prog ds bn λfT=>
 ∃aa,fT.cell? ((⟨r6,0,none⟩:Addr).add 0)=some (.int .i64 aa)/\
 ∃ac,fT.cell? ((⟨r6,0,none⟩:Addr).add 1)=some (.int .i64 ac)/\
 ∃ae,fT.cell? ((⟨r6,0,none⟩:Addr).add 2)=some (.string ae)/\
 R (.returned (.tuple #[.agg #[.int .i64 aa,.int .i64 ac,.string ae],.int .i64 10])) fT) (
 ∃jr,cK.cell? ((⟨r5,0,none⟩:Addr).add 0)=some (.int .i64 jr)/\
 ∃js,cK.cell? ((⟨r5,0,none⟩:Addr).add 1)=some (.int .i64 js)/\
 ∃jt,cK.cell? ((⟨r5,0,none⟩:Addr).add 2)=some (.string jt)/\
 stA prog 28 (⟨r6,0,none⟩:Addr) #[.int .i64 jr,.int .i64 js,.string jt] cK λqm=>
 zQe prog ds qm λj6=>
 ∃aa,j6.cell? ((⟨r6,0,none⟩:Addr).add 0)=some (.int .i64 aa)/\
 ∃ac,j6.cell? ((⟨r6,0,none⟩:Addr).add 1)=some (.int .i64 ac)/\
 ∃ae,j6.cell? ((⟨r6,0,none⟩:Addr).add 2)=some (.string ae)/\
 R (.returned (.tuple #[.agg #[.int .i64 aa,.int .i64 ac,.string ae],.int .i64 0])) j6)))))
theorem F46_p:Pl prog f46 [aS 0 [.str,.int .i64,.int .i64,.bool],iS 1,aS 2 [.int .i64,.int .i64,.str]] F46_1:=λR=>
 lf
theorem yWD (aL:ByteArray) (aA aK:Int) (aM:Bool) (n1 bF bG:Int) (cC:ByteArray) (w:World) (R:Rt) (h:F46_1 R aL aA aK aM n1 bF bG cC [] w):Calls prog 46 #[.agg #[.string aL,.int .i64 aA,.int .i64 aK,.bool aM],.int .i64 n1,.agg #[.int .i64 bF,.int .i64 bG,.string cC]] w R:=
 plC F46_p func46 h
def F96_1(R:Rt)(aL:ByteArray)(aA aK:Int)(aM:Bool)(n1 bF bG:Int)(cC:ByteArray)(ds:Ds)(w:World):Prop:=
 alE (.cells #[.string aL,.int .i64 aA,.int .i64 aK,.bool aM] 38) w λr3 w1=>
 alE (.cells #[.int .i64 bF,.int .i64 bG,.string cC] 28) w1 λr5 w2=>
 ∃fH,w2.cell? ((⟨r5,0,none⟩:Addr).add 0)=some (.int .i64 fH)/\
 ∃ni,w2.cell? ((⟨r5,0,none⟩:Addr).add 1)=some (.int .i64 ni)/\
 ∃nj,w2.cell? ((⟨r5,0,none⟩:Addr).add 2)=some (.string nj)/\
 Calls prog 45 #[.agg #[.int .i64 fH,.int .i64 ni,.string nj]] w2 λe w3=>
 ∃n8:Int,e=.returned (.int .i64 n8)/\
 Br (n8 != 0) (
 zQe prog ds w3 λw4=>
 R (.returned (.bool false)) w4) (
 ∃fo,w3.cell? (⟨r5,0,none⟩:Addr)=some (.int .i64 fo)/\
 Br (fo == 0) (
 ∃hZ,w3.cell? ((⟨r3,0,none⟩:Addr).add 3)=some (.bool hZ)/\
 zQe prog ds w3 λw5=>
 R (.returned (.bool hZ)) w5) (
 ∃gS,w3.cell? ((⟨r3,0,none⟩:Addr).add 1)=some (.int .i64 gS)/\
 Br (gS == 5) (
 ∃qh,w3.cell? (⟨r5,0,none⟩:Addr)=some (.int .i64 qh)/\
 Br (qh == 2) (
 ∃fj,w3.cell? ((⟨r5,0,none⟩:Addr).add 1)=some (.int .i64 fj)/\
 Calls prog 146 #[.int .i64 fj] w3 λe w6=>
 ∃b26:Bool,e=.returned (.bool b26)/\
 zQe prog ds w6 λw7=>
 R (.returned (.bool b26)) w7) (
 zQe prog ds w3 λw8=>
 R (.returned (.bool false)) w8)) (
 ∃sA,w3.cell? (⟨r5,0,none⟩:Addr)=some (.int .i64 sA)/\
 ∃gk,w3.cell? ((⟨r3,0,none⟩:Addr).add 1)=some (.int .i64 gk)/\
 Br (sA != gk) (
 zQe prog ds w3 λw9=>
 R (.returned (.bool false)) w9) (
 ∃pU,w3.cell? ((⟨r3,0,none⟩:Addr).add 1)=some (.int .i64 pU)/\
 Br (pU == 2) (
 dwE w3 λau=>
 ∃S1:World->Prop,S1 au/\
 ∃fU,(∀w',S1 w'->w'.cell? ((⟨r5,0,none⟩:Addr).add 1)=some (.int .i64 fU))/\
 ∃sm,(∀w',S1 w'->w'.cell? ((⟨r3,0,none⟩:Addr).add 2)=some (.int .i64 sm))/\
 Calls prog 147 #[.int .i64 fU] au λe av=>
 ∃s40:ByteArray,e=.returned (.string s40)/\
 S1 av/\
 zQe prog ds av λao=>
 R (.returned (.bool (decide ((s40.size:Int)<=sm)))) ao) (
 ∃n47,w3.cell? ((⟨r3,0,none⟩:Addr).add 1)=some (.int .i64 n47)/\
 Br (n47 == 4) (
 dwE w3 λaE=>
 ∃S2:World->Prop,S2 aE/\
 ∃s50,(∀w',S2 w'->w'.cell? ((⟨r5,0,none⟩:Addr).add 2)=some (.string s50))/\
 ∃n53,(∀w',S2 w'->w'.cell? ((⟨r3,0,none⟩:Addr).add 2)=some (.int .i64 n53))/\
 Br (decide ((s50.size:Int)<=n53)) (
 ∃s57,(∀w',S2 w'->w'.cell? ((⟨r5,0,none⟩:Addr).add 2)=some (.string s57))/\
 ∃s60,(∀w',S2 w'->w'.cell? ((⟨r5,0,none⟩:Addr).add 2)=some (.string s60))/\
 Calls prog 99 #[.string s57] aE λe aI=>
 ∃s58:ByteArray,e=.returned (.string s58)/\
 S2 aI/\
 Br (s58.toList == s60.toList) (
 ∃s65,(∀w',S2 w'->w'.cell? ((⟨r5,0,none⟩:Addr).add 2)=some (.string s65))/\
 Calls prog 100 #[.string s65,.int .i64 n1] aI λe aD=>
 ∃b67:Bool,e=.returned (.bool b67)/\
 zQe prog ds aD λaU=>
 R (.returned (.bool b67)) aU) (
 zQe prog ds aI λbr=>
 R (.returned (.bool false)) br)) (
 zQe prog ds aE λbD=>
 R (.returned (.bool false)) bD)) (
 zQe prog ds w3 λbE=>
 R (.returned (.bool true)) bE))))))
theorem F96_p:Pl prog f96 [aS 0 [.str,.int .i64,.int .i64,.bool],iS 1,aS 2 [.int .i64,.int .i64,.str]] F96_1:=λR=>
 lf
theorem yYb (aL:ByteArray) (aA aK:Int) (aM:Bool) (n1 bF bG:Int) (cC:ByteArray) (w:World) (R:Rt) (h:F96_1 R aL aA aK aM n1 bF bG cC [] w):Calls prog 96 #[.agg #[.string aL,.int .i64 aA,.int .i64 aK,.bool aM],.int .i64 n1,.agg #[.int .i64 bF,.int .i64 bG,.string cC]] w R:=
 plC F96_p func96 h
def xQO(R:Rt)(n0:Int)(ds:Ds)(w:World):Prop:=
 Br (decide (n0 >= 0)) (
 zQe prog ds w λw1=>
 R (.returned (.bool (decide (n0<=99999999)))) w1) (
 zQe prog ds w λw2=>
 R (.returned (.bool false)) w2)
theorem F146_p:Pl prog f146 [iS 0] xQO:=λR=>
 lf
theorem yJJ (n0:Int) (w:World) (R:Rt) (h:xQO R n0 [] w):Calls prog 146 #[.int .i64 n0] w R:=
 plC F146_p func146 h
end Go.Proofs.YtcihcbfcgjepfaaGreatDoor
/- Shallow texts of functions, printed by program, each checked by the kernel against the loaded code. No condition. -/
namespace Go.Proofs.YtcihcbfcgjepfaaGreatDoor
open Go.Sh Tryz
def F93_1(R:Rt)(l0:SV)(ds:Ds)(w:World):Prop:=
 Br (decide ((l0.len:Int) > 16)) (
 zQe prog ds w λw1=>
 R (.returned (.int .i64 3)) w1) (
 Calls prog 144 #[l0.v] w λe w2=>
 ∃ji:Int,e=.returned (.int .i64 ji)/\
 Br (decide (ji > 2000)) (
 zQe prog ds w2 λw3=>
 R (.returned (.int .i64 3)) w3) (
 zQe prog ds w2 λw4=>
 R (.returned (.int .i64 0)) w4))
def F93_2 (R:Rt) (J1:(Int)->World->Prop) (l0:SV) (m3:Option Nat) (fy:SV) (pH cE:Int) (ds:Ds) (w:World):Prop:=
 Br (decide (cE<pH)) (
 ∃a5,fy.a=some a5/\0<=cE/\cE<(fy.len:Int)/\
 ∃ju,w.cell? ((a5.add (cE.toNat * 4)).add 0)=some (.string ju)/\
 ∃dH,w.cell? ((a5.add (cE.toNat * 4)).add 1)=some (.int .i64 dH)/\
 ∃jv,w.cell? ((a5.add (cE.toNat * 4)).add 2)=some (.int .i64 jv)/\
 ∃jw,w.cell? ((a5.add (cE.toNat * 4)).add 3)=some (.bool jw)/\
 alE (.cells #[.string (⟨#[]⟩:ByteArray),.int .i64 0,.int .i64 0,.bool false] 38) w λr5 w6=>
 stA prog 38 (⟨r5,0,none⟩:Addr) #[.string ju,.int .i64 dH,.int .i64 jv,.bool jw] w6 λw7=>
 ∃s22,w7.cell? (⟨r5,0,none⟩:Addr)=some (.string s22)/\
 ∃sB:Bool,∃w8,(Instr.lookup 177 (.map m3) (.string s22) false).run prog w7=.ok (.bool sB) w8/\
 Br sB (
 zQe prog ds w8 λw9=>
 R (.returned (.int .i64 5)) w9) (
 ∃s26,w8.cell? (⟨r5,0,none⟩:Addr)=some (.string s26)/\
 doE prog (Instr.mapUpdate 177 (.map m3) (.string s26) (.bool true)) w8 λau=>
 J1 (IntKind.i64.wrap (cE+1)) au)) (
 F93_1 R l0 ds w)
def F93_3(R:Rt)(l0:SV)(m3:Option Nat)(fy:SV)(pH cE:Int)(ds:Ds)(w:World):Prop:=
 zQ8 (λ(J1:(Int)->World->Prop) (s:Int) (w:World)=>F93_2 R J1 l0 m3 fy pH s ds w) cE w
def F93_5(R:Rt)(l0:SV)(ds:Ds)(w:World):Prop:=
 Br ((l0.len:Int) == 0) (
 zQe prog ds w λav=>
 R (.returned (.int .i64 1)) av) (
 Calls prog 142 #[l0.v,.func (.func 143) #[] #[]] w λe ao=>
 ∃wW:Bool,e=.returned (.bool wW)/\
 Br wW (
 zQe prog ds ao λaE=>
 R (.returned (.int .i64 1)) aE) (
 alE (.map #[] 0) ao λgC aI=>
 F93_3 R l0 (some gC) l0 (l0.len:Int) 0 ds aI))
theorem F93_p:Pl prog f93 [lS 0] F93_5:=λR=>
 pc 5 (zQz [lS 0,mS 3,lS 14,iS 15,iS 16] (F93_3 R) (bk 0 (zQz [lS 0] (F93_1 R) lf) (lp [iS 16] [lS 0,mS 3,lS 14,iS 15,iS 16] (F93_2 R) zXs λJ1=>lf)))
theorem yV3 (l0:SV) (w:World) (R:Rt) (h:F93_5 R l0 [] w):Calls prog 93 #[l0.v] w R:=
 plC F93_p func93 h
def xXK(R:Rt)(l0:SV)(v1:Value)(ds:Ds)(w:World):Prop:=
 Calls prog 104 #[l0.v,v1] w λe w1=>
 ∃n7:Int,e=.returned (.int .i64 n7)/\
 zQe prog ds w1 λw2=>
 R (.returned (.bool (decide (n7 >= 0)))) w2
theorem F142_p:Pl prog f142 [lS 0,vS 1] xXK:=λR=>
 lf
theorem yJs (l0:SV) (v1:Value) (w:World) (R:Rt) (h:xXK R l0 v1 [] w):Calls prog 142 #[l0.v,v1] w R:=
 plC F142_p func142 h
def xZ2(R:Rt)(aL:ByteArray)(aA aK:Int)(aM:Bool)(ds:Ds)(w:World):Prop:=
 alE (.cells #[.string aL,.int .i64 aA,.int .i64 aK,.bool aM] 38) w λr1 w1=>
 ∃s3_0,w1.cell? ((⟨r1,0,none⟩:Addr).add 0)=some (.string s3_0)/\
 ∃jO,w1.cell? ((⟨r1,0,none⟩:Addr).add 1)=some (.int .i64 jO)/\
 ∃n3_2,w1.cell? ((⟨r1,0,none⟩:Addr).add 2)=some (.int .i64 n3_2)/\
 ∃b3_3,w1.cell? ((⟨r1,0,none⟩:Addr).add 3)=some (.bool b3_3)/\
 Calls prog 106 #[.agg #[.string s3_0,.int .i64 jO,.int .i64 n3_2,.bool b3_3]] w1 λe w2=>
 ∃b4:Bool,e=.returned (.bool b4)/\
 zQe prog ds w2 λw3=>
 R (.returned (.bool (!b4))) w3
theorem F143_p:Pl prog f143 [aS 0 [.str,.int .i64,.int .i64,.bool]] xZ2:=λR=>
 lf
theorem yJn (aL:ByteArray) (aA aK:Int) (aM:Bool) (w:World) (R:Rt) (h:xZ2 R aL aA aK aM [] w):Calls prog 143 #[.agg #[.string aL,.int .i64 aA,.int .i64 aK,.bool aM]] w R:=
 plC F143_p func143 h
def xXP(R:Rt)(n3:Int)(ds:Ds)(w:World):Prop:=
 zQe prog ds w λw1=>
 R (.returned (.int .i64 n3)) w1
def xZM (R:Rt) (J1:(Int × Int)->World->Prop) (n3:Int) (l9:SV) (ia dv:Int) (ds:Ds) (w:World):Prop:=
 Br (decide (dv<ia)) (
 ∃a2,l9.a=some a2/\0<=dv/\dv<(l9.len:Int)/\
 ∃wX,w.cell? ((a2.add (dv.toNat * 4)).add 0)=some (.string wX)/\
 ∃jx,w.cell? ((a2.add (dv.toNat * 4)).add 1)=some (.int .i64 jx)/\
 ∃dI,w.cell? ((a2.add (dv.toNat * 4)).add 2)=some (.int .i64 dI)/\
 ∃wY,w.cell? ((a2.add (dv.toNat * 4)).add 3)=some (.bool wY)/\
 alE (.cells #[.string (⟨#[]⟩:ByteArray),.int .i64 0,.int .i64 0,.bool false] 38) w λr5 w3=>
 stA prog 38 (⟨r5,0,none⟩:Addr) #[.string wX,.int .i64 jx,.int .i64 dI,.bool wY] w3 λw4=>
 ∃jU,w4.cell? ((⟨r5,0,none⟩:Addr).add 2)=some (.int .i64 jU)/\
 J1 ((IntKind.i64.wrap (n3+jU)),(IntKind.i64.wrap (dv+1))) w4) (
 xXP R n3 ds w)
def xQw(R:Rt)(n3:Int)(l9:SV)(ia dv:Int)(ds:Ds)(w:World):Prop:=
 zQ8 (λ(J1:(Int × Int)->World->Prop) (s:Int × Int) (w:World)=>xZM R J1 s.1 l9 ia s.2 ds w) (n3,dv) w
def xXq(R:Rt)(l0:SV)(ds:Ds)(w:World):Prop:=
 Calls prog 176 #[l0.v] w λe w5=>
 ∃n7:Int,e=.returned (.int .i64 n7)/\
 xQw R (IntKind.i64.wrap ((1:Int)+n7)) l0 (l0.len:Int) 0 ds w5
theorem F144_p:Pl prog f144 [lS 0] xXq:=λR=>
 pc 3 (zQz [iS 3,lS 9,iS 10,iS 11] (xQw R) (bk 0 (zQz [iS 3] (xXP R) lf) (lp [iS 3,iS 11] [iS 3,lS 9,iS 10,iS 11] (xZM R) zXs λJ1=>lf)))
theorem yJG (l0:SV) (w:World) (R:Rt) (h:xXq R l0 [] w):Calls prog 144 #[l0.v] w R:=
 plC F144_p func144 h
def xQ1(R:Rt)(n3:Int)(ds:Ds)(w:World):Prop:=
 IntKind.i64=IntKind.i64/\(8:Int) ≠ 0/\
 zQe prog ds w λw1=>
 R (.returned (.int .i64 (IntKind.i64.wrap ((IntKind.i64.wrap (n3+7)).tdiv 8)))) w1
def xXt (R:Rt) (J1:(Int × Int)->World->Prop) (n3:Int) (l6:SV) (n7 n8:Int) (ds:Ds) (w:World):Prop:=
 Br (decide (n8<n7)) (
 ∃a2,l6.a=some a2/\0<=n8/\n8<(l6.len:Int)/\
 ∃nw,w.cell? ((a2.add (n8.toNat * 4)).add 0)=some (.string nw)/\
 ∃fL,w.cell? ((a2.add (n8.toNat * 4)).add 1)=some (.int .i64 fL)/\
 ∃gY,w.cell? ((a2.add (n8.toNat * 4)).add 2)=some (.int .i64 gY)/\
 ∃nx,w.cell? ((a2.add (n8.toNat * 4)).add 3)=some (.bool nx)/\
 alE (.cells #[.string (⟨#[]⟩:ByteArray),.int .i64 0,.int .i64 0,.bool false] 38) w λr5 w3=>
 stA prog 38 (⟨r5,0,none⟩:Addr) #[.string nw,.int .i64 fL,.int .i64 gY,.bool nx] w3 λw4=>
 ∃wZ,w4.cell? ((⟨r5,0,none⟩:Addr).add 3)=some (.bool wZ)/\
 Br wZ (
 J1 ((IntKind.i64.wrap (n3+1)),(IntKind.i64.wrap (n8+1))) w4) (
 J1 (n3,(IntKind.i64.wrap (n8+1))) w4)) (
 xQ1 R n3 ds w)
def xZs(R:Rt)(n3:Int)(l6:SV)(n7 n8:Int)(ds:Ds)(w:World):Prop:=
 zQ8 (λ(J1:(Int × Int)->World->Prop) (s:Int × Int) (w:World)=>xXt R J1 s.1 l6 n7 s.2 ds w) (n3,n8) w
def xZ4(R:Rt)(l0:SV)(ds:Ds)(w:World):Prop:=
 xZs R 0 l0 (l0.len:Int) 0 ds w
theorem F176_p:Pl prog f176 [lS 0] xZ4:=λR=>
 pc 3 (zQz [iS 3,lS 6,iS 7,iS 8] (xZs R) (bk 0 (zQz [iS 3] (xQ1 R) lf) (lp [iS 3,iS 8] [iS 3,lS 6,iS 7,iS 8] (xXt R) zXs λJ1=>lf)))
theorem yZw (l0:SV) (w:World) (R:Rt) (h:xZ4 R l0 [] w):Calls prog 176 #[l0.v] w R:=
 plC F176_p func176 h
def F42_1(R:Rt)(l0:SV)(ds:Ds)(w:World):Prop:=
 Br (decide ((l0.len:Int) > 16)) (
 zQe prog ds w λw1=>
 R (.returned (.int .i64 3)) w1) (
 Calls prog 95 #[l0.v] w λe w2=>
 ∃vh:Int,e=.returned (.int .i64 vh)/\
 Br (decide (vh > 2000)) (
 zQe prog ds w2 λw3=>
 R (.returned (.int .i64 3)) w3) (
 zQe prog ds w2 λw4=>
 R (.returned (.int .i64 0)) w4))
def F42_2 (R:Rt) (J1:(Int)->World->Prop) (l0:SV) (n4:Int) (ds:Ds) (w:World):Prop:=
 J1 (IntKind.i64.wrap (n4+1)) w
def F42_3 (R:Rt) (J1:(Int)->World->Prop) (J2:(Int)->World->Prop) (l0:SV) (n4 n5:Int) (ds:Ds) (w:World):Prop:=
 Br (decide (n5<n4)) (
 dwE w λw5=>
 ∃a6,l0.a=some a6/\0<=n4/\n4<(l0.len:Int)/\
 ∃s36,w5.cell? (a6.add (n4.toNat * 4))=some (.string s36)/\
 ∃a7,l0.a=some a7/\0<=n5/\n5<(l0.len:Int)/\
 ∃s41,w5.cell? (a7.add (n5.toNat * 4))=some (.string s41)/\
 Br (s36.toList == s41.toList) (
 zQe prog ds w5 λw8=>
 R (.returned (.int .i64 5)) w8) (
 J2 (IntKind.i64.wrap (n5+1)) w5)) (
 F42_2 R J1 l0 n4 ds w)
def F42_4 (R:Rt) (J1:(Int)->World->Prop) (l0:SV) (n4 n5:Int) (ds:Ds) (w:World):Prop:=
 zQ8 (λ(J2:(Int)->World->Prop) (s:Int) (w:World)=>F42_3 R J1 J2 l0 n4 s ds w) n5 w
def F42_6 (R:Rt) (J1:(Int)->World->Prop) (l0:SV) (n4:Int) (ds:Ds) (w:World):Prop:=
 F42_4 R J1 l0 n4 0 ds w
def F42_8 (R:Rt) (J1:(Int)->World->Prop) (l0:SV) (n4:Int) (ds:Ds) (w:World):Prop:=
 Br (decide (n4<(l0.len:Int))) (
 F42_6 R J1 l0 n4 ds w) (
 F42_1 R l0 ds w)
def F42_9(R:Rt)(l0:SV)(n4:Int)(ds:Ds)(w:World):Prop:=
 zQ8 (λ(J1:(Int)->World->Prop) (s:Int) (w:World)=>F42_8 R J1 l0 s ds w) n4 w
def xZP(R:Rt)(l0:SV)(ds:Ds)(w:World):Prop:=
 F42_9 R l0 0 ds w
def xZw (R:Rt) (J1:(Int)->World->Prop) (l0:SV) (n3:Int) (ds:Ds) (w:World):Prop:=
 Br (decide (n3<(l0.len:Int))) (
 ∃a9,l0.a=some a9/\0<=n3/\n3<(l0.len:Int)/\
 ∃xa,w.cell? ((a9.add (n3.toNat * 4)).add 0)=some (.string xa)/\
 ∃nE,w.cell? ((a9.add (n3.toNat * 4)).add 1)=some (.int .i64 nE)/\
 ∃gN,w.cell? ((a9.add (n3.toNat * 4)).add 2)=some (.int .i64 gN)/\
 ∃xb,w.cell? ((a9.add (n3.toNat * 4)).add 3)=some (.bool xb)/\
 Calls prog 44 #[.agg #[.string xa,.int .i64 nE,.int .i64 gN,.bool xb]] w λe au=>
 ∃xc:Bool,e=.returned (.bool xc)/\
 Br (!xc) (
 zQe prog ds au λav=>
 R (.returned (.int .i64 1)) av) (
 J1 (IntKind.i64.wrap (n3+1)) au)) (
 xZP R l0 ds w)
def xZV(R:Rt)(l0:SV)(n3:Int)(ds:Ds)(w:World):Prop:=
 zQ8 (λ(J1:(Int)->World->Prop) (s:Int) (w:World)=>xZw R J1 l0 s ds w) n3 w
def xXY(R:Rt)(l0:SV)(ds:Ds)(w:World):Prop:=
 Br ((l0.len:Int) == 0) (
 zQe prog ds w λao=>
 R (.returned (.int .i64 1)) ao) (
 xZV R l0 0 ds w)
theorem F42_p:Pl prog f42 [lS 0] xXY:=λR=>
 pc 4 (zQz [lS 0,iS 3] (xZV R) (bk 0 (zQz [lS 0] (xZP R) (pc 1 (zQz [lS 0,iS 4] (F42_9 R) (bk 2 (zQz [lS 0] (F42_1 R) lf) (lp [iS 4] [lS 0,iS 4] (F42_8 R) zXs λJ1=>pc 2 (zQz [lS 0,iS 4] (F42_6 R J1) (bk 3 (zQz [lS 0,iS 4] (F42_2 R J1) lf) (pc 1 (zQz [lS 0,iS 4,iS 5] (F42_4 R J1) (bk 4 zXs (lp [iS 5] [lS 0,iS 4,iS 5] (F42_3 R J1) zXs λJ2=>lf))))))))))) (lp [iS 3] [lS 0,iS 3] (xZw R) zXs λJ1=>lf)))
theorem yJZ (l0:SV) (w:World) (R:Rt) (h:xXY R l0 [] w):Calls prog 42 #[l0.v] w R:=
 plC F42_p func42 h
def F95_1(R:Rt)(n3:Int)(ds:Ds)(w:World):Prop:=
 zQe prog ds w λw1=>
 R (.returned (.int .i64 n3)) w1
def F95_2 (R:Rt) (J1:(Int × Int)->World->Prop) (l0:SV) (n3 n4:Int) (ds:Ds) (w:World):Prop:=
 Br (decide (n4<(l0.len:Int))) (
 ∃a2,l0.a=some a2/\0<=n4/\n4<(l0.len:Int)/\
 ∃lh,w.cell? ((a2.add (n4.toNat * 4)).add 2)=some (.int .i64 lh)/\
 J1 ((IntKind.i64.wrap (n3+lh)),(IntKind.i64.wrap (n4+1))) w) (
 F95_1 R n3 ds w)
def F95_3(R:Rt)(l0:SV)(n3 n4:Int)(ds:Ds)(w:World):Prop:=
 zQ8 (λ(J1:(Int × Int)->World->Prop) (s:Int × Int) (w:World)=>F95_2 R J1 l0 s.1 s.2 ds w) (n3,n4) w
def F95_5(R:Rt)(l0:SV)(ds:Ds)(w:World):Prop:=
 Calls prog 145 #[l0.v] w λe w3=>
 ∃n6:Int,e=.returned (.int .i64 n6)/\
 F95_3 R l0 (IntKind.i64.wrap ((1:Int)+n6)) 0 ds w3
theorem F95_p:Pl prog f95 [lS 0] F95_5:=λR=>
 pc 3 (zQz [lS 0,iS 3,iS 4] (F95_3 R) (bk 0 (zQz [iS 3] (F95_1 R) lf) (lp [iS 3,iS 4] [lS 0,iS 3,iS 4] (F95_2 R) zXs λJ1=>lf)))
theorem yVw (l0:SV) (w:World) (R:Rt) (h:F95_5 R l0 [] w):Calls prog 95 #[l0.v] w R:=
 plC F95_p func95 h
def xZB(R:Rt)(n3:Int)(ds:Ds)(w:World):Prop:=
 IntKind.i64=IntKind.i64/\(8:Int) ≠ 0/\
 zQe prog ds w λw1=>
 R (.returned (.int .i64 (IntKind.i64.wrap ((IntKind.i64.wrap (n3+7)).tdiv 8)))) w1
def xXc (R:Rt) (J1:(Int × Int)->World->Prop) (l0:SV) (n3 n4:Int) (ds:Ds) (w:World):Prop:=
 Br (decide (n4<(l0.len:Int))) (
 ∃a2,l0.a=some a2/\0<=n4/\n4<(l0.len:Int)/\
 ∃hZ,w.cell? ((a2.add (n4.toNat * 4)).add 3)=some (.bool hZ)/\
 Br hZ (
 J1 ((IntKind.i64.wrap (n3+1)),(IntKind.i64.wrap (n4+1))) w) (
 J1 (n3,(IntKind.i64.wrap (n4+1))) w)) (
 xZB R n3 ds w)
def xJe(R:Rt)(l0:SV)(n3 n4:Int)(ds:Ds)(w:World):Prop:=
 zQ8 (λ(J1:(Int × Int)->World->Prop) (s:Int × Int) (w:World)=>xXc R J1 l0 s.1 s.2 ds w) (n3,n4) w
def xZj(R:Rt)(l0:SV)(ds:Ds)(w:World):Prop:=
 xJe R l0 0 0 ds w
theorem F145_p:Pl prog f145 [lS 0] xZj:=λR=>
 pc 3 (zQz [lS 0,iS 3,iS 4] (xJe R) (bk 0 (zQz [iS 3] (xZB R) lf) (lp [iS 3,iS 4] [lS 0,iS 3,iS 4] (xXc R) zXs λJ1=>lf)))
theorem yZR (l0:SV) (w:World) (R:Rt) (h:xZj R l0 [] w):Calls prog 145 #[l0.v] w R:=
 plC F145_p func145 h
end Go.Proofs.YtcihcbfcgjepfaaGreatDoor
/- Shallow texts of functions, printed by program, each checked by the kernel against the loaded code. No condition. -/
namespace Go.Proofs.YtcihcbfcgjepfaaGreatDoor
open Go.Sh Tryz
def xZn(R:Rt)(ds:Ds)(w:World):Prop:=
 zQe prog ds w λw1=>
 R (.returned (.int .i64 (-1))) w1
def xQv (R:Rt) (J1:(Int)->World->Prop) (l0:SV) (v1:Value) (n7 n8:Int) (ds:Ds) (w:World):Prop:=
 Br (decide (n8<n7)) (
 ∃a2,l0.a=some a2/\0<=n8/\n8<(l0.len:Int)/\
 ∃xd,w.cell? ((a2.add (n8.toNat * 4)).add 0)=some (.string xd)/\
 ∃jy,w.cell? ((a2.add (n8.toNat * 4)).add 1)=some (.int .i64 jy)/\
 ∃xe,w.cell? ((a2.add (n8.toNat * 4)).add 2)=some (.int .i64 xe)/\
 ∃xf,w.cell? ((a2.add (n8.toNat * 4)).add 3)=some (.bool xf)/\
 fnE v1 λf16 first16 cap16=>
 zXD prog f16=true/\Calls prog f16 (first16.toList ++ (([.agg #[.string xd,.int .i64 jy,.int .i64 xe,.bool xf]]:List Value) ++ cap16.toList)).toArray w λe w3=>
 ∃kY:Bool,e=.returned (.bool kY)/\
 Br kY (
 zQe prog ds w3 λw4=>
 R (.returned (.int .i64 n8)) w4) (
 J1 (IntKind.i64.wrap (n8+1)) w3)) (
 xZn R ds w)
def xXU(R:Rt)(l0:SV)(v1:Value)(n7 n8:Int)(ds:Ds)(w:World):Prop:=
 zQ8 (λ(J1:(Int)->World->Prop) (s:Int) (w:World)=>xQv R J1 l0 v1 n7 s ds w) n8 w
def xQ5(R:Rt)(l0:SV)(v1:Value)(ds:Ds)(w:World):Prop:=
 xXU R l0 (v1) (l0.len:Int) 0 ds w
theorem F104_p:Pl prog f104 [lS 0,vS 1] xQ5:=λR=>
 pc 2 (zQz [lS 0,vS 1,iS 7,iS 8] (xXU R) (bk 0 (zQz [] (xZn R) lf) (lp [iS 8] [lS 0,vS 1,iS 7,iS 8] (xQv R) zXs λJ1=>lf)))
theorem yZP (l0:SV) (v1:Value) (w:World) (R:Rt) (h:xQ5 R l0 v1 [] w):Calls prog 104 #[l0.v,v1] w R:=
 plC F104_p func104 h
def xXH(R:Rt)(aL:ByteArray)(aA aK:Int)(aM:Bool)(v1:Value)(ds:Ds)(w:World):Prop:=
 alE (.cells #[.string aL,.int .i64 aA,.int .i64 aK,.bool aM] 38) w λr2 w1=>
 ∃s5,w1.cell? (⟨r2,0,none⟩:Addr)=some (.string s5)/\
 zJE v1 λa2=>
 ∃s6,w1.cell? a2=some (.string s6)/\
 zQe prog ds w1 λw3=>
 R (.returned (.bool (s5.toList == s6.toList))) w3
theorem F105_p:Pl prog f105 [aS 0 [.str,.int .i64,.int .i64,.bool],vS 1] xXH:=λR=>
 lf
theorem yJa (aL:ByteArray) (aA aK:Int) (aM:Bool) (v1:Value) (w:World) (R:Rt) (h:xXH R aL aA aK aM v1 [] w):Calls prog 105 #[.agg #[.string aL,.int .i64 aA,.int .i64 aK,.bool aM],v1] w R:=
 plC F105_p func105 h
def F51_1(R:Rt)(l0:SV)(s1:ByteArray)(ds:Ds)(w:World):Prop:=
 alE (.cells #[.string s1] 9) w λr3 w1=>
 Calls prog 104 #[l0.v,.func (.func 105) #[] #[.pointer (some (⟨r3,0,none⟩:Addr))]] w1 λe w2=>
 ∃n9:Int,e=.returned (.int .i64 n9)/\
 ∃dv:Int,∃w3,(Builtin.max_ #[3,3] 3 #[.int .i64 n9,.int .i64 0]).run prog w2=.ok (.int .i64 dv) w3/\
 zQe prog ds w3 λw4=>
 R (.returned (.tuple #[.int .i64 dv,.bool (decide (n9 >= 0))])) w4
theorem F51_p:Pl prog f51 [lS 0,sS 1] F51_1:=λR=>
 lf
theorem yJS (l0:SV) (s1:ByteArray) (w:World) (R:Rt) (h:F51_1 R l0 s1 [] w):Calls prog 51 #[l0.v,.string s1] w R:=
 plC F51_p func51 h
def xZf(R:Rt)(ds:Ds)(w:World):Prop:=
 zQe prog ds w λw1=>
 R (.returned (.tuple #[.int .i64 0,.bool false])) w1
def xQI (R:Rt) (J1:(Int)->World->Prop) (l0:SV) (s1:ByteArray) (n6:Int) (ds:Ds) (w:World):Prop:=
 Br (decide (n6<(l0.len:Int))) (
 ∃a2,l0.a=some a2/\0<=n6/\n6<(l0.len:Int)/\
 ∃s17,w.cell? (a2.add (n6.toNat * 4))=some (.string s17)/\
 Br (s17.toList == s1.toList) (
 zQe prog ds w λw3=>
 R (.returned (.tuple #[.int .i64 n6,.bool true])) w3) (
 J1 (IntKind.i64.wrap (n6+1)) w)) (
 xZf R ds w)
def xZR(R:Rt)(l0:SV)(s1:ByteArray)(n6:Int)(ds:Ds)(w:World):Prop:=
 zQ8 (λ(J1:(Int)->World->Prop) (s:Int) (w:World)=>xQI R J1 l0 s1 s ds w) n6 w
def xZc(R:Rt)(l0:SV)(s1:ByteArray)(ds:Ds)(w:World):Prop:=
 xZR R l0 s1 0 ds w
theorem F122_p:Pl prog f122 [lS 0,sS 1] xZc:=λR=>
 pc 2 (zQz [lS 0,sS 1,iS 6] (xZR R) (bk 0 (zQz [] (xZf R) lf) (lp [iS 6] [lS 0,sS 1,iS 6] (xQI R) zXs λJ1=>lf)))
theorem yZx (l0:SV) (s1:ByteArray) (w:World) (R:Rt) (h:xZc R l0 s1 [] w):Calls prog 122 #[l0.v,.string s1] w R:=
 plC F122_p func122 h
end Go.Proofs.YtcihcbfcgjepfaaGreatDoor
/- Shallow texts of functions, printed by program, each checked by the kernel against the loaded code. No condition. -/
namespace Go.Proofs.YtcihcbfcgjepfaaGreatDoor
open Go.Sh Tryz
def F38_1(R:Rt)(ds:Ds)(w:World):Prop:=
 zQe prog ds w λw1=>
 R (.returned (.int .i64 0)) w1
def xJ8 (R:Rt) (J1:(Int)->World->Prop) (p1:Option Addr) (dT:SV) (iL fj:Int) (ds:Ds) (w:World):Prop:=
 J1 (IntKind.i64.wrap (fj+1)) w
def F38_3 (R:Rt) (J1:(Int)->World->Prop) (J2:(Int)->World->Prop) (p1 p5:Option Addr) (dT:SV) (iL fj:Int) (di:SV) (mR fU:Int) (ds:Ds) (w:World):Prop:=
 Br (decide (fU<mR)) (
 ∃a2,di.a=some a2/\0<=fU/\fU<(di.len:Int)/\
 ∃xg,w.cell? ((a2.add (fU.toNat * 4)).add 0)=some (.string xg)/\
 ∃xh,w.cell? ((a2.add (fU.toNat * 4)).add 1)=some (.int .i64 xh)/\
 ∃xi,w.cell? ((a2.add (fU.toNat * 4)).add 2)=some (.int .i64 xi)/\
 ∃xj,w.cell? ((a2.add (fU.toNat * 4)).add 3)=some (.bool xj)/\
 alE (.cells #[.string (⟨#[]⟩:ByteArray),.int .i64 0,.int .i64 0,.bool false] 38) w λr7 w3=>
 stA prog 38 (⟨r7,0,none⟩:Addr) #[.string xg,.int .i64 xh,.int .i64 xi,.bool xj] w3 λw4=>
 dwE w4 λw5=>
 ∃xk,w5.cell? ((⟨r7,0,none⟩:Addr).add 0)=some (.string xk)/\
 ∃xm,w5.cell? ((⟨r7,0,none⟩:Addr).add 1)=some (.int .i64 xm)/\
 ∃xp,w5.cell? ((⟨r7,0,none⟩:Addr).add 2)=some (.int .i64 xp)/\
 ∃xq,w5.cell? ((⟨r7,0,none⟩:Addr).add 3)=some (.bool xq)/\
 zQi p1 λa6=>
 ∃kX,w5.cell? a6=some (.int .i64 kX)/\
 zQi p5 λa7=>
 ∃pV:SV,w5.cell? (a7.add 1)=some (pV.v)/\
 ∃a8,pV.a=some a8/\0<=fU/\fU<(pV.len:Int)/\
 ∃li,w5.cell? ((a8.add (fU.toNat * 3)).add 0)=some (.int .i64 li)/\
 ∃lj,w5.cell? ((a8.add (fU.toNat * 3)).add 1)=some (.int .i64 lj)/\
 ∃ll,w5.cell? ((a8.add (fU.toNat * 3)).add 2)=some (.string ll)/\
 Calls prog 94 #[.agg #[.string xk,.int .i64 xm,.int .i64 xp,.bool xq],.int .i64 kX,.agg #[.int .i64 li,.int .i64 lj,.string ll]] w5 λe w9=>
 ∃b52:Bool,e=.returned (.bool b52)/\
 Br (!b52) (
 zQe prog ds w9 λau=>
 R (.returned (.int .i64 1)) au) (
 J2 (IntKind.i64.wrap (fU+1)) w9)) (
 xJ8 R J1 p1 dT iL fj ds w)
def F38_4 (R:Rt) (J1:(Int)->World->Prop) (p1 p5:Option Addr) (dT:SV) (iL fj:Int) (di:SV) (mR fU:Int) (ds:Ds) (w:World):Prop:=
 zQ8 (λ(J2:(Int)->World->Prop) (s:Int) (w:World)=>F38_3 R J1 J2 p1 p5 dT iL fj di mR s ds w) fU w
def F38_6 (R:Rt) (J1:(Int)->World->Prop) (p1:Option Addr) (dT:SV) (iL fj:Int) (ds:Ds) (w:World):Prop:=
 ∃gO,dT.a=some gO/\0<=fj/\fj<(dT.len:Int)/\
 ∃jz,w.cell? ((gO.add (fj.toNat * 2)).add 0)=some (.bool jz)/\
 ∃bW:SV,w.cell? ((gO.add (fj.toNat * 2)).add 1)=some (bW.v)/\
 alE (.cells #[.bool false,.slice none 0 0] 77) w λr5 ao=>
 stA prog 77 (⟨r5,0,none⟩:Addr) #[.bool jz,bW.v] ao λaE=>
 ∃cL:SV,aE.cell? ((⟨r5,0,none⟩:Addr).add 1)=some (cL.v)/\
 zQi p1 λfi=>
 ∃vi:SV,aE.cell? (fi.add 1)=some (vi.v)/\
 Br ((cL.len:Int) != (vi.len:Int)) (
 zQe prog ds aE λaD=>
 R (.returned (.int .i64 10)) aD) (
 zQi p1 λna=>
 ∃di:SV,aE.cell? (na.add 1)=some (di.v)/\
 F38_4 R J1 p1 (some (⟨r5,0,none⟩:Addr)) dT iL fj di (di.len:Int) 0 ds aE)
def F38_8 (R:Rt) (J1:(Int)->World->Prop) (p1:Option Addr) (dT:SV) (iL fj:Int) (ds:Ds) (w:World):Prop:=
 Br (decide (fj<iL)) (
 F38_6 R J1 p1 dT iL fj ds w) (
 F38_1 R ds w)
def F38_9(R:Rt)(p1:Option Addr)(dT:SV)(iL fj:Int)(ds:Ds)(w:World):Prop:=
 zQ8 (λ(J1:(Int)->World->Prop) (s:Int) (w:World)=>F38_8 R J1 p1 dT iL s ds w) fj w
def xJa(R:Rt)(az:Int)(ai ax:SV)(ds:Ds)(w:World):Prop:=
 alE (.cells #[.int .i64 az,ai.v,ax.v] 25) w λr1 br=>
 ∃n9,br.cell? (⟨r1,0,none⟩:Addr)=some (.int .i64 n9)/\
 Calls prog 92 #[.int .i64 n9] br λe bD=>
 ∃iG:Bool,e=.returned (.bool iG)/\
 Br (!iG) (
 zQe prog ds bD λbE=>
 R (.returned (.int .i64 1)) bE) (
 ∃dU:SV,bD.cell? ((⟨r1,0,none⟩:Addr).add 1)=some (dU.v)/\
 Calls prog 93 #[dU.v] bD λe cX=>
 ∃j7:Int,e=.returned (.int .i64 j7)/\
 Br (j7 != 0) (
 zQe prog ds cX λcO=>
 R (.returned (.int .i64 j7)) cO) (
 ∃dN:SV,cX.cell? ((⟨r1,0,none⟩:Addr).add 2)=some (dN.v)/\
 Br (decide ((dN.len:Int) > 300)) (
 zQe prog ds cX λcS=>
 R (.returned (.int .i64 3)) cS) (
 ∃dT:SV,cX.cell? ((⟨r1,0,none⟩:Addr).add 2)=some (dT.v)/\
 F38_9 R (some (⟨r1,0,none⟩:Addr)) dT (dT.len:Int) 0 ds cX)))
theorem F38_p:Pl prog f38 [aS 0 [.int .i64,.slice,.slice]] xJa:=λR=>
 pc 9 (zQz [pS 1,lS 23,iS 24,iS 25] (F38_9 R) (bk 0 (zQz [] (F38_1 R) lf) (lp [iS 25] [pS 1,lS 23,iS 24,iS 25] (F38_8 R) zXs λJ1=>pc 2 (zQz [pS 1,lS 23,iS 24,iS 25] (F38_6 R J1) (bk 1 (zQz [pS 1,lS 23,iS 24,iS 25] (xJ8 R J1) lf) (pc 4 (zQz [pS 1,pS 5,lS 23,iS 24,iS 25,lS 37,iS 38,iS 39] (F38_4 R J1) (bk 2 zXs (lp [iS 39] [pS 1,pS 5,lS 23,iS 24,iS 25,lS 37,iS 38,iS 39] (F38_3 R J1) zXs λJ2=>lf)))))))))
theorem yVu (az:Int) (ai ax:SV) (w:World) (R:Rt) (h:xJa R az ai ax [] w):Calls prog 38 #[.agg #[.int .i64 az,ai.v,ax.v]] w R:=
 plC F38_p func38 h
def F94_1(R:Rt)(aL:ByteArray)(aA aK:Int)(aM:Bool)(n1 bF bG:Int)(cC:ByteArray)(ds:Ds)(w:World):Prop:=
 alE (.cells #[.string aL,.int .i64 aA,.int .i64 aK,.bool aM] 38) w λr3 w1=>
 alE (.cells #[.int .i64 bF,.int .i64 bG,.string cC] 28) w1 λr5 w2=>
 ∃ia,w2.cell? (⟨r5,0,none⟩:Addr)=some (.int .i64 ia)/\
 Br (ia == 0) (
 ∃wZ,w2.cell? ((⟨r3,0,none⟩:Addr).add 3)=some (.bool wZ)/\
 Br wZ (
 ∃fV,w2.cell? ((⟨r5,0,none⟩:Addr).add 0)=some (.int .i64 fV)/\
 ∃jy,w2.cell? ((⟨r5,0,none⟩:Addr).add 1)=some (.int .i64 jy)/\
 ∃nK,w2.cell? ((⟨r5,0,none⟩:Addr).add 2)=some (.string nK)/\
 ∃b17:Bool,∃w3,(eqS .eql 28 (.tmp 15) (.tmp 16) (.agg #[.int .i64 fV,.int .i64 jy,.string nK]) (.agg #[.int .i64 0,.int .i64 0,.string (⟨#[]⟩:ByteArray)])).run prog w2=.ok (.bool b17) w3/\
 zQe prog ds w3 λw4=>
 R (.returned (.bool b17)) w4) (
 zQe prog ds w2 λw5=>
 R (.returned (.bool false)) w5)) (
 ∃fq,w2.cell? ((⟨r5,0,none⟩:Addr).add 0)=some (.int .i64 fq)/\
 ∃dH,w2.cell? ((⟨r5,0,none⟩:Addr).add 1)=some (.int .i64 dH)/\
 ∃nN,w2.cell? ((⟨r5,0,none⟩:Addr).add 2)=some (.string nN)/\
 Calls prog 107 #[.agg #[.int .i64 fq,.int .i64 dH,.string nN]] w2 λe w6=>
 ∃fD:Int,e=.returned (.int .i64 fD)/\
 Br (fD != 0) (
 zQe prog ds w6 λw7=>
 R (.returned (.bool false)) w7) (
 ∃jA,w6.cell? ((⟨r3,0,none⟩:Addr).add 0)=some (.string jA)/\
 ∃bM,w6.cell? ((⟨r3,0,none⟩:Addr).add 1)=some (.int .i64 bM)/\
 ∃jB,w6.cell? ((⟨r3,0,none⟩:Addr).add 2)=some (.int .i64 jB)/\
 ∃jC,w6.cell? ((⟨r3,0,none⟩:Addr).add 3)=some (.bool jC)/\
 ∃xt,w6.cell? ((⟨r5,0,none⟩:Addr).add 0)=some (.int .i64 xt)/\
 ∃xu,w6.cell? ((⟨r5,0,none⟩:Addr).add 1)=some (.int .i64 xu)/\
 ∃xw,w6.cell? ((⟨r5,0,none⟩:Addr).add 2)=some (.string xw)/\
 Calls prog 52 #[.agg #[.string jA,.int .i64 bM,.int .i64 jB,.bool jC],.int .i64 n1,.agg #[.int .i64 xt,.int .i64 xu,.string xw]] w6 λe w8=>
 ∃qn:Int,∃qo:Int,∃qp:ByteArray,∃jk:Int,e=.returned (.tuple #[.agg #[.int .i64 qn,.int .i64 qo,.string qp],.int .i64 jk])/\
 alE (.cells #[.int .i64 0,.int .i64 0,.string (⟨#[]⟩:ByteArray)] 28) w8 λr7 w9=>
 stA prog 28 (⟨r7,0,none⟩:Addr) #[.int .i64 qn,.int .i64 qo,.string qp] w9 λau=>
 Br (jk == 0) (
 ∃dc,au.cell? ((⟨r7,0,none⟩:Addr).add 0)=some (.int .i64 dc)/\
 ∃xx,au.cell? ((⟨r7,0,none⟩:Addr).add 1)=some (.int .i64 xx)/\
 ∃xy,au.cell? ((⟨r7,0,none⟩:Addr).add 2)=some (.string xy)/\
 ∃dG,au.cell? ((⟨r5,0,none⟩:Addr).add 0)=some (.int .i64 dG)/\
 ∃fM,au.cell? ((⟨r5,0,none⟩:Addr).add 1)=some (.int .i64 fM)/\
 ∃fN,au.cell? ((⟨r5,0,none⟩:Addr).add 2)=some (.string fN)/\
 ∃xz:Bool,∃av,(eqS .eql 28 (.tmp 32) (.tmp 33) (.agg #[.int .i64 dc,.int .i64 xx,.string xy]) (.agg #[.int .i64 dG,.int .i64 fM,.string fN])).run prog au=.ok (.bool xz) av/\
 zQe prog ds av λao=>
 R (.returned (.bool xz)) ao) (
 zQe prog ds au λaE=>
 R (.returned (.bool false)) aE)))
theorem F94_p:Pl prog f94 [aS 0 [.str,.int .i64,.int .i64,.bool],iS 1,aS 2 [.int .i64,.int .i64,.str]] F94_1:=λR=>
 lf
theorem yKV (aL:ByteArray) (aA aK:Int) (aM:Bool) (n1 bF bG:Int) (cC:ByteArray) (w:World) (R:Rt) (h:F94_1 R aL aA aK aM n1 bF bG cC [] w):Calls prog 94 #[.agg #[.string aL,.int .i64 aA,.int .i64 aK,.bool aM],.int .i64 n1,.agg #[.int .i64 bF,.int .i64 bG,.string cC]] w R:=
 plC F94_p func94 h
def F12_1(R:Rt)(ds:Ds)(w:World):Prop:=
 zQe prog ds w λw1=>
 R (.returned (.int .i64 0)) w1
def F12_2 (R:Rt) (J1:(Int)->World->Prop) (p1:Option Addr) (n4:Int) (ds:Ds) (w:World):Prop:=
 zQi p1 λa2=>
 ∃gD:SV,w.cell? (a2.add 2)=some (gD.v)/\
 Br (decide (n4<(gD.len:Int))) (
 dwE w λw3=>
 zQi p1 λa4=>
 ∃pI:SV,w3.cell? (a4.add 1)=some (pI.v)/\
 zQi p1 λa5=>
 ∃sA,w3.cell? a5=some (.int .i64 sA)/\
 zQi p1 λa6=>
 ∃l32:SV,w3.cell? (a6.add 2)=some (l32.v)/\
 ∃a7,l32.a=some a7/\0<=n4/\n4<(l32.len:Int)/\
 ∃nO,w3.cell? ((a7.add (n4.toNat * 2)).add 0)=some (.bool nO)/\
 ∃dV:SV,w3.cell? ((a7.add (n4.toNat * 2)).add 1)=some (dV.v)/\
 Calls prog 43 #[pI.v,.int .i64 sA,.agg #[.bool nO,dV.v]] w3 λe w8=>
 ∃pU:Int,e=.returned (.int .i64 pU)/\
 Br (pU != 0) (
 zQe prog ds w8 λw9=>
 R (.returned (.int .i64 pU)) w9) (
 J1 (IntKind.i64.wrap (n4+1)) w8)) (
 F12_1 R ds w)
def F12_3(R:Rt)(p1:Option Addr)(n4:Int)(ds:Ds)(w:World):Prop:=
 zQ8 (λ(J1:(Int)->World->Prop) (s:Int) (w:World)=>F12_2 R J1 p1 s ds w) n4 w
def F12_5(R:Rt)(az:Int)(ai ax:SV)(ds:Ds)(w:World):Prop:=
 alE (.cells #[.int .i64 az,ai.v,ax.v] 25) w λr1 au=>
 ∃n7,au.cell? (⟨r1,0,none⟩:Addr)=some (.int .i64 n7)/\
 Calls prog 41 #[.int .i64 n7] au λe av=>
 ∃b8:Bool,e=.returned (.bool b8)/\
 Br (!b8) (
 zQe prog ds av λao=>
 R (.returned (.int .i64 1)) ao) (
 ∃sC:SV,av.cell? ((⟨r1,0,none⟩:Addr).add 1)=some (sC.v)/\
 Calls prog 42 #[sC.v] av λe aE=>
 ∃fo:Int,e=.returned (.int .i64 fo)/\
 Br (fo != 0) (
 zQe prog ds aE λaI=>
 R (.returned (.int .i64 fo)) aI) (
 ∃de:SV,aE.cell? ((⟨r1,0,none⟩:Addr).add 2)=some (de.v)/\
 Br (decide ((de.len:Int) > 300)) (
 zQe prog ds aE λaD=>
 R (.returned (.int .i64 3)) aD) (
 F12_3 R (some (⟨r1,0,none⟩:Addr)) 0 ds aE)))
theorem F12_p:Pl prog f12 [aS 0 [.int .i64,.slice,.slice]] F12_5:=λR=>
 pc 9 (zQz [pS 1,iS 4] (F12_3 R) (bk 0 (zQz [] (F12_1 R) lf) (lp [iS 4] [pS 1,iS 4] (F12_2 R) zXs λJ1=>lf)))
theorem yW1 (az:Int) (ai ax:SV) (w:World) (R:Rt) (h:F12_5 R az ai ax [] w):Calls prog 12 #[.agg #[.int .i64 az,ai.v,ax.v]] w R:=
 plC F12_p func12 h
def F43_1(R:Rt)(ds:Ds)(w:World):Prop:=
 zQe prog ds w λw1=>
 R (.returned (.int .i64 0)) w1
def F43_2 (R:Rt) (J1:(Int)->World->Prop) (l0:SV) (n1:Int) (p5:Option Addr) (n7:Int) (ds:Ds) (w:World):Prop:=
 Br (decide (n7<(l0.len:Int))) (
 dwE w λw2=>
 ∃a3,l0.a=some a3/\0<=n7/\n7<(l0.len:Int)/\
 ∃jA,w2.cell? ((a3.add (n7.toNat * 4)).add 0)=some (.string jA)/\
 ∃bM,w2.cell? ((a3.add (n7.toNat * 4)).add 1)=some (.int .i64 bM)/\
 ∃jB,w2.cell? ((a3.add (n7.toNat * 4)).add 2)=some (.int .i64 jB)/\
 ∃jC,w2.cell? ((a3.add (n7.toNat * 4)).add 3)=some (.bool jC)/\
 zQi p5 λa4=>
 ∃nb:SV,w2.cell? (a4.add 1)=some (nb.v)/\
 ∃a5,nb.a=some a5/\0<=n7/\n7<(nb.len:Int)/\
 ∃jD,w2.cell? ((a5.add (n7.toNat * 3)).add 0)=some (.int .i64 jD)/\
 ∃xA,w2.cell? ((a5.add (n7.toNat * 3)).add 1)=some (.int .i64 xA)/\
 ∃xB,w2.cell? ((a5.add (n7.toNat * 3)).add 2)=some (.string xB)/\
 Calls prog 96 #[.agg #[.string jA,.int .i64 bM,.int .i64 jB,.bool jC],.int .i64 n1,.agg #[.int .i64 jD,.int .i64 xA,.string xB]] w2 λe w6=>
 ∃wM:Bool,e=.returned (.bool wM)/\
 Br (!wM) (
 zQe prog ds w6 λw7=>
 R (.returned (.int .i64 1)) w7) (
 J1 (IntKind.i64.wrap (n7+1)) w6)) (
 F43_1 R ds w)
def F43_3(R:Rt)(l0:SV)(n1:Int)(p5:Option Addr)(n7:Int)(ds:Ds)(w:World):Prop:=
 zQ8 (λ(J1:(Int)->World->Prop) (s:Int) (w:World)=>F43_2 R J1 l0 n1 p5 s ds w) n7 w
def F43_5(R:Rt)(l0:SV)(n1:Int)(vE:Bool)(nP:SV)(ds:Ds)(w:World):Prop:=
 alE (.cells #[.bool vE,nP.v] 77) w λr5 w8=>
 ∃l9:SV,w8.cell? ((⟨r5,0,none⟩:Addr).add 1)=some (l9.v)/\
 Br ((l9.len:Int) != (l0.len:Int)) (
 zQe prog ds w8 λw9=>
 R (.returned (.int .i64 10)) w9) (
 F43_3 R l0 n1 (some (⟨r5,0,none⟩:Addr)) 0 ds w8)
theorem F43_p:Pl prog f43 [lS 0,iS 1,aS 2 [.bool,.slice]] F43_5:=λR=>
 pc 4 (zQz [lS 0,iS 1,pS 5,iS 7] (F43_3 R) (bk 0 (zQz [] (F43_1 R) lf) (lp [iS 7] [lS 0,iS 1,pS 5,iS 7] (F43_2 R) zXs λJ1=>lf)))
theorem yWk (l0:SV) (n1:Int) (vE:Bool) (nP:SV) (w:World) (R:Rt) (h:F43_5 R l0 n1 vE nP [] w):Calls prog 43 #[l0.v,.int .i64 n1,.agg #[.bool vE,nP.v]] w R:=
 plC F43_p func43 h
end Go.Proofs.YtcihcbfcgjepfaaGreatDoor
/- Shallow texts of functions, printed by program, each checked by the kernel against the loaded code. No condition. -/
namespace Go.Proofs.YtcihcbfcgjepfaaGreatDoor
open Go.Sh Tryz
def F72_1(R:Rt)(ds:Ds)(w:World):Prop:=
 zQe prog ds w λw1=>
 R (.returned (.bool true)) w1
def F72_2 (R:Rt) (J1:(Int)->World->Prop) (l0 l1:SV) (n5:Int) (ds:Ds) (w:World):Prop:=
 Br (decide (n5<(l0.len:Int))) (
 dwE w λw2=>
 ∃a3,l0.a=some a3/\0<=n5/\n5<(l0.len:Int)/\
 ∃fD,w2.cell? (a3.add (n5.toNat * 1))=some (.int .i64 fD)/\
 ∃a4,l1.a=some a4/\0<=n5/\n5<(l1.len:Int)/\
 ∃iL,w2.cell? (a4.add (n5.toNat * 1))=some (.int .i64 iL)/\
 Br (fD != iL) (
 zQe prog ds w2 λw5=>
 R (.returned (.bool false)) w5) (
 J1 (IntKind.i64.wrap (n5+1)) w2)) (
 F72_1 R ds w)
def F72_3(R:Rt)(l0 l1:SV)(n5:Int)(ds:Ds)(w:World):Prop:=
 zQ8 (λ(J1:(Int)->World->Prop) (s:Int) (w:World)=>F72_2 R J1 l0 l1 s ds w) n5 w
def F72_5(R:Rt)(l0 l1:SV)(ds:Ds)(w:World):Prop:=
 Br ((l0.len:Int) != (l1.len:Int)) (
 zQe prog ds w λw6=>
 R (.returned (.bool false)) w6) (
 F72_3 R l0 l1 0 ds w)
theorem F72_p:Pl prog f72 [lS 0,lS 1] F72_5:=λR=>
 pc 4 (zQz [lS 0,lS 1,iS 5] (F72_3 R) (bk 0 (zQz [] (F72_1 R) lf) (lp [iS 5] [lS 0,lS 1,iS 5] (F72_2 R) zXs λJ1=>lf)))
theorem yV6 (l0 l1:SV) (w:World) (R:Rt) (h:F72_5 R l0 l1 [] w):Calls prog 72 #[l0.v,l1.v] w R:=
 plC F72_p func72 h
end Go.Proofs.YtcihcbfcgjepfaaGreatDoor
/- Shallow texts of functions, printed by program, each checked by the kernel against the loaded code. No condition. -/
namespace Go.Proofs.YtcihcbfcgjepfaaGreatDoor
open Go.Sh Tryz
def F36_1(R:Rt)(n3:Int)(ds:Ds)(w:World):Prop:=
 zQe prog ds w λw1=>
 R (.returned (.int .i64 n3)) w1
def F36_2 (R:Rt) (J1:(Int × Int)->World->Prop) (p1:Option Addr) (n3 n5:Int) (ds:Ds) (w:World):Prop:=
 zQi p1 λa2=>
 ∃pI:SV,w.cell? (a2.add 2)=some (pI.v)/\
 Br (decide (n5<(pI.len:Int))) (
 zQi p1 λa3=>
 ∃rZ:SV,w.cell? (a3.add 2)=some (rZ.v)/\
 ∃a4,rZ.a=some a4/\0<=n5/\n5<(rZ.len:Int)/\
 ∃kM:SV,w.cell? ((a4.add (n5.toNat * 2)).add 1)=some (kM.v)/\
 Calls prog 91 #[kM.v] w λe w5=>
 ∃gl:Int,e=.returned (.int .i64 gl)/\
 J1 ((IntKind.i64.wrap (n3+(IntKind.i64.wrap ((8:Int)+gl)))),(IntKind.i64.wrap (n5+1))) w5) (
 F36_1 R n3 ds w)
def F36_3(R:Rt)(p1:Option Addr)(n3 n5:Int)(ds:Ds)(w:World):Prop:=
 zQ8 (λ(J1:(Int × Int)->World->Prop) (s:Int × Int) (w:World)=>F36_2 R J1 p1 s.1 s.2 ds w) (n3,n5) w
def F36_5(R:Rt)(p1:Option Addr)(n3:Int)(ds:Ds)(w:World):Prop:=
 F36_3 R p1 n3 0 ds w
def F36_6 (R:Rt) (J1:(Int × Int)->World->Prop) (p1:Option Addr) (n3 n4:Int) (ds:Ds) (w:World):Prop:=
 zQi p1 λa6=>
 ∃jP:SV,w.cell? (a6.add 1)=some (jP.v)/\
 Br (decide (n4<(jP.len:Int))) (
 zQi p1 λa7=>
 ∃dN:SV,w.cell? (a7.add 1)=some (dN.v)/\
 ∃a8,dN.a=some a8/\0<=n4/\n4<(dN.len:Int)/\
 ∃s23,w.cell? (a8.add (n4.toNat * 4))=some (.string s23)/\
 J1 ((IntKind.i64.wrap (n3+(s23.size:Int))),(IntKind.i64.wrap (n4+1))) w) (
 F36_5 R p1 n3 ds w)
def F36_7(R:Rt)(p1:Option Addr)(n3 n4:Int)(ds:Ds)(w:World):Prop:=
 zQ8 (λ(J1:(Int × Int)->World->Prop) (s:Int × Int) (w:World)=>F36_6 R J1 p1 s.1 s.2 ds w) (n3,n4) w
def F36_9(R:Rt)(az:Int)(ai ax:SV)(ds:Ds)(w:World):Prop:=
 alE (.cells #[.int .i64 az,ai.v,ax.v] 25) w λr1 w9=>
 ∃l7:SV,w9.cell? ((⟨r1,0,none⟩:Addr).add 1)=some (l7.v)/\
 F36_7 R (some (⟨r1,0,none⟩:Addr)) (IntKind.i64.wrap ((16:Int) * (l7.len:Int))) 0 ds w9
theorem F36_p:Pl prog f36 [aS 0 [.int .i64,.slice,.slice]] F36_9:=λR=>
 pc 3 (zQz [pS 1,iS 3,iS 4] (F36_7 R) (bk 0 (zQz [pS 1,iS 3] (F36_5 R) (pc 1 (zQz [pS 1,iS 3,iS 5] (F36_3 R) (bk 2 (zQz [iS 3] (F36_1 R) lf) (lp [iS 3,iS 5] [pS 1,iS 3,iS 5] (F36_2 R) zXs λJ1=>lf))))) (lp [iS 3,iS 4] [pS 1,iS 3,iS 4] (F36_6 R) zXs λJ1=>lf)))
theorem yVj (az:Int) (ai ax:SV) (w:World) (R:Rt) (h:F36_9 R az ai ax [] w):Calls prog 36 #[.agg #[.int .i64 az,ai.v,ax.v]] w R:=
 plC F36_p func36 h
def F91_1(R:Rt)(n3:Int)(ds:Ds)(w:World):Prop:=
 zQe prog ds w λw1=>
 R (.returned (.int .i64 n3)) w1
def F91_2 (R:Rt) (J1:(Int × Int)->World->Prop) (l0:SV) (n3 n4:Int) (ds:Ds) (w:World):Prop:=
 Br (decide (n4<(l0.len:Int))) (
 ∃a2,l0.a=some a2/\0<=n4/\n4<(l0.len:Int)/\
 ∃nk,w.cell? ((a2.add (n4.toNat * 3)).add 2)=some (.string nk)/\
 J1 ((IntKind.i64.wrap (n3+(nk.size:Int))),(IntKind.i64.wrap (n4+1))) w) (
 F91_1 R n3 ds w)
def F91_3(R:Rt)(l0:SV)(n3 n4:Int)(ds:Ds)(w:World):Prop:=
 zQ8 (λ(J1:(Int × Int)->World->Prop) (s:Int × Int) (w:World)=>F91_2 R J1 l0 s.1 s.2 ds w) (n3,n4) w
def F91_5(R:Rt)(l0:SV)(ds:Ds)(w:World):Prop:=
 F91_3 R l0 (IntKind.i64.wrap ((8:Int) * (l0.len:Int))) 0 ds w
theorem F91_p:Pl prog f91 [lS 0] F91_5:=λR=>
 pc 3 (zQz [lS 0,iS 3,iS 4] (F91_3 R) (bk 0 (zQz [iS 3] (F91_1 R) lf) (lp [iS 3,iS 4] [lS 0,iS 3,iS 4] (F91_2 R) zXs λJ1=>lf)))
theorem yWF (l0:SV) (w:World) (R:Rt) (h:F91_5 R l0 [] w):Calls prog 91 #[l0.v] w R:=
 plC F91_p func91 h
end Go.Proofs.YtcihcbfcgjepfaaGreatDoor
/- Shallow texts of functions, printed by program, each checked by the kernel against the loaded code. No condition. -/
namespace Go.Proofs.YtcihcbfcgjepfaaGreatDoor
open Go.Sh Tryz
def F19_1(R:Rt)(az aA:Int)(dd:ByteArray)(cF ib:Int)(mT:ByteArray)(ds:Ds)(w:World):Prop:=
 alE (.cells #[.int .i64 az,.int .i64 aA,.string dd] 28) w λr2 w1=>
 alE (.cells #[.int .i64 cF,.int .i64 ib,.string mT] 28) w1 λr3 w2=>
 ∃n6,w2.cell? (⟨r2,0,none⟩:Addr)=some (.int .i64 n6)/\
 ∃n8,w2.cell? (⟨r3,0,none⟩:Addr)=some (.int .i64 n8)/\
 Br (n6 == n8) (
 ∃fo,w2.cell? ((⟨r2,0,none⟩:Addr).add 1)=some (.int .i64 fo)/\
 ∃j7,w2.cell? ((⟨r3,0,none⟩:Addr).add 1)=some (.int .i64 j7)/\
 Br (fo == j7) (
 ∃nk,w2.cell? ((⟨r2,0,none⟩:Addr).add 2)=some (.string nk)/\
 ∃s21,w2.cell? ((⟨r3,0,none⟩:Addr).add 2)=some (.string s21)/\
 zQe prog ds w2 λw3=>
 R (.returned (.bool (nk.toList == s21.toList))) w3) (
 zQe prog ds w2 λw4=>
 R (.returned (.bool false)) w4)) (
 zQe prog ds w2 λw5=>
 R (.returned (.bool false)) w5)
theorem F19_p:Pl prog f19 [aS 0 [.int .i64,.int .i64,.str],aS 1 [.int .i64,.int .i64,.str]] F19_1:=λR=>
 lf
theorem yWg (az aA:Int) (dd:ByteArray) (cF ib:Int) (mT:ByteArray) (w:World) (R:Rt) (h:F19_1 R az aA dd cF ib mT [] w):Calls prog 19 #[.agg #[.int .i64 az,.int .i64 aA,.string dd],.agg #[.int .i64 cF,.int .i64 ib,.string mT]] w R:=
 plC F19_p func19 h
end Go.Proofs.YtcihcbfcgjepfaaGreatDoor
/- Shallow texts of functions, printed by program, each checked by the kernel against the loaded code. No condition. -/
namespace Go.Proofs.YtcihcbfcgjepfaaGreatDoor
open Go.Sh Tryz
def F81_1(R:Rt)(p2 p5:Option Addr)(ds:Ds)(w:World):Prop:=
 zQi p5 λa1=>
 ∃jz,w.cell? (a1.add 0)=some (.bool jz)/\
 ∃bW:SV,w.cell? (a1.add 1)=some (bW.v)/\
 zQi p2 λa2=>
 stA prog 77 a2 #[.bool jz,bW.v] w λw3=>
 zQe prog ds w3 λw4=>
 zQi p2 λa5=>
 ∃aC,w4.cell? (a5.add 0)=some (.bool aC)/\
 ∃af:SV,w4.cell? (a5.add 1)=some (af.v)/\
 R (.returned (.tuple #[.agg #[.bool aC,af.v],.int .i64 0])) w4
def F81_2 (R:Rt) (J1:(Int)->World->Prop) (p2 p5:Option Addr) (fy:SV) (pH cE:Int) (ds:Ds) (w:World):Prop:=
 Br (decide (cE<pH)) (
 ∃a6,fy.a=some a6/\0<=cE/\cE<(fy.len:Int)/\
 ∃ju,w.cell? ((a6.add (cE.toNat * 4)).add 0)=some (.string ju)/\
 ∃dH,w.cell? ((a6.add (cE.toNat * 4)).add 1)=some (.int .i64 dH)/\
 ∃jv,w.cell? ((a6.add (cE.toNat * 4)).add 2)=some (.int .i64 jv)/\
 ∃jw,w.cell? ((a6.add (cE.toNat * 4)).add 3)=some (.bool jw)/\
 alE (.cells #[.string (⟨#[]⟩:ByteArray),.int .i64 0,.int .i64 0,.bool false] 38) w λr7 w7=>
 stA prog 38 (⟨r7,0,none⟩:Addr) #[.string ju,.int .i64 dH,.int .i64 jv,.bool jw] w7 λw8=>
 dwE w8 λw9=>
 ∃S1:World->Prop,S1 w9/\
 zQi p5 λcW=>
 ∃cI:SV,(∀w',S1 w'->w'.cell? (cW.add 1)=some (cI.v))/\
 ∃xC,(∀w',S1 w'->w'.cell? ((⟨r7,0,none⟩:Addr).add 0)=some (.string xC))/\
 ∃ln,(∀w',S1 w'->w'.cell? ((⟨r7,0,none⟩:Addr).add 1)=some (.int .i64 ln))/\
 ∃xD,(∀w',S1 w'->w'.cell? ((⟨r7,0,none⟩:Addr).add 2)=some (.int .i64 xD))/\
 ∃xE,(∀w',S1 w'->w'.cell? ((⟨r7,0,none⟩:Addr).add 3)=some (.bool xE))/\
 Calls prog 108 #[.agg #[.string xC,.int .i64 ln,.int .i64 xD,.bool xE]] w9 λe av=>
 ∃ic:Int,∃bM:Int,∃nQ:ByteArray,e=.returned (.agg #[.int .i64 ic,.int .i64 bM,.string nQ])/\
 S1 av/\
 alE (.cells #[.int .i64 ic,.int .i64 bM,.string nQ] 28) av λr24 ao=>
 S1 ao/\
 ∃mU:SV,∃aE,(Builtin.append_ #[75,75] 75 #[cI.v,.slice (some ⟨r24,0,none⟩) 1 1]).run prog ao=.ok (mU.v) aE/\
 zQi p5 λfi=>
 st1 (fi.add 1) (mU.v) aE λaD=>
 J1 (IntKind.i64.wrap (cE+1)) aD) (
 F81_1 R p2 p5 ds w)
def F81_3(R:Rt)(p2 p5:Option Addr)(fy:SV)(pH cE:Int)(ds:Ds)(w:World):Prop:=
 zQ8 (λ(J1:(Int)->World->Prop) (s:Int) (w:World)=>F81_2 R J1 p2 p5 fy pH s ds w) cE w
def F81_5(R:Rt)(l0:SV)(ds:Ds)(w:World):Prop:=
 alE (.cells #[.bool false,.slice none 0 0] 77) w λr2 aU=>
 Calls prog 93 #[l0.v] aU λe br=>
 ∃n9:Int,e=.returned (.int .i64 n9)/\
 Br (n9 != 0) (
 stA prog 77 (⟨r2,0,none⟩:Addr) #[.bool false,.slice none 0 0] br λbD=>
 zQe prog ds bD λbE=>
 ∃aC,bE.cell? ((⟨r2,0,none⟩:Addr).add 0)=some (.bool aC)/\
 ∃af:SV,bE.cell? ((⟨r2,0,none⟩:Addr).add 1)=some (af.v)/\
 R (.returned (.tuple #[.agg #[.bool aC,af.v],.int .i64 n9])) bE) (
 alE (.cells #[.bool false,.slice none 0 0] 77) br λr5 cX=>
 F81_3 R (some (⟨r2,0,none⟩:Addr)) (some (⟨r5,0,none⟩:Addr)) l0 (l0.len:Int) 0 ds cX)
theorem F81_p:Pl prog f81 [lS 0] F81_5:=λR=>
 pc 6 (zQz [pS 2,pS 5,lS 14,iS 15,iS 16] (F81_3 R) (bk 0 (zQz [pS 2,pS 5] (F81_1 R) lf) (lp [iS 16] [pS 2,pS 5,lS 14,iS 15,iS 16] (F81_2 R) zXs λJ1=>lf)))
theorem yVs (l0:SV) (w:World) (R:Rt) (h:F81_5 R l0 [] w):Calls prog 81 #[l0.v] w R:=
 plC F81_p func81 h
def xZq(R:Rt)(p2 p3:Option Addr)(ds:Ds)(w:World):Prop:=
 zQi p3 λa1=>
 ∃nT,w.cell? (a1.add 0)=some (.bool nT)/\
 ∃dW:SV,w.cell? (a1.add 1)=some (dW.v)/\
 zQi p2 λa2=>
 stA prog 77 a2 #[.bool nT,dW.v] w λw3=>
 zQe prog ds w3 λw4=>
 zQi p2 λa5=>
 ∃aC,w4.cell? (a5.add 0)=some (.bool aC)/\
 ∃af:SV,w4.cell? (a5.add 1)=some (af.v)/\
 R (.returned (.agg #[.bool aC,af.v])) w4
def xXO (R:Rt) (J1:(Int)->World->Prop) (l0:SV) (p2 p3:Option Addr) (n4:Int) (ds:Ds) (w:World):Prop:=
 Br (decide (n4<(l0.len:Int))) (
 dwE w λw6=>
 ∃S1:World->Prop,S1 w6/\
 zQi p3 λa7=>
 ∃jP:SV,(∀w',S1 w'->w'.cell? (a7.add 1)=some (jP.v))/\
 ∃a8,l0.a=some a8/\0<=n4/\n4<(l0.len:Int)/\
 ∃xF,(∀w',S1 w'->w'.cell? ((a8.add (n4.toNat * 4)).add 0)=some (.string xF))/\
 ∃jE,(∀w',S1 w'->w'.cell? ((a8.add (n4.toNat * 4)).add 1)=some (.int .i64 jE))/\
 ∃lq,(∀w',S1 w'->w'.cell? ((a8.add (n4.toNat * 4)).add 2)=some (.int .i64 lq))/\
 ∃xG,(∀w',S1 w'->w'.cell? ((a8.add (n4.toNat * 4)).add 3)=some (.bool xG))/\
 Calls prog 163 #[.agg #[.string xF,.int .i64 jE,.int .i64 lq,.bool xG]] w6 λe w9=>
 ∃cD:Int,∃fp:Int,∃jl:ByteArray,e=.returned (.agg #[.int .i64 cD,.int .i64 fp,.string jl])/\
 S1 w9/\
 alE (.cells #[.int .i64 cD,.int .i64 fp,.string jl] 28) w9 λr18 au=>
 S1 au/\
 ∃dN:SV,∃av,(Builtin.append_ #[75,75] 75 #[jP.v,.slice (some ⟨r18,0,none⟩) 1 1]).run prog au=.ok (dN.v) av/\
 zQi p3 λgL=>
 st1 (gL.add 1) (dN.v) av λaE=>
 J1 (IntKind.i64.wrap (n4+1)) aE) (
 xZq R p2 p3 ds w)
def xQx(R:Rt)(l0:SV)(p2 p3:Option Addr)(n4:Int)(ds:Ds)(w:World):Prop:=
 zQ8 (λ(J1:(Int)->World->Prop) (s:Int) (w:World)=>xXO R J1 l0 p2 p3 s ds w) n4 w
def xQZ(R:Rt)(l0:SV)(ds:Ds)(w:World):Prop:=
 alE (.cells #[.bool false,.slice none 0 0] 77) w λr2 aI=>
 alE (.cells #[.bool false,.slice none 0 0] 77) aI λr3 aD=>
 xQx R l0 (some (⟨r2,0,none⟩:Addr)) (some (⟨r3,0,none⟩:Addr)) 0 ds aD
theorem F125_p:Pl prog f125 [lS 0] xQZ:=λR=>
 pc 3 (zQz [lS 0,pS 2,pS 3,iS 4] (xQx R) (bk 0 (zQz [pS 2,pS 3] (xZq R) lf) (lp [iS 4] [lS 0,pS 2,pS 3,iS 4] (xXO R) zXs λJ1=>lf)))
theorem yZI (l0:SV) (w:World) (R:Rt) (h:xQZ R l0 [] w):Calls prog 125 #[l0.v] w R:=
 plC F125_p func125 h
def F60_1(R:Rt)(bH:Bool)(ai:SV)(df:Bool)(aJ:SV)(ds:Ds)(w:World):Prop:=
 alE (.cells #[.bool bH,ai.v] 77) w λr2 w1=>
 alE (.cells #[.bool df,aJ.v] 77) w1 λr3 w2=>
 ∃b6,w2.cell? (⟨r2,0,none⟩:Addr)=some (.bool b6)/\
 ∃b8,w2.cell? (⟨r3,0,none⟩:Addr)=some (.bool b8)/\
 Br (b6 == b8) (
 ∃jP:SV,w2.cell? ((⟨r2,0,none⟩:Addr).add 1)=some (jP.v)/\
 ∃fy:SV,w2.cell? ((⟨r3,0,none⟩:Addr).add 1)=some (fy.v)/\
 Calls prog 117 #[jP.v,fy.v] w2 λe w3=>
 ∃hZ:Bool,e=.returned (.bool hZ)/\
 zQe prog ds w3 λw4=>
 R (.returned (.bool hZ)) w4) (
 zQe prog ds w2 λw5=>
 R (.returned (.bool false)) w5)
theorem F60_p:Pl prog f60 [aS 0 [.bool,.slice],aS 1 [.bool,.slice]] F60_1:=λR=>
 lf
theorem yWX (bH:Bool) (ai:SV) (df:Bool) (aJ:SV) (w:World) (R:Rt) (h:F60_1 R bH ai df aJ [] w):Calls prog 60 #[.agg #[.bool bH,ai.v],.agg #[.bool df,aJ.v]] w R:=
 plC F60_p func60 h
def xXG(R:Rt)(ds:Ds)(w:World):Prop:=
 zQe prog ds w λw1=>
 R (.returned (.bool true)) w1
def xXR (R:Rt) (J1:(Int)->World->Prop) (l0 l1:SV) (n5:Int) (ds:Ds) (w:World):Prop:=
 Br (decide (n5<(l0.len:Int))) (
 dwE w λw2=>
 ∃a3,l0.a=some a3/\0<=n5/\n5<(l0.len:Int)/\
 ∃dD,w2.cell? ((a3.add (n5.toNat * 3)).add 0)=some (.int .i64 dD)/\
 ∃dE,w2.cell? ((a3.add (n5.toNat * 3)).add 1)=some (.int .i64 dE)/\
 ∃ny,w2.cell? ((a3.add (n5.toNat * 3)).add 2)=some (.string ny)/\
 ∃a4,l1.a=some a4/\0<=n5/\n5<(l1.len:Int)/\
 ∃dJ,w2.cell? ((a4.add (n5.toNat * 3)).add 0)=some (.int .i64 dJ)/\
 ∃cN,w2.cell? ((a4.add (n5.toNat * 3)).add 1)=some (.int .i64 cN)/\
 ∃nU,w2.cell? ((a4.add (n5.toNat * 3)).add 2)=some (.string nU)/\
 Calls prog 19 #[.agg #[.int .i64 dD,.int .i64 dE,.string ny],.agg #[.int .i64 dJ,.int .i64 cN,.string nU]] w2 λe w5=>
 ∃xH:Bool,e=.returned (.bool xH)/\
 Br (!xH) (
 zQe prog ds w5 λw6=>
 R (.returned (.bool false)) w6) (
 J1 (IntKind.i64.wrap (n5+1)) w5)) (
 xXG R ds w)
def xJh(R:Rt)(l0 l1:SV)(n5:Int)(ds:Ds)(w:World):Prop:=
 zQ8 (λ(J1:(Int)->World->Prop) (s:Int) (w:World)=>xXR R J1 l0 l1 s ds w) n5 w
def xXj(R:Rt)(l0 l1:SV)(ds:Ds)(w:World):Prop:=
 Br ((l0.len:Int) != (l1.len:Int)) (
 zQe prog ds w λw7=>
 R (.returned (.bool false)) w7) (
 xJh R l0 l1 0 ds w)
theorem F117_p:Pl prog f117 [lS 0,lS 1] xXj:=λR=>
 pc 4 (zQz [lS 0,lS 1,iS 5] (xJh R) (bk 0 (zQz [] (xXG R) lf) (lp [iS 5] [lS 0,lS 1,iS 5] (xXR R) zXs λJ1=>lf)))
theorem yJb (l0 l1:SV) (w:World) (R:Rt) (h:xXj R l0 l1 [] w):Calls prog 117 #[l0.v,l1.v] w R:=
 plC F117_p func117 h
end Go.Proofs.YtcihcbfcgjepfaaGreatDoor
/- Shallow texts of functions, printed by program, each checked by the kernel against the loaded code. No condition. -/
namespace Go.Proofs.YtcihcbfcgjepfaaGreatDoor
open Go.Sh Tryz
def F37_1(R:Rt)(n0:Int)(ds:Ds)(w:World):Prop:=
 alE (.cells #[.int .i64 0,.int .i64 0,.string (⟨#[]⟩:ByteArray)] 28) w λr2 w1=>
 stA prog 28 (⟨r2,0,none⟩:Addr) #[.int .i64 2,.int .i64 n0,.string (⟨#[]⟩:ByteArray)] w1 λw2=>
 zQe prog ds w2 λw3=>
 ∃aa,w3.cell? ((⟨r2,0,none⟩:Addr).add 0)=some (.int .i64 aa)/\
 ∃ac,w3.cell? ((⟨r2,0,none⟩:Addr).add 1)=some (.int .i64 ac)/\
 ∃ae,w3.cell? ((⟨r2,0,none⟩:Addr).add 2)=some (.string ae)/\
 R (.returned (.agg #[.int .i64 aa,.int .i64 ac,.string ae])) w3
theorem F37_p:Pl prog f37 [iS 0] F37_1:=λR=>
 lf
theorem yVo (n0:Int) (w:World) (R:Rt) (h:F37_1 R n0 [] w):Calls prog 37 #[.int .i64 n0] w R:=
 plC F37_p func37 h
end Go.Proofs.YtcihcbfcgjepfaaGreatDoor
/- Shallow texts of functions, printed by program, each checked by the kernel against the loaded code. No condition. -/
namespace Go.Proofs.YtcihcbfcgjepfaaGreatDoor
open Go.Sh Tryz
def F85_1(R:Rt)(p0:Option Addr)(ds:Ds)(w:World):Prop:=
 zQi p0 λa1=>
 Calls prog 138 #[.pointer (some a1)] w λe w2=>
 e=.returned (.tuple #[])/\
 zQe prog ds w2 λw3=>
 R (.returned (.tuple #[])) w3
theorem F85_p:Pl prog f85 [pS 0] F85_1:=λR=>
 lf
theorem yWn (p0:Option Addr) (w:World) (R:Rt) (h:F85_1 R p0 [] w):Calls prog 85 #[.pointer p0] w R:=
 plC F85_p func85 h
def F86_1(R:Rt)(p0:Option Addr)(ds:Ds)(w:World):Prop:=
 zQi p0 λa1=>
 Calls prog 139 #[.pointer (some a1)] w λe w2=>
 e=.returned (.tuple #[])/\
 zQe prog ds w2 λw3=>
 R (.returned (.tuple #[])) w3
theorem F86_p:Pl prog f86 [pS 0] F86_1:=λR=>
 lf
theorem yZK (p0:Option Addr) (w:World) (R:Rt) (u:FrameMode) (h:F86_1 R p0 [] w):CallsD prog 86 #[.pointer p0] u w λe u' w'=>u'=u/\R e w':=
 plD F86_p func86 u h
def xQR(R:Rt)(p0:Option Addr)(ds:Ds)(w:World):Prop:=
 ∃w1,(callFunc 168 #[]).run prog w=.ok (.value (.tuple #[])) w1/\
 zQi p0 λa2=>
 ∃b6:Bool,∃w3,(callFunc 169 #[.pointer (some a2),.int .i32 0,.int .i32 1]).run prog w1=.ok (.value (.bool b6)) w3/\
 Br b6 (
 ∃w4,(callFunc 170 #[]).run prog w3=.ok (.value (.tuple #[])) w4/\
 ∃v9:Value,∃w5,(convert 202 206 (.pointer p0)).run prog w4=.ok (v9) w5/\
 ∃w6,(callFunc 171 #[v9]).run prog w5=.ok (.value (.tuple #[])) w6/\
 zQe prog ds w6 λw7=>
 R (.returned (.tuple #[])) w7) (
 Calls prog 172 #[.pointer p0] w3 λe w8=>
 e=.returned (.tuple #[])/\
 zQe prog ds w8 λw9=>
 R (.returned (.tuple #[])) w9)
theorem F138_p:Pl prog f138 [pS 0] xQR:=λR=>
 lf
theorem yZY (p0:Option Addr) (w:World) (R:Rt) (h:xQR R p0 [] w):Calls prog 138 #[.pointer p0] w R:=
 plC F138_p func138 h
def xXL(R:Rt)(p0:Option Addr)(ds:Ds)(w:World):Prop:=
 zQi p0 λa1=>
 ∃n6,w.cell? a1=some (.int .i32 n6)/\
 ∃v8:Value,∃w2,(convert 202 206 (.pointer p0)).run prog w=.ok (v8) w2/\
 ∃w3,(callFunc 173 #[v8]).run prog w2=.ok (.value (.tuple #[])) w3/\
 ∃w4,(callFunc 168 #[]).run prog w3=.ok (.value (.tuple #[])) w4/\
 zQi p0 λa5=>
 ∃j7:Int,∃w6,(callFunc 174 #[.pointer (some a5),.int .i32 (-1)]).run prog w4=.ok (.value (.int .i32 j7)) w6/\
 Br (j7 != 0) (
 Calls prog 175 #[.pointer p0,.int .i32 j7] w6 λe w7=>
 e=.returned (.tuple #[])/\
 ∃w8,(callFunc 170 #[]).run prog w7=.ok (.value (.tuple #[])) w8/\
 zQe prog ds w8 λw9=>
 R (.returned (.tuple #[])) w9) (
 ∃au,(callFunc 170 #[]).run prog w6=.ok (.value (.tuple #[])) au/\
 zQe prog ds au λav=>
 R (.returned (.tuple #[])) av)
theorem F139_p:Pl prog f139 [pS 0] xXL:=λR=>
 lf
theorem yJ3 (p0:Option Addr) (w:World) (R:Rt) (h:xXL R p0 [] w):Calls prog 139 #[.pointer p0] w R:=
 plC F139_p func139 h
def F47_1(R:Rt)(p0:Option Addr)(n1:Int)(ds:Ds)(w:World):Prop:=
 ∃b8:Bool,∃w1,(eqS .eql 32 (.tmp 7) (.const (.pointer none)) (.pointer p0) (.pointer none)).run prog w=.ok (.bool b8) w1/\
 Br b8 (
 zQe prog ds w1 λw2=>
 R (.returned (.tuple #[.pointer none,.func (.func 102) #[] #[],.int .i64 9])) w2) (
 zQi p0 λa3=>
 Calls prog 85 #[.pointer (some a3)] w1 λe w4=>
 e=.returned (.tuple #[])/\
 Br (decide (n1<0)) (
 dwE w4 λw5=>
 zQi p0 λa6=>
 zQe prog ds w5 λw7=>
 R (.returned (.tuple #[.pointer none,.func (.func 86) #[.pointer (some a6)] #[],.int .i64 1])) w7) (
 Br (decide (n1 >= 4)) (
 dwE w4 λw8=>
 zQi p0 λa9=>
 zQe prog ds w8 λau=>
 R (.returned (.tuple #[.pointer none,.func (.func 86) #[.pointer (some a9)] #[],.int .i64 1])) au) (
 dwE w4 λav=>
 zQi p0 λgL=>
 0<=n1/\n1<(4:Int)/\
 zQi p0 λdB=>
 zQe prog ds av λaI=>
 R (.returned (.tuple #[.pointer (some ((gL.add 5).add (n1.toNat * 4))),.func (.func 86) #[.pointer (some dB)] #[],.int .i64 0])) aI)))
theorem F47_p:Pl prog f47 [pS 0,iS 1] F47_1:=λR=>
 lf
theorem yKA (p0:Option Addr) (n1:Int) (w:World) (R:Rt) (h:F47_1 R p0 n1 [] w):Calls prog 47 #[.pointer p0,.int .i64 n1] w R:=
 plC F47_p func47 h
end Go.Proofs.YtcihcbfcgjepfaaGreatDoor
/- Shallow texts of functions, printed by program, each checked by the kernel against the loaded code. No condition. -/
namespace Go.Proofs.YtcihcbfcgjepfaaGreatDoor
open Go.Sh Tryz
def F11_1(R:Rt)(p5:Option Addr)(ds:Ds)(w:World):Prop:=
 zQe prog ds w λw1=>
 R (.returned (.tuple #[.pointer p5,.int .i64 0])) w1
def F11_2 (R:Rt) (J1:(Int)->World->Prop) (p5:Option Addr) (iL:Int) (ds:Ds) (w:World):Prop:=
 Br (decide (iL<4)) (
 alE (.map #[] 0) w λr29 w2=>
 zQi p5 λa3=>
 0<=iL/\iL<(4:Int)/\
 st1 (((a3.add 5).add (iL.toNat * 4)).add 2) (.map (some r29)) w2 λw4=>
 J1 (IntKind.i64.wrap (iL+1)) w4) (
 F11_1 R p5 ds w)
def F11_3(R:Rt)(p5:Option Addr)(iL:Int)(ds:Ds)(w:World):Prop:=
 zQ8 (λ(J1:(Int)->World->Prop) (s:Int) (w:World)=>F11_2 R J1 p5 s ds w) iL w
def F11_5(R:Rt)(az:Int)(ai ax:SV)(ds:Ds)(w:World):Prop:=
 alE (.cells #[.int .i64 az,ai.v,ax.v] 25) w λr1 w5=>
 ∃fH,w5.cell? ((⟨r1,0,none⟩:Addr).add 0)=some (.int .i64 fH)/\
 ∃dX:SV,w5.cell? ((⟨r1,0,none⟩:Addr).add 1)=some (dX.v)/\
 ∃dY:SV,w5.cell? ((⟨r1,0,none⟩:Addr).add 2)=some (dY.v)/\
 Calls prog 38 #[.agg #[.int .i64 fH,dX.v,dY.v]] w5 λe w6=>
 ∃n8:Int,e=.returned (.int .i64 n8)/\
 Br (n8 != 0) (
 zQe prog ds w6 λw7=>
 R (.returned (.tuple #[.pointer none,.int .i64 n8])) w7) (
 dwE w6 λw8=>
 ∃S1:World->Prop,S1 w8/\
 ∃dU:SV,(∀w',S1 w'->w'.cell? ((⟨r1,0,none⟩:Addr).add 1)=some (dU.v))/\
 ∃iH:SV,(∀w',S1 w'->w'.cell? ((⟨r1,0,none⟩:Addr).add 2)=some (iH.v))/\
 Calls prog 39 #[dU.v] w8 λe w9=>
 ∃fy:SV,e=.returned (fy.v)/\
 S1 w9/\
 Calls prog 40 #[iH.v] w9 λe au=>
 ∃de:SV,e=.returned (de.v)/\
 st1 ((⟨r1,0,none⟩:Addr).add 1) (fy.v) au λav=>
 st1 ((⟨r1,0,none⟩:Addr).add 2) (de.v) av λao=>
 ∃dD,ao.cell? ((⟨r1,0,none⟩:Addr).add 0)=some (.int .i64 dD)/\
 ∃bc:SV,ao.cell? ((⟨r1,0,none⟩:Addr).add 1)=some (bc.v)/\
 ∃bX:SV,ao.cell? ((⟨r1,0,none⟩:Addr).add 2)=some (bX.v)/\
 alE (.map #[] 0) ao λr21 aE=>
 alE (.cells #[.int .i32 0,.int .u32 0,.int .i64 dD,bc.v,bX.v,.int .i64 0,.int .i64 0,.map none,.slice none 0 0,.int .i64 0,.int .i64 0,.map none,.slice none 0 0,.int .i64 0,.int .i64 0,.map none,.slice none 0 0,.int .i64 0,.int .i64 0,.map none,.slice none 0 0,.map (some r21)] 93) aE λr23 aI=>
 F11_3 R (some (⟨r23,0,none⟩:Addr)) 0 ds aI)
theorem F11_p:Pl prog f11 [aS 0 [.int .i64,.slice,.slice]] F11_5:=λR=>
 pc 7 (zQz [pS 5,iS 24] (F11_3 R) (bk 0 (zQz [pS 5] (F11_1 R) lf) (lp [iS 24] [pS 5,iS 24] (F11_2 R) zXs λJ1=>lf)))
theorem yWh (az:Int) (ai ax:SV) (w:World) (R:Rt) (h:F11_5 R az ai ax [] w):Calls prog 11 #[.agg #[.int .i64 az,ai.v,ax.v]] w R:=
 plC F11_p func11 h
def F40_1(R:Rt)(l3:SV)(ds:Ds)(w:World):Prop:=
 zQe prog ds w λw1=>
 R (.returned (l3.v)) w1
def F40_2 (R:Rt) (J1:(SV × Int)->World->Prop) (l3 l6:SV) (n7 n8:Int) (ds:Ds) (w:World):Prop:=
 Br (decide (n8<n7)) (
 ∃a2,l6.a=some a2/\0<=n8/\n8<(l6.len:Int)/\
 ∃xI,w.cell? ((a2.add (n8.toNat * 2)).add 0)=some (.bool xI)/\
 ∃dZ:SV,w.cell? ((a2.add (n8.toNat * 2)).add 1)=some (dZ.v)/\
 alE (.cells #[.bool false,.slice none 0 0] 77) w λr5 w3=>
 stA prog 77 (⟨r5,0,none⟩:Addr) #[.bool xI,dZ.v] w3 λw4=>
 ∃xJ,w4.cell? ((⟨r5,0,none⟩:Addr).add 0)=some (.bool xJ)/\
 ∃ee:SV,w4.cell? ((⟨r5,0,none⟩:Addr).add 1)=some (ee.v)/\
 Calls prog 88 #[.agg #[.bool xJ,ee.v]] w4 λe w5=>
 ∃nW:Bool,∃aN:SV,e=.returned (.agg #[.bool nW,aN.v])/\
 alE (.cells #[.bool nW,aN.v] 77) w5 λsa w6=>
 ∃iH:SV,∃w7,(Builtin.append_ #[23,23] 23 #[l3.v,.slice (some ⟨sa,0,none⟩) 1 1]).run prog w6=.ok (iH.v) w7/\
 J1 (iH,(IntKind.i64.wrap (n8+1))) w7) (
 F40_1 R l3 ds w)
def F40_3(R:Rt)(l3 l6:SV)(n7 n8:Int)(ds:Ds)(w:World):Prop:=
 zQ8 (λ(J1:(SV × Int)->World->Prop) (s:SV × Int) (w:World)=>F40_2 R J1 s.1 l6 n7 s.2 ds w) (l3,n8) w
def F40_5(R:Rt)(l0:SV)(ds:Ds)(w:World):Prop:=
 F40_3 R ⟨none,0,0⟩ l0 (l0.len:Int) 0 ds w
theorem F40_p:Pl prog f40 [lS 0] F40_5:=λR=>
 pc 3 (zQz [lS 3,lS 6,iS 7,iS 8] (F40_3 R) (bk 0 (zQz [lS 3] (F40_1 R) lf) (lp [lS 3,iS 8] [lS 3,lS 6,iS 7,iS 8] (F40_2 R) zXs λJ1=>lf)))
theorem yWf (l0:SV) (w:World) (R:Rt) (h:F40_5 R l0 [] w):Calls prog 40 #[l0.v] w R:=
 plC F40_p func40 h
def F88_1(R:Rt)(bH:Bool)(ai:SV)(ds:Ds)(w:World):Prop:=
 alE (.cells #[.bool bH,ai.v] 77) w λr1 w1=>
 alE (.cells #[.bool false,.slice none 0 0] 77) w1 λr2 w2=>
 dwE w2 λw3=>
 ∃S1:World->Prop,S1 w3/\
 ∃b4,(∀w',S1 w'->w'.cell? (⟨r1,0,none⟩:Addr)=some (.bool b4))/\
 ∃l6:SV,(∀w',S1 w'->w'.cell? ((⟨r1,0,none⟩:Addr).add 1)=some (l6.v))/\
 Calls prog 141 #[l6.v] w3 λe w4=>
 ∃l7:SV,e=.returned (l7.v)/\
 S1 w4/\
 stA prog 77 (⟨r2,0,none⟩:Addr) #[.bool b4,l7.v] w4 λw5=>
 zQe prog ds w5 λw6=>
 ∃aC,w6.cell? ((⟨r2,0,none⟩:Addr).add 0)=some (.bool aC)/\
 ∃af:SV,w6.cell? ((⟨r2,0,none⟩:Addr).add 1)=some (af.v)/\
 R (.returned (.agg #[.bool aC,af.v])) w6
theorem F88_p:Pl prog f88 [aS 0 [.bool,.slice]] F88_1:=λR=>
 lf
theorem yWB (bH:Bool) (ai:SV) (w:World) (R:Rt) (h:F88_1 R bH ai [] w):Calls prog 88 #[.agg #[.bool bH,ai.v]] w R:=
 plC F88_p func88 h
def xZk(R:Rt)(l0:SV)(ds:Ds)(w:World):Prop:=
 ∃b4:Bool,∃w1,(eqS .eql 75 (.tmp 3) (.const (.slice none 0 0)) (l0.v) (.slice none 0 0)).run prog w=.ok (.bool b4) w1/\
 Br b4 (
 zQe prog ds w1 λw2=>
 R (.returned (.slice none 0 0)) w2) (
 alE (.cells #[] 28) w1 λr5 w3=>
 ∃l7:SV,∃w4,(Builtin.append_ #[75,75] 75 #[.slice (some ⟨r5,0,none⟩) 0 0,l0.v]).run prog w3=.ok (l7.v) w4/\
 zQe prog ds w4 λw5=>
 R (.returned (l7.v)) w5)
theorem F141_p:Pl prog f141 [lS 0] xZk:=λR=>
 lf
theorem yJi (l0:SV) (w:World) (R:Rt) (h:xZk R l0 [] w):Calls prog 141 #[l0.v] w R:=
 plC F141_p func141 h
def F14_1(R:Rt)(p0:Option Addr)(n1 n2:Int)(ds:Ds)(w:World):Prop:=
 Calls prog 47 #[.pointer p0,.int .i64 n1] w λe w1=>
 ∃ie:Option Addr,∃jF:Value,∃fW:Int,e=.returned (.tuple #[.pointer ie,jF,.int .i64 fW])/\
 fnE jF λfx firstx capx=>
 Br (fW != 0) (
 zQe prog ({ target:=.fn (.func fx) capx,args:=(firstx.toList ++ ([]:List Value)).toArray } :: ds) w1 λw2=>
 R (.returned (.int .i64 fW)) w2) (
 Br (decide (n2<0)) (
 zQe prog ({ target:=.fn (.func fx) capx,args:=(firstx.toList ++ ([]:List Value)).toArray } :: ds) w1 λw3=>
 R (.returned (.int .i64 1)) w3) (
 Br (decide (n2 > 4)) (
 zQe prog ({ target:=.fn (.func fx) capx,args:=(firstx.toList ++ ([]:List Value)).toArray } :: ds) w1 λw4=>
 R (.returned (.int .i64 1)) w4) (
 Calls prog 48 #[.pointer ie] w1 λe w5=>
 ∃b31:Bool,e=.returned (.bool b31)/\
 Br (!b31) (
 zQe prog ({ target:=.fn (.func fx) capx,args:=(firstx.toList ++ ([]:List Value)).toArray } :: ds) w5 λw6=>
 R (.returned (.int .i64 9)) w6) (
 zQi ie λa7=>
 st1 a7 (.int .i64 n2) w5 λw8=>
 zQe prog ({ target:=.fn (.func fx) capx,args:=(firstx.toList ++ ([]:List Value)).toArray } :: ds) w8 λw9=>
 R (.returned (.int .i64 0)) w9))))
theorem F14_p:Pl prog f14 [pS 0,iS 1,iS 2] F14_1:=λR=>
 lf
theorem yW5 (p0:Option Addr) (n1 n2:Int) (w:World) (R:Rt) (h:F14_1 R p0 n1 n2 [] w):Calls prog 14 #[.pointer p0,.int .i64 n1,.int .i64 n2] w R:=
 plC F14_p func14 h
def F48_1(R:Rt)(p0:Option Addr)(ds:Ds)(w:World):Prop:=
 zQi p0 λa1=>
 ∃m6,w.cell? (a1.add 2)=some (.map m6)/\
 ∃n7:Int,∃w2,(Builtin.len_ #[88] 3 #[.map m6]).run prog w=.ok (.int .i64 n7) w2/\
 Br (n7 == 0) (
 zQi p0 λa3=>
 ∃dU:SV,w2.cell? (a3.add 3)=some (dU.v)/\
 zQe prog ds w2 λw4=>
 R (.returned (.bool ((dU.len:Int) == 0))) w4) (
 zQe prog ds w2 λw5=>
 R (.returned (.bool false)) w5)
theorem F48_p:Pl prog f48 [pS 0] F48_1:=λR=>
 lf
theorem yVQ (p0:Option Addr) (w:World) (R:Rt) (h:F48_1 R p0 [] w):Calls prog 48 #[.pointer p0] w R:=
 plC F48_p func48 h
def xQ6(R:Rt)(p0:Option Addr)(ds:Ds)(w:World):Prop:=
 zQi p0 λa1=>
 ∃n6,w.cell? a1=some (.int .i64 n6)/\
 Br (n6 == 1) (
 zQe prog ds w λw2=>
 R (.returned (.bool true)) w2) (
 zQi p0 λa3=>
 ∃fo,w.cell? a3=some (.int .i64 fo)/\
 zQe prog ds w λw4=>
 R (.returned (.bool (fo == 2))) w4)
theorem F103_p:Pl prog f103 [pS 0] xQ6:=λR=>
 lf
theorem yJz (p0:Option Addr) (w:World) (R:Rt) (h:xQ6 R p0 [] w):Calls prog 103 #[.pointer p0] w R:=
 plC F103_p func103 h
def xJP(R:Rt)(p0:Option Addr)(n2:Int)(p6 p8:Option Addr)(b9:Bool)(ds:Ds)(w:World):Prop:=
 Br b9 (
 zQi p8 λa1=>
 ∃xK,w.cell? ((a1.add 2).add 0)=some (.bool xK)/\
 ∃ls:SV,w.cell? ((a1.add 2).add 1)=some (ls.v)/\
 zQi p6 λa2=>
 stA prog 77 a2 #[.bool xK,ls.v] w λw3=>
 zQe prog ds w3 λw4=>
 zQi p6 λa5=>
 ∃aC,w4.cell? (a5.add 0)=some (.bool aC)/\
 ∃af:SV,w4.cell? (a5.add 1)=some (af.v)/\
 R (.returned (.tuple #[.agg #[.bool aC,af.v],.bool true])) w4) (
 zQi p0 λa6=>
 ∃l60:SV,w.cell? ((a6.add 2).add 2)=some (l60.v)/\
 ∃a7,l60.a=some a7/\0<=(IntKind.i64.wrap (n2 - 1))/\(IntKind.i64.wrap (n2 - 1))<(l60.len:Int)/\
 ∃qq,w.cell? ((a7.add ((IntKind.i64.wrap (n2 - 1)).toNat * 2)).add 0)=some (.bool qq)/\
 ∃gP:SV,w.cell? ((a7.add ((IntKind.i64.wrap (n2 - 1)).toNat * 2)).add 1)=some (gP.v)/\
 zQi p6 λa8=>
 stA prog 77 a8 #[.bool qq,gP.v] w λw9=>
 zQe prog ds w9 λau=>
 zQi p6 λgO=>
 ∃aC,au.cell? (gO.add 0)=some (.bool aC)/\
 ∃af:SV,au.cell? (gO.add 1)=some (af.v)/\
 R (.returned (.tuple #[.agg #[.bool aC,af.v],.bool true])) au)
def F49_2(R:Rt)(p0 p1:Option Addr)(n2:Int)(ds:Ds)(w:World):Prop:=
 alE (.cells #[.bool false,.slice none 0 0] 77) w λr6 ao=>
 Br (decide (n2<0)) (
 zQi p1 λdB=>
 ∃de:SV,ao.cell? (dB.add 3)=some (de.v)/\
 Br (decide (n2 >= (IntKind.i64.wrap (0 - (de.len:Int))))) (
 zQi p1 λfi=>
 ∃mU:SV,ao.cell? (fi.add 3)=some (mU.v)/\
 ∃rU,mU.a=some rU/\0<=(IntKind.i64.wrap ((IntKind.i64.wrap (0 - n2)) - 1))/\(IntKind.i64.wrap ((IntKind.i64.wrap (0 - n2)) - 1))<(mU.len:Int)/\
 ∃xL,ao.cell? ((rU.add ((IntKind.i64.wrap ((IntKind.i64.wrap (0 - n2)) - 1)).toNat * 2)).add 0)=some (.bool xL)/\
 ∃lu:SV,ao.cell? ((rU.add ((IntKind.i64.wrap ((IntKind.i64.wrap (0 - n2)) - 1)).toNat * 2)).add 1)=some (lu.v)/\
 stA prog 77 (⟨r6,0,none⟩:Addr) #[.bool xL,lu.v] ao λaU=>
 zQe prog ds aU λbr=>
 ∃aC,br.cell? ((⟨r6,0,none⟩:Addr).add 0)=some (.bool aC)/\
 ∃af:SV,br.cell? ((⟨r6,0,none⟩:Addr).add 1)=some (af.v)/\
 R (.returned (.tuple #[.agg #[.bool aC,af.v],.bool true])) br) (
 Br (decide (n2<1)) (
 stA prog 77 (⟨r6,0,none⟩:Addr) #[.bool false,.slice none 0 0] ao λbD=>
 zQe prog ds bD λbE=>
 ∃aC,bE.cell? ((⟨r6,0,none⟩:Addr).add 0)=some (.bool aC)/\
 ∃af:SV,bE.cell? ((⟨r6,0,none⟩:Addr).add 1)=some (af.v)/\
 R (.returned (.tuple #[.agg #[.bool aC,af.v],.bool false])) bE) (
 zQi p0 λa20=>
 ∃kM:SV,ao.cell? ((a20.add 2).add 2)=some (kM.v)/\
 Br (decide (n2 > (kM.len:Int))) (
 stA prog 77 (⟨r6,0,none⟩:Addr) #[.bool false,.slice none 0 0] ao λcO=>
 zQe prog ds cO λcS=>
 ∃aC,cS.cell? ((⟨r6,0,none⟩:Addr).add 0)=some (.bool aC)/\
 ∃af:SV,cS.cell? ((⟨r6,0,none⟩:Addr).add 1)=some (af.v)/\
 R (.returned (.tuple #[.agg #[.bool aC,af.v],.bool false])) cS) (
 zQi p1 λa23=>
 ∃m48,ao.cell? (a23.add 2)=some (.map m48)/\
 ∃ig:Bool,∃bI:SV,∃ii:Bool,∃bJ:SV,∃nY:Bool,∃cP,(Instr.lookup 88 (.map m48) (.int .i64 n2) true).run prog ao=.ok (.tuple #[.agg #[.bool ig,bI.v,.bool ii,bJ.v],.bool nY]) cP/\
 alE (.cells #[.bool false,.slice none 0 0,.bool false,.slice none 0 0] 133) cP λr8 dQ=>
 stA prog 133 (⟨r8,0,none⟩:Addr) #[.bool ig,bI.v,.bool ii,bJ.v] dQ λbV=>
 xJP R p0 n2 (some (⟨r6,0,none⟩:Addr)) (some (⟨r8,0,none⟩:Addr)) nY ds bV)))) (
 Br (decide (n2<1)) (
 stA prog 77 (⟨r6,0,none⟩:Addr) #[.bool false,.slice none 0 0] ao λdR=>
 zQe prog ds dR λcR=>
 ∃aC,cR.cell? ((⟨r6,0,none⟩:Addr).add 0)=some (.bool aC)/\
 ∃af:SV,cR.cell? ((⟨r6,0,none⟩:Addr).add 1)=some (af.v)/\
 R (.returned (.tuple #[.agg #[.bool aC,af.v],.bool false])) cR) (
 zQi p0 λmV=>
 ∃kM:SV,ao.cell? ((mV.add 2).add 2)=some (kM.v)/\
 Br (decide (n2 > (kM.len:Int))) (
 stA prog 77 (⟨r6,0,none⟩:Addr) #[.bool false,.slice none 0 0] ao λdw=>
 zQe prog ds dw λgB=>
 ∃aC,gB.cell? ((⟨r6,0,none⟩:Addr).add 0)=some (.bool aC)/\
 ∃af:SV,gB.cell? ((⟨r6,0,none⟩:Addr).add 1)=some (af.v)/\
 R (.returned (.tuple #[.agg #[.bool aC,af.v],.bool false])) gB) (
 zQi p1 λnp=>
 ∃m48,ao.cell? (np.add 2)=some (.map m48)/\
 ∃ig:Bool,∃bI:SV,∃ii:Bool,∃bJ:SV,∃nY:Bool,∃cK,(Instr.lookup 88 (.map m48) (.int .i64 n2) true).run prog ao=.ok (.tuple #[.agg #[.bool ig,bI.v,.bool ii,bJ.v],.bool nY]) cK/\
 alE (.cells #[.bool false,.slice none 0 0,.bool false,.slice none 0 0] 133) cK λr8 bn=>
 stA prog 133 (⟨r8,0,none⟩:Addr) #[.bool ig,bI.v,.bool ii,bJ.v] bn λfT=>
 xJP R p0 n2 (some (⟨r6,0,none⟩:Addr)) (some (⟨r8,0,none⟩:Addr)) nY ds fT)))
theorem F49_p:Pl prog f49 [pS 0,pS 1,iS 2] F49_2:=λR=>
 pc 6 (zQz [pS 0,iS 2,pS 6,pS 8,bS 9] (xJP R) lf)
theorem yKx (p0 p1:Option Addr) (n2:Int) (w:World) (R:Rt) (h:F49_2 R p0 p1 n2 [] w):Calls prog 49 #[.pointer p0,.pointer p1,.int .i64 n2] w R:=
 plC F49_p func49 h
def F15_1(R:Rt)(p0:Option Addr)(n1 n2:Int)(ds:Ds)(w:World):Prop:=
 Calls prog 47 #[.pointer p0,.int .i64 n1] w λe w1=>
 ∃fX:Option Addr,∃xM:Value,∃lq:Int,e=.returned (.tuple #[.pointer fX,xM,.int .i64 lq])/\
 fnE xM λfx firstx capx=>
 Br (lq != 0) (
 zQe prog ({ target:=.fn (.func fx) capx,args:=(firstx.toList ++ ([]:List Value)).toArray } :: ds) w1 λw2=>
 R (.returned (.int .i64 lq)) w2) (
 Calls prog 49 #[.pointer p0,.pointer fX,.int .i64 n2] w1 λe w3=>
 ∃qs:Bool,∃gm:SV,∃xN:Bool,e=.returned (.tuple #[.agg #[.bool qs,gm.v],.bool xN])/\
 alE (.cells #[.bool false,.slice none 0 0] 77) w3 λfE w4=>
 stA prog 77 (⟨fE,0,none⟩:Addr) #[.bool qs,gm.v] w4 λw5=>
 Br (!xN) (
 zQe prog ({ target:=.fn (.func fx) capx,args:=(firstx.toList ++ ([]:List Value)).toArray } :: ds) w5 λw6=>
 R (.returned (.int .i64 4)) w6) (
 zQi fX λa7=>
 ∃gX,w5.cell? (a7.add 1)=some (.int .i64 gX)/\
 Br (n2 != gX) (
 Calls prog 50 #[.pointer p0,.int .i64 n1,.pointer fX] w5 λe w8=>
 ∃u6:Int,e=.returned (.int .i64 u6)/\
 Br (u6 != 0) (
 zQe prog ({ target:=.fn (.func fx) capx,args:=(firstx.toList ++ ([]:List Value)).toArray } :: ds) w8 λw9=>
 R (.returned (.int .i64 u6)) w9) (
 zQi fX λcW=>
 st1 (cW.add 1) (.int .i64 n2) w8 λav=>
 zQe prog ({ target:=.fn (.func fx) capx,args:=(firstx.toList ++ ([]:List Value)).toArray } :: ds) av λao=>
 R (.returned (.int .i64 0)) ao)) (
 zQi fX λdB=>
 st1 (dB.add 1) (.int .i64 n2) w5 λaI=>
 zQe prog ({ target:=.fn (.func fx) capx,args:=(firstx.toList ++ ([]:List Value)).toArray } :: ds) aI λaD=>
 R (.returned (.int .i64 0)) aD)))
theorem F15_p:Pl prog f15 [pS 0,iS 1,iS 2] F15_1:=λR=>
 lf
theorem yKF (p0:Option Addr) (n1 n2:Int) (w:World) (R:Rt) (h:F15_1 R p0 n1 n2 [] w):Calls prog 15 #[.pointer p0,.int .i64 n1,.int .i64 n2] w R:=
 plC F15_p func15 h
def F50_1(R:Rt)(p0:Option Addr)(n1:Int)(p2:Option Addr)(ds:Ds)(w:World):Prop:=
 Calls prog 103 #[.pointer p2] w λe w1=>
 ∃iG:Bool,e=.returned (.bool iG)/\
 Br (!iG) (
 zQe prog ds w1 λw2=>
 R (.returned (.int .i64 0)) w2) (
 Calls prog 48 #[.pointer p2] w1 λe w3=>
 ∃ld:Bool,e=.returned (.bool ld)/\
 Br ld (
 zQe prog ds w3 λw4=>
 R (.returned (.int .i64 0)) w4) (
 Calls prog 55 #[.pointer p0,.int .i64 n1,.pointer p2,.bool false] w3 λe w5=>
 ∃sD:SV,∃dE:Int,e=.returned (.tuple #[sD.v,.int .i64 dE])/\
 zQe prog ds w5 λw6=>
 R (.returned (.int .i64 dE)) w6))
theorem F50_p:Pl prog f50 [pS 0,iS 1,pS 2] F50_1:=λR=>
 lf
theorem yKe (p0:Option Addr) (n1:Int) (p2:Option Addr) (w:World) (R:Rt) (h:F50_1 R p0 n1 p2 [] w):Calls prog 50 #[.pointer p0,.int .i64 n1,.pointer p2] w R:=
 plC F50_p func50 h
end Go.Proofs.YtcihcbfcgjepfaaGreatDoor
/- Shallow texts of functions, printed by program, each checked by the kernel against the loaded code. No condition. -/
namespace Go.Proofs.YtcihcbfcgjepfaaGreatDoor
open Go.Sh Tryz
def F39_1(R:Rt)(l0:SV)(ds:Ds)(w:World):Prop:=
 ∃b4:Bool,∃w1,(eqS .eql 22 (.tmp 3) (.const (.slice none 0 0)) (l0.v) (.slice none 0 0)).run prog w=.ok (.bool b4) w1/\
 Br b4 (
 zQe prog ds w1 λw2=>
 R (.returned (.slice none 0 0)) w2) (
 alE (.cells #[] 38) w1 λr5 w3=>
 ∃l7:SV,∃w4,(Builtin.append_ #[22,22] 22 #[.slice (some ⟨r5,0,none⟩) 0 0,l0.v]).run prog w3=.ok (l7.v) w4/\
 zQe prog ds w4 λw5=>
 R (.returned (l7.v)) w5)
theorem F39_p:Pl prog f39 [lS 0] F39_1:=λR=>
 lf
theorem yVD (l0:SV) (w:World) (R:Rt) (h:F39_1 R l0 [] w):Calls prog 39 #[l0.v] w R:=
 plC F39_p func39 h
end Go.Proofs.YtcihcbfcgjepfaaGreatDoor
/- Shallow texts of functions, printed by program, each checked by the kernel against the loaded code. No condition. -/
namespace Go.Proofs.YtcihcbfcgjepfaaGreatDoor
open Go.Sh Tryz
def F28_1(R:Rt)(p0 p6:Option Addr)(ia:Int)(ds:Ds)(w:World):Prop:=
 Br (decide (ia >= 300)) (
 zQe prog ds w λw1=>
 R (.returned (.tuple #[.int .i64 0,.int .i64 3])) w1) (
 zQi p0 λa2=>
 ∃l59:SV,w.cell? ((a2.add 2).add 1)=some (l59.v)/\
 Calls prog 81 #[l59.v] w λe w3=>
 ∃qt:Bool,∃gn:SV,∃n60_1:Int,e=.returned (.tuple #[.agg #[.bool qt,gn.v],.int .i64 n60_1])/\
 alE (.cells #[.bool false,.slice none 0 0] 77) w3 λgC w4=>
 stA prog 77 (⟨gC,0,none⟩:Addr) #[.bool qt,gn.v] w4 λw5=>
 zQi p6 λa6=>
 ∃n66,w5.cell? a6=some (.int .i64 n66)/\
 Br (n66 == 0) (
 dwE w5 λw7=>
 ∃S1:World->Prop,S1 w7/\
 zQi p0 λa8=>
 ∃l73:SV,(∀w',S1 w'->w'.cell? ((a8.add 2).add 2)=some (l73.v))/\
 ∃nZ,(∀w',S1 w'->w'.cell? ((⟨gC,0,none⟩:Addr).add 0)=some (.bool nZ))/\
 ∃ei:SV,(∀w',S1 w'->w'.cell? ((⟨gC,0,none⟩:Addr).add 1)=some (ei.v))/\
 alE (.cells #[.bool nZ,ei.v] 77) w7 λr75 w9=>
 S1 w9/\
 ∃ro:SV,∃au,(Builtin.append_ #[23,23] 23 #[l73.v,.slice (some ⟨r75,0,none⟩) 1 1]).run prog w9=.ok (ro.v) au/\
 zQi p0 λgO=>
 st1 ((gO.add 2).add 2) (ro.v) au λao=>
 zQi p0 λdB=>
 ∃sE:SV,ao.cell? ((dB.add 2).add 2)=some (sE.v)/\
 zQi p6 λfi=>
 st1 (fi.add 1) (.int .i64 (sE.len:Int)) ao λaD=>
 zQi p6 λna=>
 ∃sF,aD.cell? (na.add 1)=some (.int .i64 sF)/\
 zQe prog ds aD λbr=>
 R (.returned (.tuple #[.int .i64 sF,.int .i64 0])) br) (
 dwE w5 λbD=>
 ∃S2:World->Prop,S2 bD/\
 zQi p6 λj4=>
 ∃l93:SV,(∀w',S2 w'->w'.cell? (j4.add 3)=some (l93.v))/\
 ∃oa,(∀w',S2 w'->w'.cell? ((⟨gC,0,none⟩:Addr).add 0)=some (.bool oa))/\
 ∃em:SV,(∀w',S2 w'->w'.cell? ((⟨gC,0,none⟩:Addr).add 1)=some (em.v))/\
 alE (.cells #[.bool oa,em.v] 77) bD λr95 cX=>
 S2 cX/\
 ∃od:SV,∃cO,(Builtin.append_ #[23,23] 23 #[l93.v,.slice (some ⟨r95,0,none⟩) 1 1]).run prog cX=.ok (od.v) cO/\
 zQi p6 λrm=>
 st1 (rm.add 3) (od.v) cO λcJ=>
 zQi p6 λoe=>
 ∃vF:SV,cJ.cell? (oe.add 3)=some (vF.v)/\
 zQi p6 λj5=>
 st1 (j5.add 1) (.int .i64 (IntKind.i64.wrap (0 - (vF.len:Int)))) cJ λbV=>
 zQi p6 λu7=>
 ∃sF,bV.cell? (u7.add 1)=some (.int .i64 sF)/\
 zQe prog ds bV λcR=>
 R (.returned (.tuple #[.int .i64 sF,.int .i64 0])) cR))
def F28_2 (R:Rt) (J1:(Int × Int)->World->Prop) (p0 p6:Option Addr) (ia ft ij:Int) (ik:Option Nat) (cT:SV) (lv lw:Int) (lx:Option Nat) (gQ:SV) (ly lz:Int) (iM:Option Nat) (dO:SV) (iN iO:Int) (iP:Option Nat) (dP:SV) (sm:Int) (ds:Ds) (w:World):Prop:=
 Br (decide (sm<4)) (
 ∃og:Int,∃il:Int,∃xO:Option Nat,∃lA:SV,∃dj,(Instr.index 91 (.agg #[.int .i64 ft,.int .i64 ij,.map ik,cT.v,.int .i64 lv,.int .i64 lw,.map lx,gQ.v,.int .i64 ly,.int .i64 lz,.map iM,dO.v,.int .i64 iN,.int .i64 iO,.map iP,dP.v]) (.int .i64 sm)).run prog w=.ok (.agg #[.int .i64 og,.int .i64 il,.map xO,lA.v]) dj/\
 alE (.cells #[.int .i64 0,.int .i64 0,.map none,.slice none 0 0] 90) dj λrl dw=>
 stA prog 90 (⟨rl,0,none⟩:Addr) #[.int .i64 og,.int .i64 il,.map xO,lA.v] dw λgB=>
 ∃pV:SV,gB.cell? ((⟨rl,0,none⟩:Addr).add 3)=some (pV.v)/\
 J1 ((IntKind.i64.wrap (ia+(pV.len:Int))),(IntKind.i64.wrap (sm+1))) gB) (
 F28_1 R p0 p6 ia ds w)
def F28_3(R:Rt)(p0 p6:Option Addr)(ia ft ij:Int)(ik:Option Nat)(cT:SV)(lv lw:Int)(lx:Option Nat)(gQ:SV)(ly lz:Int)(iM:Option Nat)(dO:SV)(iN iO:Int)(iP:Option Nat)(dP:SV)(sm:Int)(ds:Ds)(w:World):Prop:=
 zQ8 (λ(J1:(Int × Int)->World->Prop) (s:Int × Int) (w:World)=>F28_2 R J1 p0 p6 s.1 ft ij ik cT lv lw lx gQ ly lz iM dO iN iO iP dP s.2 ds w) (ia,sm) w
def F28_5(R:Rt)(p0:Option Addr)(n1:Int)(ds:Ds)(w:World):Prop:=
 Calls prog 47 #[.pointer p0,.int .i64 n1] w λe gZ=>
 ∃lB:Option Addr,∃oh:Value,∃gN:Int,e=.returned (.tuple #[.pointer lB,oh,.int .i64 gN])/\
 fnE oh λfx firstx capx=>
 Br (gN != 0) (
 zQe prog ({ target:=.fn (.func fx) capx,args:=(firstx.toList ++ ([]:List Value)).toArray } :: ds) gZ λcK=>
 R (.returned (.tuple #[.int .i64 0,.int .i64 gN])) cK) (
 Calls prog 50 #[.pointer p0,.int .i64 n1,.pointer lB] gZ λe bn=>
 ∃vC:Int,e=.returned (.int .i64 vC)/\
 Br (vC != 0) (
 zQe prog ({ target:=.fn (.func fx) capx,args:=(firstx.toList ++ ([]:List Value)).toArray } :: ds) bn λfT=>
 R (.returned (.tuple #[.int .i64 0,.int .i64 vC])) fT) (
 zQi p0 λpP=>
 ∃di:SV,bn.cell? ((pP.add 2).add 2)=some (di.v)/\
 zQi p0 λa37=>
 ∃ft,bn.cell? ((a37.add 5).add 0)=some (.int .i64 ft)/\
 ∃ij,bn.cell? ((a37.add 5).add 1)=some (.int .i64 ij)/\
 ∃ik,bn.cell? ((a37.add 5).add 2)=some (.map ik)/\
 ∃cT:SV,bn.cell? ((a37.add 5).add 3)=some (cT.v)/\
 ∃lv,bn.cell? ((a37.add 5).add 4)=some (.int .i64 lv)/\
 ∃lw,bn.cell? ((a37.add 5).add 5)=some (.int .i64 lw)/\
 ∃lx,bn.cell? ((a37.add 5).add 6)=some (.map lx)/\
 ∃gQ:SV,bn.cell? ((a37.add 5).add 7)=some (gQ.v)/\
 ∃ly,bn.cell? ((a37.add 5).add 8)=some (.int .i64 ly)/\
 ∃lz,bn.cell? ((a37.add 5).add 9)=some (.int .i64 lz)/\
 ∃iM,bn.cell? ((a37.add 5).add 10)=some (.map iM)/\
 ∃dO:SV,bn.cell? ((a37.add 5).add 11)=some (dO.v)/\
 ∃iN,bn.cell? ((a37.add 5).add 12)=some (.int .i64 iN)/\
 ∃iO,bn.cell? ((a37.add 5).add 13)=some (.int .i64 iO)/\
 ∃iP,bn.cell? ((a37.add 5).add 14)=some (.map iP)/\
 ∃dP:SV,bn.cell? ((a37.add 5).add 15)=some (dP.v)/\
 F28_3 R p0 lB (di.len:Int) ft ij ik cT lv lw lx gQ ly lz iM dO iN iO iP dP 0 ({ target:=.fn (.func fx) capx,args:=(firstx.toList ++ ([]:List Value)).toArray } :: ds) bn))
theorem F28_p:Pl prog f28 [pS 0,iS 1] F28_5:=λR=>
 pc 10 (zQz [pS 0,pS 6,iS 10,aS 42 [.int .i64,.int .i64,.map,.slice,.int .i64,.int .i64,.map,.slice,.int .i64,.int .i64,.map,.slice,.int .i64,.int .i64,.map,.slice],iS 43] (F28_3 R) (bk 0 (zQz [pS 0,pS 6,iS 10] (F28_1 R) lf) (lp [iS 10,iS 43] [pS 0,pS 6,iS 10,aS 42 [.int .i64,.int .i64,.map,.slice,.int .i64,.int .i64,.map,.slice,.int .i64,.int .i64,.map,.slice,.int .i64,.int .i64,.map,.slice],iS 43] (F28_2 R) zXs λJ1=>lf)))
theorem yKX (p0:Option Addr) (n1:Int) (w:World) (R:Rt) (h:F28_5 R p0 n1 [] w):Calls prog 28 #[.pointer p0,.int .i64 n1] w R:=
 plC F28_p func28 h
def xZF(R:Rt)(p0:Option Addr)(n1:Int)(p2:Option Addr)(n3 n9:Int)(iG:Bool)(ds:Ds)(w:World):Prop:=
 Br iG (
 Br (n9 != n1) (
 zQe prog ds w λw1=>
 R (.returned (.int .i64 12)) w1) (
 zQi p2 λa2=>
 ∃lC,w.cell? a2=some (.int .i64 lC)/\
 Br (lC != 0) (
 zQi p0 λa3=>
 ∃xP,w.cell? (a3.add 21)=some (.map xP)/\
 doE prog (Instr.mapUpdate 80 (.map xP) (.int .i64 n3) (.int .i64 n1)) w λw4=>
 zQe prog ds w4 λw5=>
 R (.returned (.int .i64 0)) w5) (
 zQe prog ds w λw6=>
 R (.returned (.int .i64 0)) w6))) (
 zQi p2 λa7=>
 ∃lC,w.cell? a7=some (.int .i64 lC)/\
 Br (lC != 0) (
 zQi p0 λa8=>
 ∃xP,w.cell? (a8.add 21)=some (.map xP)/\
 doE prog (Instr.mapUpdate 80 (.map xP) (.int .i64 n3) (.int .i64 n1)) w λw9=>
 zQe prog ds w9 λau=>
 R (.returned (.int .i64 0)) au) (
 zQe prog ds w λav=>
 R (.returned (.int .i64 0)) av))
def xXT(R:Rt)(p0:Option Addr)(n1:Int)(p2:Option Addr)(n3:Int)(ds:Ds)(w:World):Prop:=
 zQi p2 λgL=>
 ∃j7,w.cell? gL=some (.int .i64 j7)/\
 Br (j7 == 2) (
 zQe prog ds w λaE=>
 R (.returned (.int .i64 0)) aE) (
 zQi p2 λfi=>
 ∃fD,w.cell? fi=some (.int .i64 fD)/\
 Br (fD == 4) (
 zQe prog ds w λaD=>
 R (.returned (.int .i64 0)) aD) (
 Br (decide (n3<0)) (
 zQe prog ds w λaU=>
 R (.returned (.int .i64 0)) aU) (
 zQi p0 λnc=>
 ∃xQ,w.cell? (nc.add 21)=some (.map xQ)/\
 ∃dG:Int,∃im:Bool,∃bD,(Instr.lookup 80 (.map xQ) (.int .i64 n3) true).run prog w=.ok (.tuple #[.int .i64 dG,.bool im]) bD/\
 xZF R p0 n1 p2 n3 dG im ds bD)))
theorem F113_p:Pl prog f113 [pS 0,iS 1,pS 2,iS 3] xXT:=λR=>
 pc 4 (zQz [pS 0,iS 1,pS 2,iS 3,iS 9,bS 10] (xZF R) lf)
theorem yJ8 (p0:Option Addr) (n1:Int) (p2:Option Addr) (n3:Int) (w:World) (R:Rt) (h:xXT R p0 n1 p2 n3 [] w):Calls prog 113 #[.pointer p0,.int .i64 n1,.pointer p2,.int .i64 n3] w R:=
 plC F113_p func113 h
def F53_1(R:Rt)(p0:Option Addr)(n1:Int)(p2:Option Addr)(v3:Value)(ds:Ds)(w:World):Prop:=
 zQi p2 λa1=>
 ∃gS,w.cell? (a1.add 1)=some (.int .i64 gS)/\
 Calls prog 113 #[.pointer p0,.int .i64 n1,.pointer p2,.int .i64 gS] w λe w2=>
 ∃lh:Int,e=.returned (.int .i64 lh)/\
 Br (lh != 0) (
 zQe prog ds w2 λw3=>
 R (.returned (.int .i64 lh)) w3) (
 zQi p2 λa4=>
 ∃n80,w2.cell? (a4.add 1)=some (.int .i64 n80)/\
 Br (decide (n80<0)) (
 dwE w2 λw5=>
 zQi p2 λa6=>
 ∃l86:SV,w5.cell? (a6.add 3)=some (l86.v)/\
 zQi p2 λa7=>
 ∃n90,w5.cell? (a7.add 1)=some (.int .i64 n90)/\
 ∃a8,l86.a=some a8/\0<=(IntKind.i64.wrap ((IntKind.i64.wrap (0 - n90)) - 1))/\(IntKind.i64.wrap ((IntKind.i64.wrap (0 - n90)) - 1))<(l86.len:Int)/\
 fnE v3 λf94 first94 cap94=>
 zXD prog f94=true/\Calls prog f94 (first94.toList ++ (([.pointer (some (a8.add ((IntKind.i64.wrap ((IntKind.i64.wrap (0 - n90)) - 1)).toNat * 2)))]:List Value) ++ cap94.toList)).toArray w5 λe w9=>
 e=.returned (.tuple #[])/\
 zQe prog ds w9 λau=>
 R (.returned (.int .i64 0)) au) (
 zQi p2 λgO=>
 ∃n99,w2.cell? gO=some (.int .i64 n99)/\
 Br (n99 == 0) (
 dwE w2 λao=>
 zQi p0 λdB=>
 ∃gF:SV,ao.cell? ((dB.add 2).add 2)=some (gF.v)/\
 zQi p2 λfi=>
 ∃pW,ao.cell? (fi.add 1)=some (.int .i64 pW)/\
 ∃rU,gF.a=some rU/\0<=(IntKind.i64.wrap (pW - 1))/\(IntKind.i64.wrap (pW - 1))<(gF.len:Int)/\
 fnE v3 λf113 first113 cap113=>
 zXD prog f113=true/\Calls prog f113 (first113.toList ++ (([.pointer (some (rU.add ((IntKind.i64.wrap (pW - 1)).toNat * 2)))]:List Value) ++ cap113.toList)).toArray ao λe aU=>
 e=.returned (.tuple #[])/\
 zQe prog ds aU λbr=>
 R (.returned (.int .i64 0)) br) (
 dwE w2 λbD=>
 ∃S3:World->Prop,S3 bD/\
 zQi p2 λj4=>
 ∃m27,(∀w',S3 w'->w'.cell? (j4.add 2)=some (.map m27))/\
 zQi p2 λa20=>
 ∃kW,(∀w',S3 w'->w'.cell? (a20.add 1)=some (.int .i64 kW))/\
 ∃qu:Bool,∃gq:SV,∃qv:Bool,∃gt:SV,∃ol:Bool,(∀w',S3 w'->(Instr.lookup 88 (.map m27) (.int .i64 kW) true).run prog w'=.ok (.tuple #[.agg #[.bool qu,gq.v,.bool qv,gt.v],.bool ol]) w')/\
 alE (.cells #[.bool false,.slice none 0 0,.bool false,.slice none 0 0] 133) bD λfE cO=>
 S3 cO/\
 stA prog 133 (⟨fE,0,none⟩:Addr) #[.bool qu,gq.v,.bool qv,gt.v] cO λcS=>
 Br (!ol) (
 dwE cS λcJ=>
 ∃S4:World->Prop,S4 cJ/\
 zQi p0 λoe=>
 ∃iQ:SV,(∀w',S4 w'->w'.cell? ((oe.add 2).add 2)=some (iQ.v))/\
 zQi p2 λj5=>
 ∃lC,(∀w',S4 w'->w'.cell? (j5.add 1)=some (.int .i64 lC))/\
 ∃vG,iQ.a=some vG/\0<=(IntKind.i64.wrap (lC - 1))/\(IntKind.i64.wrap (lC - 1))<(iQ.len:Int)/\
 ∃xR,(∀w',S4 w'->w'.cell? ((vG.add ((IntKind.i64.wrap (lC - 1)).toNat * 2)).add 0)=some (.bool xR))/\
 ∃lD:SV,(∀w',S4 w'->w'.cell? ((vG.add ((IntKind.i64.wrap (lC - 1)).toNat * 2)).add 1)=some (lD.v))/\
 zQi p0 λu7=>
 ∃l54:SV,(∀w',S4 w'->w'.cell? ((u7.add 2).add 2)=some (l54.v))/\
 zQi p2 λa28=>
 ∃xS,(∀w',S4 w'->w'.cell? (a28.add 1)=some (.int .i64 xS))/\
 ∃mV,l54.a=some mV/\0<=(IntKind.i64.wrap (xS - 1))/\(IntKind.i64.wrap (xS - 1))<(l54.len:Int)/\
 ∃om,(∀w',S4 w'->w'.cell? ((mV.add ((IntKind.i64.wrap (xS - 1)).toNat * 2)).add 0)=some (.bool om))/\
 ∃eo:SV,(∀w',S4 w'->w'.cell? ((mV.add ((IntKind.i64.wrap (xS - 1)).toNat * 2)).add 1)=some (eo.v))/\
 Calls prog 88 #[.agg #[.bool xR,lD.v]] cJ λe dw=>
 ∃xT:Bool,∃lE:SV,e=.returned (.agg #[.bool xT,lE.v])/\
 S4 dw/\
 Calls prog 88 #[.agg #[.bool om,eo.v]] dw λe gB=>
 ∃xU:Bool,∃lF:SV,e=.returned (.agg #[.bool xU,lF.v])/\
 stA prog 133 (⟨fE,0,none⟩:Addr) #[.bool xT,lE.v,.bool xU,lF.v] gB λgZ=>
 fnE v3 λf66 first66 sG=>
 zXD prog f66=true/\Calls prog f66 (first66.toList ++ (([.pointer (some ((⟨fE,0,none⟩:Addr).add 2))]:List Value) ++ sG.toList)).toArray gZ λe cK=>
 e=.returned (.tuple #[])/\
 dwE cK λbn=>
 zQi p2 λvD=>
 ∃xV,bn.cell? (vD.add 2)=some (.map xV)/\
 zQi p2 λpP=>
 ∃xW,bn.cell? (pP.add 1)=some (.int .i64 xW)/\
 ∃fY,bn.cell? ((⟨fE,0,none⟩:Addr).add 0)=some (.bool fY)/\
 ∃bf:SV,bn.cell? ((⟨fE,0,none⟩:Addr).add 1)=some (bf.v)/\
 ∃jG,bn.cell? ((⟨fE,0,none⟩:Addr).add 2)=some (.bool jG)/\
 ∃bY:SV,bn.cell? ((⟨fE,0,none⟩:Addr).add 3)=some (bY.v)/\
 doE prog (Instr.mapUpdate 88 (.map xV) (.int .i64 xW) (.agg #[.bool fY,bf.v,.bool jG,bY.v])) bn λj6=>
 zQe prog ds j6 λiK=>
 R (.returned (.int .i64 0)) iK) (
 fnE v3 λf66 first66 sG=>
 zXD prog f66=true/\Calls prog f66 (first66.toList ++ (([.pointer (some ((⟨fE,0,none⟩:Addr).add 2))]:List Value) ++ sG.toList)).toArray cS λe iF=>
 e=.returned (.tuple #[])/\
 dwE iF λiR=>
 zQi p2 λmQ=>
 ∃xV,iR.cell? (mQ.add 2)=some (.map xV)/\
 zQi p2 λrW=>
 ∃xW,iR.cell? (rW.add 1)=some (.int .i64 xW)/\
 ∃fY,iR.cell? ((⟨fE,0,none⟩:Addr).add 0)=some (.bool fY)/\
 ∃bf:SV,iR.cell? ((⟨fE,0,none⟩:Addr).add 1)=some (bf.v)/\
 ∃jG,iR.cell? ((⟨fE,0,none⟩:Addr).add 2)=some (.bool jG)/\
 ∃bY:SV,iR.cell? ((⟨fE,0,none⟩:Addr).add 3)=some (bY.v)/\
 doE prog (Instr.mapUpdate 88 (.map xV) (.int .i64 xW) (.agg #[.bool fY,bf.v,.bool jG,bY.v])) iR λjV=>
 zQe prog ds jV λgM=>
 R (.returned (.int .i64 0)) gM))))
theorem F53_p:Pl prog f53 [pS 0,iS 1,pS 2,vS 3] F53_1:=λR=>
 lf
theorem yVm (p0:Option Addr) (n1:Int) (p2:Option Addr) (v3:Value) (w:World) (R:Rt) (h:F53_1 R p0 n1 p2 v3 [] w):Calls prog 53 #[.pointer p0,.int .i64 n1,.pointer p2,v3] w R:=
 plC F53_p func53 h
def F16_1(R:Rt)(p0:Option Addr)(n1:Int)(s2:ByteArray)(mW jO:Int)(mX:ByteArray)(ds:Ds)(w:World):Prop:=
 alE (.cells #[.int .i64 mW,.int .i64 jO,.string mX] 28) w λr7 w1=>
 Calls prog 47 #[.pointer p0,.int .i64 n1] w1 λe w2=>
 ∃sH:Option Addr,∃xX:Value,∃sI:Int,e=.returned (.tuple #[.pointer sH,xX,.int .i64 sI])/\
 fnE xX λfx firstx capx=>
 Br (sI != 0) (
 zQe prog ({ target:=.fn (.func fx) capx,args:=(firstx.toList ++ ([]:List Value)).toArray } :: ds) w2 λw3=>
 R (.returned (.int .i64 sI)) w3) (
 zQi sH λa4=>
 ∃fv,w2.cell? (a4.add 1)=some (.int .i64 fv)/\
 Br (fv == 0) (
 zQe prog ({ target:=.fn (.func fx) capx,args:=(firstx.toList ++ ([]:List Value)).toArray } :: ds) w2 λw5=>
 R (.returned (.int .i64 9)) w5) (
 zQi p0 λa6=>
 ∃rZ:SV,w2.cell? ((a6.add 2).add 1)=some (rZ.v)/\
 Calls prog 51 #[rZ.v,.string s2] w2 λe w7=>
 ∃nz:Int,∃xY:Bool,e=.returned (.tuple #[.int .i64 nz,.bool xY])/\
 alE (.cells #[.int .i64 0] 3) w7 λrl w8=>
 st1 (⟨rl,0,none⟩:Addr) (.int .i64 nz) w8 λw9=>
 Br (!xY) (
 zQe prog ({ target:=.fn (.func fx) capx,args:=(firstx.toList ++ ([]:List Value)).toArray } :: ds) w9 λau=>
 R (.returned (.int .i64 4)) au) (
 dwE w9 λav=>
 zQi p0 λgL=>
 ∃vj:SV,av.cell? ((gL.add 2).add 1)=some (vj.v)/\
 ∃vh,av.cell? (⟨rl,0,none⟩:Addr)=some (.int .i64 vh)/\
 ∃dB,vj.a=some dB/\0<=vh/\vh<(vj.len:Int)/\
 ∃xZ,av.cell? ((dB.add (vh.toNat * 4)).add 0)=some (.string xZ)/\
 ∃oo,av.cell? ((dB.add (vh.toNat * 4)).add 1)=some (.int .i64 oo)/\
 ∃ou,av.cell? ((dB.add (vh.toNat * 4)).add 2)=some (.int .i64 ou)/\
 ∃x6,av.cell? ((dB.add (vh.toNat * 4)).add 3)=some (.bool x6)/\
 zQi p0 λfi=>
 ∃n55,av.cell? (fi.add 2)=some (.int .i64 n55)/\
 ∃x7,av.cell? ((⟨r7,0,none⟩:Addr).add 0)=some (.int .i64 x7)/\
 ∃x8,av.cell? ((⟨r7,0,none⟩:Addr).add 1)=some (.int .i64 x8)/\
 ∃x9,av.cell? ((⟨r7,0,none⟩:Addr).add 2)=some (.string x9)/\
 Calls prog 52 #[.agg #[.string xZ,.int .i64 oo,.int .i64 ou,.bool x6],.int .i64 n55,.agg #[.int .i64 x7,.int .i64 x8,.string x9]] av λe aD=>
 ∃qw:Int,∃qx:Int,∃qy:ByteArray,∃sJ:Int,e=.returned (.tuple #[.agg #[.int .i64 qw,.int .i64 qx,.string qy],.int .i64 sJ])/\
 stA prog 28 (⟨r7,0,none⟩:Addr) #[.int .i64 qw,.int .i64 qx,.string qy] aD λaU=>
 Br (sJ != 0) (
 zQe prog ({ target:=.fn (.func fx) capx,args:=(firstx.toList ++ ([]:List Value)).toArray } :: ds) aU λbr=>
 R (.returned (.int .i64 sJ)) br) (
 Calls prog 53 #[.pointer p0,.int .i64 n1,.pointer sH,.func (.func 54) #[] #[.pointer (some (⟨r7,0,none⟩:Addr)),.pointer (some (⟨rl,0,none⟩:Addr))]] aU λe bD=>
 ∃n67:Int,e=.returned (.int .i64 n67)/\
 zQe prog ({ target:=.fn (.func fx) capx,args:=(firstx.toList ++ ([]:List Value)).toArray } :: ds) bD λbE=>
 R (.returned (.int .i64 n67)) bE))))
theorem F16_p:Pl prog f16 [pS 0,iS 1,sS 2,aS 3 [.int .i64,.int .i64,.str]] F16_1:=λR=>
 lf
theorem yV4 (p0:Option Addr) (n1:Int) (s2:ByteArray) (mW jO:Int) (mX:ByteArray) (w:World) (R:Rt) (h:F16_1 R p0 n1 s2 mW jO mX [] w):Calls prog 16 #[.pointer p0,.int .i64 n1,.string s2,.agg #[.int .i64 mW,.int .i64 jO,.string mX]] w R:=
 plC F16_p func16 h
def F54_1(R:Rt)(p0:Option Addr)(v1 v2:Value)(ds:Ds)(w:World):Prop:=
 dwE w λw1=>
 zQi p0 λa2=>
 ∃l7:SV,w1.cell? (a2.add 1)=some (l7.v)/\
 zJE v2 λa3=>
 ∃n8,w1.cell? a3=some (.int .i64 n8)/\
 zJE v1 λa4=>
 ∃n9_0,w1.cell? (a4.add 0)=some (.int .i64 n9_0)/\
 ∃sr,w1.cell? (a4.add 1)=some (.int .i64 sr)/\
 ∃s9_2,w1.cell? (a4.add 2)=some (.string s9_2)/\
 ∃a5,l7.a=some a5/\0<=n8/\n8<(l7.len:Int)/\
 stA prog 28 (a5.add (n8.toNat * 3)) #[.int .i64 n9_0,.int .i64 sr,.string s9_2] w1 λw6=>
 zQe prog ds w6 λw7=>
 R (.returned (.tuple #[])) w7
theorem F54_p:Pl prog f54 [pS 0,vS 1,vS 2] F54_1:=λR=>
 lf
theorem yYe (p0:Option Addr) (v1 v2:Value) (w:World) (R:Rt) (h:F54_1 R p0 v1 v2 [] w):Calls prog 54 #[.pointer p0,v1,v2] w R:=
 plC F54_p func54 h
def F20_1(R:Rt)(p0:Option Addr)(n1:Int)(b2:Bool)(ds:Ds)(w:World):Prop:=
 alE (.cells #[.bool b2] 4) w λr5 w1=>
 Calls prog 47 #[.pointer p0,.int .i64 n1] w1 λe w2=>
 ∃ie:Option Addr,∃jF:Value,∃fW:Int,e=.returned (.tuple #[.pointer ie,jF,.int .i64 fW])/\
 fnE jF λfx firstx capx=>
 Br (fW != 0) (
 zQe prog ({ target:=.fn (.func fx) capx,args:=(firstx.toList ++ ([]:List Value)).toArray } :: ds) w2 λw3=>
 R (.returned (.int .i64 fW)) w3) (
 zQi ie λa4=>
 ∃iL,w2.cell? (a4.add 1)=some (.int .i64 iL)/\
 Br (iL == 0) (
 zQe prog ({ target:=.fn (.func fx) capx,args:=(firstx.toList ++ ([]:List Value)).toArray } :: ds) w2 λw5=>
 R (.returned (.int .i64 9)) w5) (
 Calls prog 53 #[.pointer p0,.int .i64 n1,.pointer ie,.func (.func 57) #[] #[.pointer (some (⟨r5,0,none⟩:Addr))]] w2 λe w6=>
 ∃sA:Int,e=.returned (.int .i64 sA)/\
 zQe prog ({ target:=.fn (.func fx) capx,args:=(firstx.toList ++ ([]:List Value)).toArray } :: ds) w6 λw7=>
 R (.returned (.int .i64 sA)) w7))
theorem F20_p:Pl prog f20 [pS 0,iS 1,bS 2] F20_1:=λR=>
 lf
theorem yWL (p0:Option Addr) (n1:Int) (b2:Bool) (w:World) (R:Rt) (h:F20_1 R p0 n1 b2 [] w):Calls prog 20 #[.pointer p0,.int .i64 n1,.bool b2] w R:=
 plC F20_p func20 h
def F57_1(R:Rt)(p0:Option Addr)(v1:Value)(ds:Ds)(w:World):Prop:=
 zJE v1 λa1=>
 ∃b4,w.cell? a1=some (.bool b4)/\
 zQi p0 λa2=>
 st1 a2 (.bool b4) w λw3=>
 zQe prog ds w3 λw4=>
 R (.returned (.tuple #[])) w4
theorem F57_p:Pl prog f57 [pS 0,vS 1] F57_1:=λR=>
 lf
theorem yV2 (p0:Option Addr) (v1:Value) (w:World) (R:Rt) (h:F57_1 R p0 v1 [] w):Calls prog 57 #[.pointer p0,v1] w R:=
 plC F57_p func57 h
def F56_1(R:Rt)(p0:Option Addr)(df:Bool)(aJ:SV)(b2:Bool)(s3:ByteArray)(ds:Ds)(w:World):Prop:=
 alE (.cells #[.bool df,aJ.v] 77) w λr5 w1=>
 alE (.cells #[.int .i64 0,.int .i64 0,.string (⟨#[]⟩:ByteArray)] 28) w1 λr8 w2=>
 zQi p0 λa3=>
 ∃de:SV,w2.cell? ((a3.add 2).add 1)=some (de.v)/\
 Calls prog 51 #[de.v,.string s3] w2 λe w4=>
 ∃fq:Int,∃ya:Bool,e=.returned (.tuple #[.int .i64 fq,.bool ya])/\
 Br (!b2) (
 stA prog 28 (⟨r8,0,none⟩:Addr) #[.int .i64 0,.int .i64 0,.string (⟨#[]⟩:ByteArray)] w4 λw5=>
 zQe prog ds w5 λw6=>
 ∃aa,w6.cell? ((⟨r8,0,none⟩:Addr).add 0)=some (.int .i64 aa)/\
 ∃ac,w6.cell? ((⟨r8,0,none⟩:Addr).add 1)=some (.int .i64 ac)/\
 ∃ae,w6.cell? ((⟨r8,0,none⟩:Addr).add 2)=some (.string ae)/\
 R (.returned (.tuple #[.agg #[.int .i64 aa,.int .i64 ac,.string ae],.int .i64 4])) w6) (
 Br (!ya) (
 stA prog 28 (⟨r8,0,none⟩:Addr) #[.int .i64 0,.int .i64 0,.string (⟨#[]⟩:ByteArray)] w4 λw7=>
 zQe prog ds w7 λw8=>
 ∃aa,w8.cell? ((⟨r8,0,none⟩:Addr).add 0)=some (.int .i64 aa)/\
 ∃ac,w8.cell? ((⟨r8,0,none⟩:Addr).add 1)=some (.int .i64 ac)/\
 ∃ae,w8.cell? ((⟨r8,0,none⟩:Addr).add 2)=some (.string ae)/\
 R (.returned (.tuple #[.agg #[.int .i64 aa,.int .i64 ac,.string ae],.int .i64 4])) w8) (
 ∃cL:SV,w4.cell? ((⟨r5,0,none⟩:Addr).add 1)=some (cL.v)/\
 ∃a9,cL.a=some a9/\0<=fq/\fq<(cL.len:Int)/\
 ∃dG,w4.cell? ((a9.add (fq.toNat * 3)).add 0)=some (.int .i64 dG)/\
 ∃fM,w4.cell? ((a9.add (fq.toNat * 3)).add 1)=some (.int .i64 fM)/\
 ∃fN,w4.cell? ((a9.add (fq.toNat * 3)).add 2)=some (.string fN)/\
 stA prog 28 (⟨r8,0,none⟩:Addr) #[.int .i64 dG,.int .i64 fM,.string fN] w4 λau=>
 zQe prog ds au λav=>
 ∃aa,av.cell? ((⟨r8,0,none⟩:Addr).add 0)=some (.int .i64 aa)/\
 ∃ac,av.cell? ((⟨r8,0,none⟩:Addr).add 1)=some (.int .i64 ac)/\
 ∃ae,av.cell? ((⟨r8,0,none⟩:Addr).add 2)=some (.string ae)/\
 R (.returned (.tuple #[.agg #[.int .i64 aa,.int .i64 ac,.string ae],.int .i64 0])) av))
theorem F56_p:Pl prog f56 [pS 0,aS 1 [.bool,.slice],bS 2,sS 3] F56_1:=λR=>
 lf
theorem yW8 (p0:Option Addr) (df:Bool) (aJ:SV) (b2:Bool) (s3:ByteArray) (w:World) (R:Rt) (h:F56_1 R p0 df aJ b2 s3 [] w):Calls prog 56 #[.pointer p0,.agg #[.bool df,aJ.v],.bool b2,.string s3] w R:=
 plC F56_p func56 h
def F29_1(R:Rt)(p0:Option Addr)(n1 n2:Int)(s3:ByteArray)(ds:Ds)(w:World):Prop:=
 alE (.cells #[.int .i64 0,.int .i64 0,.string (⟨#[]⟩:ByteArray)] 28) w λr8 w1=>
 Calls prog 47 #[.pointer p0,.int .i64 n1] w1 λe w2=>
 ∃lB:Option Addr,∃oh:Value,∃gN:Int,e=.returned (.tuple #[.pointer lB,oh,.int .i64 gN])/\
 fnE oh λfx firstx capx=>
 Br (gN != 0) (
 stA prog 28 (⟨r8,0,none⟩:Addr) #[.int .i64 0,.int .i64 0,.string (⟨#[]⟩:ByteArray)] w2 λw3=>
 zQe prog ({ target:=.fn (.func fx) capx,args:=(firstx.toList ++ ([]:List Value)).toArray } :: ds) w3 λw4=>
 ∃aa,w4.cell? ((⟨r8,0,none⟩:Addr).add 0)=some (.int .i64 aa)/\
 ∃ac,w4.cell? ((⟨r8,0,none⟩:Addr).add 1)=some (.int .i64 ac)/\
 ∃ae,w4.cell? ((⟨r8,0,none⟩:Addr).add 2)=some (.string ae)/\
 R (.returned (.tuple #[.agg #[.int .i64 aa,.int .i64 ac,.string ae],.int .i64 gN])) w4) (
 Calls prog 49 #[.pointer p0,.pointer lB,.int .i64 n2] w2 λe w5=>
 ∃qz:Bool,∃gu:SV,∃ov:Bool,e=.returned (.tuple #[.agg #[.bool qz,gu.v],.bool ov])/\
 alE (.cells #[.bool false,.slice none 0 0] 77) w5 λgC w6=>
 stA prog 77 (⟨gC,0,none⟩:Addr) #[.bool qz,gu.v] w6 λw7=>
 ∃nO,w7.cell? ((⟨gC,0,none⟩:Addr).add 0)=some (.bool nO)/\
 ∃dV:SV,w7.cell? ((⟨gC,0,none⟩:Addr).add 1)=some (dV.v)/\
 Calls prog 56 #[.pointer p0,.agg #[.bool nO,dV.v],.bool ov,.string s3] w7 λe w8=>
 ∃qA:Int,∃qB:Int,∃qC:ByteArray,∃yb:Int,e=.returned (.tuple #[.agg #[.int .i64 qA,.int .i64 qB,.string qC],.int .i64 yb])/\
 stA prog 28 (⟨r8,0,none⟩:Addr) #[.int .i64 qA,.int .i64 qB,.string qC] w8 λw9=>
 zQe prog ({ target:=.fn (.func fx) capx,args:=(firstx.toList ++ ([]:List Value)).toArray } :: ds) w9 λau=>
 ∃aa,au.cell? ((⟨r8,0,none⟩:Addr).add 0)=some (.int .i64 aa)/\
 ∃ac,au.cell? ((⟨r8,0,none⟩:Addr).add 1)=some (.int .i64 ac)/\
 ∃ae,au.cell? ((⟨r8,0,none⟩:Addr).add 2)=some (.string ae)/\
 R (.returned (.tuple #[.agg #[.int .i64 aa,.int .i64 ac,.string ae],.int .i64 yb])) au)
theorem F29_p:Pl prog f29 [pS 0,iS 1,iS 2,sS 3] F29_1:=λR=>
 lf
theorem yVB (p0:Option Addr) (n1 n2:Int) (s3:ByteArray) (w:World) (R:Rt) (h:F29_1 R p0 n1 n2 s3 [] w):Calls prog 29 #[.pointer p0,.int .i64 n1,.int .i64 n2,.string s3] w R:=
 plC F29_p func29 h
def F68_1(R:Rt)(p0:Option Addr)(n1 n2:Int)(s3:ByteArray)(ds:Ds)(w:World):Prop:=
 alE (.cells #[.int .i64 0,.int .i64 0,.string (⟨#[]⟩:ByteArray)] 28) w λr8 w1=>
 Calls prog 47 #[.pointer p0,.int .i64 n1] w1 λe w2=>
 ∃j8:Option Addr,∃yc:Value,∃lG:Int,e=.returned (.tuple #[.pointer j8,yc,.int .i64 lG])/\
 fnE yc λfx firstx capx=>
 Br (lG != 0) (
 stA prog 28 (⟨r8,0,none⟩:Addr) #[.int .i64 0,.int .i64 0,.string (⟨#[]⟩:ByteArray)] w2 λw3=>
 zQe prog ({ target:=.fn (.func fx) capx,args:=(firstx.toList ++ ([]:List Value)).toArray } :: ds) w3 λw4=>
 ∃aa,w4.cell? ((⟨r8,0,none⟩:Addr).add 0)=some (.int .i64 aa)/\
 ∃ac,w4.cell? ((⟨r8,0,none⟩:Addr).add 1)=some (.int .i64 ac)/\
 ∃ae,w4.cell? ((⟨r8,0,none⟩:Addr).add 2)=some (.string ae)/\
 R (.returned (.tuple #[.agg #[.int .i64 aa,.int .i64 ac,.string ae],.int .i64 lG])) w4) (
 Calls prog 49 #[.pointer p0,.pointer j8,.int .i64 n2] w2 λe w5=>
 ∃qD:Bool,∃gv:SV,∃im:Bool,e=.returned (.tuple #[.agg #[.bool qD,gv.v],.bool im])/\
 alE (.cells #[.bool false,.slice none 0 0] 77) w5 λgC w6=>
 stA prog 77 (⟨gC,0,none⟩:Addr) #[.bool qD,gv.v] w6 λw7=>
 zQi j8 λa8=>
 ∃m40,w7.cell? (a8.add 2)=some (.map m40)/\
 ∃qE:Bool,∃gw:SV,∃qF:Bool,∃gx:SV,∃ow:Bool,∃w9,(Instr.lookup 88 (.map m40) (.int .i64 n2) true).run prog w7=.ok (.tuple #[.agg #[.bool qE,gw.v,.bool qF,gx.v],.bool ow]) w9/\
 alE (.cells #[.bool false,.slice none 0 0,.bool false,.slice none 0 0] 133) w9 λsa au=>
 stA prog 133 (⟨sa,0,none⟩:Addr) #[.bool qE,gw.v,.bool qF,gx.v] au λav=>
 Br ow (
 ∃yd,av.cell? ((⟨sa,0,none⟩:Addr).add 0)=some (.bool yd)/\
 ∃lH:SV,av.cell? ((⟨sa,0,none⟩:Addr).add 1)=some (lH.v)/\
 stA prog 77 (⟨gC,0,none⟩:Addr) #[.bool yd,lH.v] av λao=>
 ∃dK,ao.cell? ((⟨gC,0,none⟩:Addr).add 0)=some (.bool dK)/\
 ∃aO:SV,ao.cell? ((⟨gC,0,none⟩:Addr).add 1)=some (aO.v)/\
 Calls prog 56 #[.pointer p0,.agg #[.bool dK,aO.v],.bool im,.string s3] ao λe aE=>
 ∃bt:Int,∃bu:Int,∃bv:ByteArray,∃bN:Int,e=.returned (.tuple #[.agg #[.int .i64 bt,.int .i64 bu,.string bv],.int .i64 bN])/\
 stA prog 28 (⟨r8,0,none⟩:Addr) #[.int .i64 bt,.int .i64 bu,.string bv] aE λaI=>
 zQe prog ({ target:=.fn (.func fx) capx,args:=(firstx.toList ++ ([]:List Value)).toArray } :: ds) aI λaD=>
 ∃aa,aD.cell? ((⟨r8,0,none⟩:Addr).add 0)=some (.int .i64 aa)/\
 ∃ac,aD.cell? ((⟨r8,0,none⟩:Addr).add 1)=some (.int .i64 ac)/\
 ∃ae,aD.cell? ((⟨r8,0,none⟩:Addr).add 2)=some (.string ae)/\
 R (.returned (.tuple #[.agg #[.int .i64 aa,.int .i64 ac,.string ae],.int .i64 bN])) aD) (
 Br im (
 Br (decide (n2<0)) (
 zQi p0 λna=>
 ∃sb:SV,av.cell? ((na.add 2).add 1)=some (sb.v)/\
 Calls prog 81 #[sb.v] av λe br=>
 ∃qG:Bool,∃gy:SV,∃qH:Int,e=.returned (.tuple #[.agg #[.bool qG,gy.v],.int .i64 qH])/\
 stA prog 77 (⟨gC,0,none⟩:Addr) #[.bool qG,gy.v] br λbD=>
 ∃dK,bD.cell? ((⟨gC,0,none⟩:Addr).add 0)=some (.bool dK)/\
 ∃aO:SV,bD.cell? ((⟨gC,0,none⟩:Addr).add 1)=some (aO.v)/\
 Calls prog 56 #[.pointer p0,.agg #[.bool dK,aO.v],.bool im,.string s3] bD λe bE=>
 ∃bt:Int,∃bu:Int,∃bv:ByteArray,∃bN:Int,e=.returned (.tuple #[.agg #[.int .i64 bt,.int .i64 bu,.string bv],.int .i64 bN])/\
 stA prog 28 (⟨r8,0,none⟩:Addr) #[.int .i64 bt,.int .i64 bu,.string bv] bE λcX=>
 zQe prog ({ target:=.fn (.func fx) capx,args:=(firstx.toList ++ ([]:List Value)).toArray } :: ds) cX λcO=>
 ∃aa,cO.cell? ((⟨r8,0,none⟩:Addr).add 0)=some (.int .i64 aa)/\
 ∃ac,cO.cell? ((⟨r8,0,none⟩:Addr).add 1)=some (.int .i64 ac)/\
 ∃ae,cO.cell? ((⟨r8,0,none⟩:Addr).add 2)=some (.string ae)/\
 R (.returned (.tuple #[.agg #[.int .i64 aa,.int .i64 ac,.string ae],.int .i64 bN])) cO) (
 ∃dK,av.cell? ((⟨gC,0,none⟩:Addr).add 0)=some (.bool dK)/\
 ∃aO:SV,av.cell? ((⟨gC,0,none⟩:Addr).add 1)=some (aO.v)/\
 Calls prog 56 #[.pointer p0,.agg #[.bool dK,aO.v],.bool im,.string s3] av λe cS=>
 ∃bt:Int,∃bu:Int,∃bv:ByteArray,∃bN:Int,e=.returned (.tuple #[.agg #[.int .i64 bt,.int .i64 bu,.string bv],.int .i64 bN])/\
 stA prog 28 (⟨r8,0,none⟩:Addr) #[.int .i64 bt,.int .i64 bu,.string bv] cS λcJ=>
 zQe prog ({ target:=.fn (.func fx) capx,args:=(firstx.toList ++ ([]:List Value)).toArray } :: ds) cJ λcP=>
 ∃aa,cP.cell? ((⟨r8,0,none⟩:Addr).add 0)=some (.int .i64 aa)/\
 ∃ac,cP.cell? ((⟨r8,0,none⟩:Addr).add 1)=some (.int .i64 ac)/\
 ∃ae,cP.cell? ((⟨r8,0,none⟩:Addr).add 2)=some (.string ae)/\
 R (.returned (.tuple #[.agg #[.int .i64 aa,.int .i64 ac,.string ae],.int .i64 bN])) cP)) (
 ∃dK,av.cell? ((⟨gC,0,none⟩:Addr).add 0)=some (.bool dK)/\
 ∃aO:SV,av.cell? ((⟨gC,0,none⟩:Addr).add 1)=some (aO.v)/\
 Calls prog 56 #[.pointer p0,.agg #[.bool dK,aO.v],.bool im,.string s3] av λe dQ=>
 ∃bt:Int,∃bu:Int,∃bv:ByteArray,∃bN:Int,e=.returned (.tuple #[.agg #[.int .i64 bt,.int .i64 bu,.string bv],.int .i64 bN])/\
 stA prog 28 (⟨r8,0,none⟩:Addr) #[.int .i64 bt,.int .i64 bu,.string bv] dQ λbV=>
 zQe prog ({ target:=.fn (.func fx) capx,args:=(firstx.toList ++ ([]:List Value)).toArray } :: ds) bV λdR=>
 ∃aa,dR.cell? ((⟨r8,0,none⟩:Addr).add 0)=some (.int .i64 aa)/\
 ∃ac,dR.cell? ((⟨r8,0,none⟩:Addr).add 1)=some (.int .i64 ac)/\
 ∃ae,dR.cell? ((⟨r8,0,none⟩:Addr).add 2)=some (.string ae)/\
 R (.returned (.tuple #[.agg #[.int .i64 aa,.int .i64 ac,.string ae],.int .i64 bN])) dR)))
theorem F68_p:Pl prog f68 [pS 0,iS 1,iS 2,sS 3] F68_1:=λR=>
 lf
theorem yWl (p0:Option Addr) (n1 n2:Int) (s3:ByteArray) (w:World) (R:Rt) (h:F68_1 R p0 n1 n2 s3 [] w):Calls prog 68 #[.pointer p0,.int .i64 n1,.int .i64 n2,.string s3] w R:=
 plC F68_p func68 h
def F18_1(R:Rt)(p0:Option Addr)(n1:Int)(s2:ByteArray)(ds:Ds)(w:World):Prop:=
 alE (.cells #[.int .i64 0,.int .i64 0,.string (⟨#[]⟩:ByteArray)] 28) w λr6 w1=>
 Calls prog 47 #[.pointer p0,.int .i64 0] w1 λe w2=>
 ∃ie:Option Addr,∃jF:Value,∃fW:Int,e=.returned (.tuple #[.pointer ie,jF,.int .i64 fW])/\
 fnE jF λfx firstx capx=>
 Br (fW != 0) (
 stA prog 28 (⟨r6,0,none⟩:Addr) #[.int .i64 0,.int .i64 0,.string (⟨#[]⟩:ByteArray)] w2 λw3=>
 zQe prog ({ target:=.fn (.func fx) capx,args:=(firstx.toList ++ ([]:List Value)).toArray } :: ds) w3 λw4=>
 ∃aa,w4.cell? ((⟨r6,0,none⟩:Addr).add 0)=some (.int .i64 aa)/\
 ∃ac,w4.cell? ((⟨r6,0,none⟩:Addr).add 1)=some (.int .i64 ac)/\
 ∃ae,w4.cell? ((⟨r6,0,none⟩:Addr).add 2)=some (.string ae)/\
 R (.returned (.tuple #[.agg #[.int .i64 aa,.int .i64 ac,.string ae],.int .i64 fW])) w4) (
 Br (decide (n1<1)) (
 stA prog 28 (⟨r6,0,none⟩:Addr) #[.int .i64 0,.int .i64 0,.string (⟨#[]⟩:ByteArray)] w2 λw5=>
 zQe prog ({ target:=.fn (.func fx) capx,args:=(firstx.toList ++ ([]:List Value)).toArray } :: ds) w5 λw6=>
 ∃aa,w6.cell? ((⟨r6,0,none⟩:Addr).add 0)=some (.int .i64 aa)/\
 ∃ac,w6.cell? ((⟨r6,0,none⟩:Addr).add 1)=some (.int .i64 ac)/\
 ∃ae,w6.cell? ((⟨r6,0,none⟩:Addr).add 2)=some (.string ae)/\
 R (.returned (.tuple #[.agg #[.int .i64 aa,.int .i64 ac,.string ae],.int .i64 4])) w6) (
 zQi p0 λa7=>
 ∃cL:SV,w2.cell? ((a7.add 2).add 2)=some (cL.v)/\
 Br (decide (n1 > (cL.len:Int))) (
 stA prog 28 (⟨r6,0,none⟩:Addr) #[.int .i64 0,.int .i64 0,.string (⟨#[]⟩:ByteArray)] w2 λw8=>
 zQe prog ({ target:=.fn (.func fx) capx,args:=(firstx.toList ++ ([]:List Value)).toArray } :: ds) w8 λw9=>
 ∃aa,w9.cell? ((⟨r6,0,none⟩:Addr).add 0)=some (.int .i64 aa)/\
 ∃ac,w9.cell? ((⟨r6,0,none⟩:Addr).add 1)=some (.int .i64 ac)/\
 ∃ae,w9.cell? ((⟨r6,0,none⟩:Addr).add 2)=some (.string ae)/\
 R (.returned (.tuple #[.agg #[.int .i64 aa,.int .i64 ac,.string ae],.int .i64 4])) w9) (
 zQi p0 λcW=>
 ∃l40:SV,w2.cell? ((cW.add 2).add 2)=some (l40.v)/\
 ∃gO,l40.a=some gO/\0<=(IntKind.i64.wrap (n1 - 1))/\(IntKind.i64.wrap (n1 - 1))<(l40.len:Int)/\
 ∃oy,w2.cell? ((gO.add ((IntKind.i64.wrap (n1 - 1)).toNat * 2)).add 0)=some (.bool oy)/\
 ∃bZ:SV,w2.cell? ((gO.add ((IntKind.i64.wrap (n1 - 1)).toNat * 2)).add 1)=some (bZ.v)/\
 Calls prog 56 #[.pointer p0,.agg #[.bool oy,bZ.v],.bool true,.string s2] w2 λe ao=>
 ∃qI:Int,∃qJ:Int,∃qK:ByteArray,∃fP:Int,e=.returned (.tuple #[.agg #[.int .i64 qI,.int .i64 qJ,.string qK],.int .i64 fP])/\
 stA prog 28 (⟨r6,0,none⟩:Addr) #[.int .i64 qI,.int .i64 qJ,.string qK] ao λaE=>
 zQe prog ({ target:=.fn (.func fx) capx,args:=(firstx.toList ++ ([]:List Value)).toArray } :: ds) aE λaI=>
 ∃aa,aI.cell? ((⟨r6,0,none⟩:Addr).add 0)=some (.int .i64 aa)/\
 ∃ac,aI.cell? ((⟨r6,0,none⟩:Addr).add 1)=some (.int .i64 ac)/\
 ∃ae,aI.cell? ((⟨r6,0,none⟩:Addr).add 2)=some (.string ae)/\
 R (.returned (.tuple #[.agg #[.int .i64 aa,.int .i64 ac,.string ae],.int .i64 fP])) aI)))
theorem F18_p:Pl prog f18 [pS 0,iS 1,sS 2] F18_1:=λR=>
 lf
theorem yYf (p0:Option Addr) (n1:Int) (s2:ByteArray) (w:World) (R:Rt) (h:F18_1 R p0 n1 s2 [] w):Calls prog 18 #[.pointer p0,.int .i64 n1,.string s2] w R:=
 plC F18_p func18 h
def F76_1(R:Rt)(l9:SV)(ds:Ds)(w:World):Prop:=
 zQe prog ds w λw1=>
 R (.returned (.tuple #[l9.v,.int .i64 0])) w1
def F76_2 (R:Rt) (J1:(SV × Int)->World->Prop) (l9:SV) (gk ji:Int) (ds:Ds) (w:World):Prop:=
 Br (decide (ji<gk)) (
 alE (.cells #[.int .i64 (IntKind.i64.wrap ((IntKind.i64.wrap (0 - ji)) - 1))] 3) w λr40 w2=>
 ∃iQ:SV,∃w3,(Builtin.append_ #[43,43] 43 #[l9.v,.slice (some ⟨r40,0,none⟩) 1 1]).run prog w2=.ok (iQ.v) w3/\
 J1 (iQ,(IntKind.i64.wrap (ji+1))) w3) (
 F76_1 R l9 ds w)
def F76_3(R:Rt)(l9:SV)(gk ji:Int)(ds:Ds)(w:World):Prop:=
 zQ8 (λ(J1:(SV × Int)->World->Prop) (s:SV × Int) (w:World)=>F76_2 R J1 s.1 gk s.2 ds w) (l9,ji) w
def F76_5(R:Rt)(p0:Option Addr)(n1:Int)(ds:Ds)(w:World):Prop:=
 Calls prog 47 #[.pointer p0,.int .i64 n1] w λe w4=>
 ∃jH:Option Addr,∃jI:Value,∃dI:Int,e=.returned (.tuple #[.pointer jH,jI,.int .i64 dI])/\
 fnE jI λfx firstx capx=>
 Br (dI != 0) (
 zQe prog ({ target:=.fn (.func fx) capx,args:=(firstx.toList ++ ([]:List Value)).toArray } :: ds) w4 λw5=>
 R (.returned (.tuple #[.slice none 0 0,.int .i64 dI])) w5) (
 zQi jH λa6=>
 ∃m25,w4.cell? (a6.add 2)=some (.map m25)/\
 Calls prog 129 #[.map m25] w4 λe w7=>
 ∃v26:Value,e=.returned (v26)/\
 Calls prog 128 #[v26] w7 λe w8=>
 ∃jW:SV,e=.returned (jW.v)/\
 zQi jH λa9=>
 ∃l31:SV,w8.cell? (a9.add 3)=some (l31.v)/\
 F76_3 R jW (l31.len:Int) 0 ({ target:=.fn (.func fx) capx,args:=(firstx.toList ++ ([]:List Value)).toArray } :: ds) w8)
theorem F76_p:Pl prog f76 [pS 0,iS 1] F76_5:=λR=>
 pc 7 (zQz [lS 9,iS 32,iS 33] (F76_3 R) (bk 0 (zQz [lS 9] (F76_1 R) lf) (lp [lS 9,iS 33] [lS 9,iS 32,iS 33] (F76_2 R) zXs λJ1=>lf)))
theorem yVi (p0:Option Addr) (n1:Int) (w:World) (R:Rt) (h:F76_5 R p0 n1 [] w):Calls prog 76 #[.pointer p0,.int .i64 n1] w R:=
 plC F76_p func76 h
def F78_1(R:Rt)(p0:Option Addr)(n1:Int)(ds:Ds)(w:World):Prop:=
 Calls prog 47 #[.pointer p0,.int .i64 n1] w λe w1=>
 ∃oz:Option Addr,∃oB:Value,∃j9:Int,e=.returned (.tuple #[.pointer oz,oB,.int .i64 j9])/\
 fnE oB λfx firstx capx=>
 Br (j9 != 0) (
 zQe prog ({ target:=.fn (.func fx) capx,args:=(firstx.toList ++ ([]:List Value)).toArray } :: ds) w1 λw2=>
 R (.returned (.tuple #[.slice none 0 0,.int .i64 j9])) w2) (
 Calls prog 114 #[.pointer p0,.pointer oz] w1 λe w3=>
 ∃gD:SV,e=.returned (gD.v)/\
 zQe prog ({ target:=.fn (.func fx) capx,args:=(firstx.toList ++ ([]:List Value)).toArray } :: ds) w3 λw4=>
 R (.returned (.tuple #[gD.v,.int .i64 0])) w4)
theorem F78_p:Pl prog f78 [pS 0,iS 1] F78_1:=λR=>
 lf
theorem yWM (p0:Option Addr) (n1:Int) (w:World) (R:Rt) (h:F78_1 R p0 n1 [] w):Calls prog 78 #[.pointer p0,.int .i64 n1] w R:=
 plC F78_p func78 h
def F30_1(R:Rt)(p0:Option Addr)(n1:Int)(ds:Ds)(w:World):Prop:=
 Calls prog 47 #[.pointer p0,.int .i64 0] w λe w1=>
 ∃jH:Option Addr,∃jI:Value,∃dI:Int,e=.returned (.tuple #[.pointer jH,jI,.int .i64 dI])/\
 fnE jI λfx firstx capx=>
 Br (dI != 0) (
 zQe prog ({ target:=.fn (.func fx) capx,args:=(firstx.toList ++ ([]:List Value)).toArray } :: ds) w1 λw2=>
 R (.returned (.tuple #[.int .i64 0,.bool false,.int .i64 dI])) w2) (
 Br (decide (n1<1)) (
 zQe prog ({ target:=.fn (.func fx) capx,args:=(firstx.toList ++ ([]:List Value)).toArray } :: ds) w1 λw3=>
 R (.returned (.tuple #[.int .i64 0,.bool false,.int .i64 4])) w3) (
 zQi p0 λa4=>
 ∃cL:SV,w1.cell? ((a4.add 2).add 2)=some (cL.v)/\
 Br (decide (n1 > (cL.len:Int))) (
 zQe prog ({ target:=.fn (.func fx) capx,args:=(firstx.toList ++ ([]:List Value)).toArray } :: ds) w1 λw5=>
 R (.returned (.tuple #[.int .i64 0,.bool false,.int .i64 4])) w5) (
 zQi p0 λa6=>
 ∃m38,w1.cell? (a6.add 21)=some (.map m38)/\
 ∃oD:Int,∃ye:Bool,∃w7,(Instr.lookup 80 (.map m38) (.int .i64 n1) true).run prog w1=.ok (.tuple #[.int .i64 oD,.bool ye]) w7/\
 zQe prog ({ target:=.fn (.func fx) capx,args:=(firstx.toList ++ ([]:List Value)).toArray } :: ds) w7 λw8=>
 R (.returned (.tuple #[.int .i64 oD,.bool ye,.int .i64 0])) w8)))
theorem F30_p:Pl prog f30 [pS 0,iS 1] F30_1:=λR=>
 lf
theorem yVa (p0:Option Addr) (n1:Int) (w:World) (R:Rt) (h:F30_1 R p0 n1 [] w):Calls prog 30 #[.pointer p0,.int .i64 n1] w R:=
 plC F30_p func30 h
def F24_1(R:Rt)(p0:Option Addr)(ds:Ds)(w:World):Prop:=
 alE (.cells #[.int .i64 0,.slice none 0 0,.slice none 0 0] 25) w λr2 w1=>
 Calls prog 47 #[.pointer p0,.int .i64 0] w1 λe w2=>
 ∃p9_0:Option Addr,∃v9_1:Value,∃su:Int,e=.returned (.tuple #[.pointer p9_0,v9_1,.int .i64 su])/\
 fnE v9_1 λfx firstx capx=>
 Br (su != 0) (
 stA prog 25 (⟨r2,0,none⟩:Addr) #[.int .i64 0,.slice none 0 0,.slice none 0 0] w2 λw3=>
 zQe prog ({ target:=.fn (.func fx) capx,args:=(firstx.toList ++ ([]:List Value)).toArray } :: ds) w3 λw4=>
 ∃aa,w4.cell? ((⟨r2,0,none⟩:Addr).add 0)=some (.int .i64 aa)/\
 ∃af:SV,w4.cell? ((⟨r2,0,none⟩:Addr).add 1)=some (af.v)/\
 ∃bg:SV,w4.cell? ((⟨r2,0,none⟩:Addr).add 2)=some (bg.v)/\
 R (.returned (.agg #[.int .i64 aa,af.v,bg.v])) w4) (
 zQi p0 λa5=>
 ∃dD,w2.cell? ((a5.add 2).add 0)=some (.int .i64 dD)/\
 ∃bc:SV,w2.cell? ((a5.add 2).add 1)=some (bc.v)/\
 ∃bX:SV,w2.cell? ((a5.add 2).add 2)=some (bX.v)/\
 alE (.cells #[.int .i64 0,.slice none 0 0,.slice none 0 0] 25) w2 λr6 w6=>
 stA prog 25 (⟨r6,0,none⟩:Addr) #[.int .i64 dD,bc.v,bX.v] w6 λw7=>
 dwE w7 λw8=>
 ∃S1:World->Prop,S1 w8/\
 ∃gD:SV,(∀w',S1 w'->w'.cell? ((⟨r6,0,none⟩:Addr).add 1)=some (gD.v))/\
 ∃mU:SV,(∀w',S1 w'->w'.cell? ((⟨r6,0,none⟩:Addr).add 2)=some (mU.v))/\
 Calls prog 39 #[gD.v] w8 λe w9=>
 ∃dT:SV,e=.returned (dT.v)/\
 S1 w9/\
 Calls prog 40 #[mU.v] w9 λe au=>
 ∃nb:SV,e=.returned (nb.v)/\
 st1 ((⟨r6,0,none⟩:Addr).add 1) (dT.v) au λav=>
 st1 ((⟨r6,0,none⟩:Addr).add 2) (nb.v) av λao=>
 ∃jD,ao.cell? ((⟨r6,0,none⟩:Addr).add 0)=some (.int .i64 jD)/\
 ∃ez:SV,ao.cell? ((⟨r6,0,none⟩:Addr).add 1)=some (ez.v)/\
 ∃eF:SV,ao.cell? ((⟨r6,0,none⟩:Addr).add 2)=some (eF.v)/\
 stA prog 25 (⟨r2,0,none⟩:Addr) #[.int .i64 jD,ez.v,eF.v] ao λaE=>
 zQe prog ({ target:=.fn (.func fx) capx,args:=(firstx.toList ++ ([]:List Value)).toArray } :: ds) aE λaI=>
 ∃aa,aI.cell? ((⟨r2,0,none⟩:Addr).add 0)=some (.int .i64 aa)/\
 ∃af:SV,aI.cell? ((⟨r2,0,none⟩:Addr).add 1)=some (af.v)/\
 ∃bg:SV,aI.cell? ((⟨r2,0,none⟩:Addr).add 2)=some (bg.v)/\
 R (.returned (.agg #[.int .i64 aa,af.v,bg.v])) aI)
theorem F24_p:Pl prog f24 [pS 0] F24_1:=λR=>
 lf
theorem yKp (p0:Option Addr) (w:World) (R:Rt) (h:F24_1 R p0 [] w):Calls prog 24 #[.pointer p0] w R:=
 plC F24_p func24 h
end Go.Proofs.YtcihcbfcgjepfaaGreatDoor
