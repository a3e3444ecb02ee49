import Derived.Test.YtjbfehippchniaaGreatDoorProg
import Derived.Test.YtjbfehippchniaaGreatDoorShTwentyEight
/- Shallow texts of functions, printed by program, each checked by the kernel against the loaded code. No condition. -/
set_option maxRecDepth 100000
set_option linter.unusedVariables false
namespace Go.Proofs.YtjbfehippchniaaGreatDoor
open Go.Sh Tryz
def F4_1(R:Rt)(s3:ByteArray)(n4:Int)(l5:SV)(b37:Bool)(ds:Ds)(w:World):Prop:=
 Br b37 (
 Br (n4 != 0) (
 Calls prog 7 #[] w λe w1=>
 ∃b41:Bool,e=.returned (.bool b41)/\
 runD prog ds w1 λw2=>
 R (.returned (.bool b41)) w2) (
 runD prog ds w λw3=>
 R (.returned (.bool false)) w3)) (
 Calls prog 12 #[.slice l5.a l5.len l5.cap] w λe w4=>
 ∃s44:ByteArray,e=.returned (.string s44)/\
 Br (decide ((s44.size:Int)<=4000)) (
 Br (n4 == 0) (
 Br (s3.toList == s44.toList) (
 Calls prog 7 #[] w4 λe w5=>
 ∃b56:Bool,e=.returned (.bool b56)/\
 runD prog ds w5 λw6=>
 R (.returned (.bool b56)) w6) (
 runD prog ds w4 λw7=>
 R (.returned (.bool false)) w7)) (
 runD prog ds w4 λw8=>
 R (.returned (.bool false)) w8)) (
 Br (n4 == 3) (
 Calls prog 7 #[] w4 λe w9=>
 ∃b61:Bool,e=.returned (.bool b61)/\
 runD prog ds w9 λw10=>
 R (.returned (.bool b61)) w10) (
 runD prog ds w4 λw11=>
 R (.returned (.bool false)) w11)))
def F4_2(R:Rt)(s0:ByteArray)(ds:Ds)(w:World):Prop:=
 alE (.cells #[.string s0] 9) w λr10 w12=>
 Calls prog 5 #[.slice (some ⟨r10,0,none⟩) 1 1] w12 λe w13=>
 ∃b11:Bool,e=.returned (.bool b11)/\
 Br b11 (
 Calls prog 7 #[] w13 λe w14=>
 ∃b16:Bool,e=.returned (.bool b16)/\
 runD prog ds w14 λw15=>
 R (.returned (.bool b16)) w15) (
 Calls prog 10 #[.string s0] w13 λe w16=>
 ∃b14:Bool,e=.returned (.bool b14)/\
 Br b14 (
 Calls prog 7 #[] w16 λe w17=>
 ∃b16:Bool,e=.returned (.bool b16)/\
 runD prog ds w17 λw18=>
 R (.returned (.bool b16)) w18) (
 Calls prog 11 #[.string s0] w16 λe w19=>
 ∃s19_0:ByteArray,∃n19_1:Int,e=.returned (.tuple #[.string s19_0,.int .i64 n19_1])/\
 Calls prog 8 #[.string s0] w19 λe w20=>
 ∃l24_0:SV,∃n24_1:Int,∃n24_2:Int,e=.returned (.tuple #[.slice l24_0.a l24_0.len l24_0.cap,.int .i64 n24_1,.int .i64 n24_2])/\
 Br (n24_2 == 3) (
 Br (decide ((s0.size:Int)<=4000)) (
 Calls prog 7 #[] w20 λe w21=>
 ∃b35:Bool,e=.returned (.bool b35)/\
 runD prog ds w21 λw22=>
 R (.returned (.bool b35)) w22) (
 F4_1 R s19_0 n19_1 l24_0 (n24_2 != 0) ds w20)) (
 F4_1 R s19_0 n19_1 l24_0 (n24_2 != 0) ds w20)))
theorem F4_p:Pl prog f4 [sS 0] F4_2:=λR=>
  pc 8 (rest [sS 3,iS 4,lS 5,bS 37] (F4_1 R) lf)
theorem F4_calls (s0:ByteArray) (w:World) (R:Rt) (h:F4_2 R s0 [] w):Calls prog 4 #[.string s0] w R:=
  plC F4_p func4 h
def F5_1(R:Rt)(l0:SV)(ds:Ds)(w:World):Prop:=
 Calls prog 13 #[.slice l0.a l0.len l0.cap] w λe w1=>
 ∃b4:Bool,e=.returned (.bool b4)/\
 runD prog ds w1 λw2=>
 R (.returned (.bool b4)) w2
theorem F5_p:Pl prog f5 [lS 0] F5_1:=λR=>
  lf
theorem F5_calls (l0:SV) (w:World) (R:Rt) (h:F5_1 R l0 [] w):Calls prog 5 #[.slice l0.a l0.len l0.cap] w R:=
  plC F5_p func5 h
def F7_1(R:Rt)(ds:Ds)(w:World):Prop:=
 alE (.cells #[.string (⟨#[35,67,79,77,77,65,78,68,32,85,80,83,69,82,84,32,60,102,62,32,87,73,84,72,32,60,118,62,32,61,62,32,82,69,80,76,65,67,69,32,60,102,62,32,87,73,84,72,32,60,118,62]⟩:ByteArray)] 9) w λr6 w1=>
 Calls prog 9 #[.string (⟨#[117,112,115,101,114,116,32,97,32,119,105,116,104,32,49,32,43,32,50]⟩:ByteArray),.slice (some ⟨r6,0,none⟩) 1 1] w1 λe w2=>
 ∃s7_0:ByteArray,∃n7_1:Int,e=.returned (.tuple #[.string s7_0,.int .i64 n7_1])/\
 alE (.cells #[.string (⟨#[35,68,69,70,73,78,69,32,65,32,66]⟩:ByteArray),.string (⟨#[35,68,69,70,73,78,69,32,66,32,65]⟩:ByteArray)] 9) w2 λr11 w3=>
 Calls prog 9 #[.string (⟨#[65]⟩:ByteArray),.slice (some ⟨r11,0,none⟩) 2 2] w3 λe w4=>
 ∃s12_0:ByteArray,∃n12_1:Int,e=.returned (.tuple #[.string s12_0,.int .i64 n12_1])/\
 Br (n7_1 == 0) (
 Br (s7_0.toList == (⟨#[82,69,80,76,65,67,69,32,65,32,87,73,84,72,32,49,32,43,32,50]⟩:ByteArray).toList) (
 Br (n12_1 == 0) (
 runD prog ds w4 λw5=>
 R (.returned (.bool (s12_0.toList == (⟨#[65]⟩:ByteArray).toList))) w5) (
 runD prog ds w4 λw6=>
 R (.returned (.bool false)) w6)) (
 runD prog ds w4 λw7=>
 R (.returned (.bool false)) w7)) (
 runD prog ds w4 λw8=>
 R (.returned (.bool false)) w8)
theorem F7_p:Pl prog f7 [] F7_1:=λR=>
  lf
theorem F7_calls  (w:World) (R:Rt) (h:F7_1 R [] w):Calls prog 7 #[] w R:=
  plC F7_p func7 h
def F13_1(R:Rt)(n3:Int)(ds:Ds)(w:World):Prop:=
 runD prog ds w λw1=>
 R (.returned (.bool (decide (n3 > 12000)))) w1
def F13_2 (R:Rt) (J1:(Int × Int)->World->Prop) (l0:SV) (n3 n4:Int) (ds:Ds) (w:World):Prop:=
 Br (decide (n4<(l0.len:Int))) (
 ∃a2,l0.a=some a2/\0<=n4/\n4<(l0.len:Int)/\
 ∃s17,w.cell? (a2.add (n4.toNat * 1))=some (.string s17)/\
 J1 ((IntKind.i64.wrap (n3+(s17.size:Int))),(IntKind.i64.wrap (n4+1))) w) (
 F13_1 R n3 ds w)
def F13_3(R:Rt)(l0:SV)(n3 n4:Int)(ds:Ds)(w:World):Prop:=
 loopT (λ(J1:(Int × Int)->World->Prop) (s:Int × Int) (w:World)=>F13_2 R J1 l0 s.1 s.2 ds w) (n3,n4) w
def F13_5(R:Rt)(l0:SV)(ds:Ds)(w:World):Prop:=
 F13_3 R l0 (l0.len:Int) 0 ds w
theorem F13_p:Pl prog f13 [lS 0] F13_5:=λR=>
  pc 3 (rest [lS 0,iS 3,iS 4] (F13_3 R) (bk 0 (rest [iS 3] (F13_1 R) lf) (lp [iS 3,iS 4] [lS 0,iS 3,iS 4] (F13_2 R) rnil λJ1=>lf)))
theorem F13_calls (l0:SV) (w:World) (R:Rt) (h:F13_5 R l0 [] w):Calls prog 13 #[.slice l0.a l0.len l0.cap] w R:=
  plC F13_p func13 h
end Go.Proofs.YtjbfehippchniaaGreatDoor

/- Shallow texts of functions, printed by program, each checked by the kernel against the loaded code. No condition. -/
set_option maxRecDepth 100000
set_option linter.unusedVariables false
namespace Go.Proofs.YtjbfehippchniaaGreatDoor
open Go.Sh Tryz
def F38_1(R:Rt)(s0 s1:ByteArray)(ds:Ds)(w:World):Prop:=
 alE (.cells #[.bool false,.slice none 0 0,.slice none 0 0] 72) w λr4 w1=>
 Calls prog 69 #[.string s1] w1 λe w2=>
 ∃s15_0:ByteArray,∃s15_1:ByteArray,∃b15_2:Bool,e=.returned (.tuple #[.string s15_0,.string s15_1,.bool b15_2])/\
 Br (!b15_2) (
 stA prog 72 (⟨r4,0,none⟩:Addr) #[.bool false,.slice none 0 0,.slice none 0 0] w2 λw3=>
 runD prog ds w3 λw4=>
 ∃bR0_0,w4.cell? ((⟨r4,0,none⟩:Addr).add 0)=some (.bool bR0_0)/\
 ∃lR0_1:SV,w4.cell? ((⟨r4,0,none⟩:Addr).add 1)=some (.slice lR0_1.a lR0_1.len lR0_1.cap)/\
 ∃lR0_2:SV,w4.cell? ((⟨r4,0,none⟩:Addr).add 2)=some (.slice lR0_2.a lR0_2.len lR0_2.cap)/\
 R (.returned (.tuple #[.agg #[.bool bR0_0,.slice lR0_1.a lR0_1.len lR0_1.cap,.slice lR0_2.a lR0_2.len lR0_2.cap],.bool false])) w4) (
 Calls prog 70 #[.string s15_0] w2 λe w5=>
 ∃l24_0:SV,∃b24_1:Bool,e=.returned (.tuple #[.slice l24_0.a l24_0.len l24_0.cap,.bool b24_1])/\
 Calls prog 71 #[.string s15_1] w5 λe w6=>
 ∃l29_0:SV,∃b29_1:Bool,e=.returned (.tuple #[.slice l29_0.a l29_0.len l29_0.cap,.bool b29_1])/\
 Br b24_1 (
 stA prog 72 (⟨r4,0,none⟩:Addr) #[.bool (s0.toList == (⟨#[67,79,77,77,65,78,68]⟩:ByteArray).toList),.slice l24_0.a l24_0.len l24_0.cap,.slice l29_0.a l29_0.len l29_0.cap] w6 λw7=>
 runD prog ds w7 λw8=>
 ∃bR0_0,w8.cell? ((⟨r4,0,none⟩:Addr).add 0)=some (.bool bR0_0)/\
 ∃lR0_1:SV,w8.cell? ((⟨r4,0,none⟩:Addr).add 1)=some (.slice lR0_1.a lR0_1.len lR0_1.cap)/\
 ∃lR0_2:SV,w8.cell? ((⟨r4,0,none⟩:Addr).add 2)=some (.slice lR0_2.a lR0_2.len lR0_2.cap)/\
 R (.returned (.tuple #[.agg #[.bool bR0_0,.slice lR0_1.a lR0_1.len lR0_1.cap,.slice lR0_2.a lR0_2.len lR0_2.cap],.bool b29_1])) w8) (
 stA prog 72 (⟨r4,0,none⟩:Addr) #[.bool (s0.toList == (⟨#[67,79,77,77,65,78,68]⟩:ByteArray).toList),.slice l24_0.a l24_0.len l24_0.cap,.slice l29_0.a l29_0.len l29_0.cap] w6 λw9=>
 runD prog ds w9 λw10=>
 ∃bR0_0,w10.cell? ((⟨r4,0,none⟩:Addr).add 0)=some (.bool bR0_0)/\
 ∃lR0_1:SV,w10.cell? ((⟨r4,0,none⟩:Addr).add 1)=some (.slice lR0_1.a lR0_1.len lR0_1.cap)/\
 ∃lR0_2:SV,w10.cell? ((⟨r4,0,none⟩:Addr).add 2)=some (.slice lR0_2.a lR0_2.len lR0_2.cap)/\
 R (.returned (.tuple #[.agg #[.bool bR0_0,.slice lR0_1.a lR0_1.len lR0_1.cap,.slice lR0_2.a lR0_2.len lR0_2.cap],.bool false])) w10))
theorem F38_p:Pl prog f38 [sS 0,sS 1] F38_1:=λR=>
  lf
theorem F38_calls (s0 s1:ByteArray) (w:World) (R:Rt) (h:F38_1 R s0 s1 [] w):Calls prog 38 #[.string s0,.string s1] w R:=
  plC F38_p func38 h
def F71_1(R:Rt)(s0:ByteArray)(ds:Ds)(w:World):Prop:=
 alE (.cells #[.string s0,.int .i64 0,.bool true] 78) w λr6 w1=>
 Calls prog 101 #[.pointer (some (⟨r6,0,none⟩:Addr)),.bool false] w1 λe w2=>
 ∃l7_0:SV,∃b7_1:Bool,e=.returned (.tuple #[.slice l7_0.a l7_0.len l7_0.cap,.bool b7_1])/\
 runD prog ds w2 λw3=>
 R (.returned (.tuple #[.slice l7_0.a l7_0.len l7_0.cap,.bool b7_1])) w3
theorem F71_p:Pl prog f71 [sS 0] F71_1:=λR=>
  lf
theorem F71_calls (s0:ByteArray) (w:World) (R:Rt) (h:F71_1 R s0 [] w):Calls prog 71 #[.string s0] w R:=
  plC F71_p func71 h
def F70_1(R:Rt)(l4:SV)(ds:Ds)(w:World):Prop:=
 runD prog ds w λw1=>
 R (.returned (.tuple #[.slice l4.a l4.len l4.cap,.bool true])) w1
def F70_2 (R:Rt) (J1:(Int)->World->Prop) (l4:SV) (m6:Option Nat) (l32:SV) (n33 n34:Int) (ds:Ds) (w:World):Prop:=
 J1 (IntKind.i64.wrap (n34+1)) w
def F70_3 (R:Rt) (J1:(Int)->World->Prop) (l4:SV) (m6:Option Nat) (l32:SV) (n33 n34:Int) (ds:Ds) (w:World):Prop:=
 ∃a2,l32.a=some a2/\0<=n34/\n34<(l32.len:Int)/\
 ∃n37_0,w.cell? ((a2.add (n34.toNat * 7)).add 0)=some (.int .i64 n37_0)/\
 ∃n37_1,w.cell? ((a2.add (n34.toNat * 7)).add 1)=some (.int .i64 n37_1)/\
 ∃n37_2,w.cell? ((a2.add (n34.toNat * 7)).add 2)=some (.int .i64 n37_2)/\
 ∃s37_3,w.cell? ((a2.add (n34.toNat * 7)).add 3)=some (.string s37_3)/\
 ∃s37_4,w.cell? ((a2.add (n34.toNat * 7)).add 4)=some (.string s37_4)/\
 ∃l37_5:SV,w.cell? ((a2.add (n34.toNat * 7)).add 5)=some (.slice l37_5.a l37_5.len l37_5.cap)/\
 ∃l37_6:SV,w.cell? ((a2.add (n34.toNat * 7)).add 6)=some (.slice l37_6.a l37_6.len l37_6.cap)/\
 alE (.cells #[.int .i64 0,.int .i64 0,.int .i64 0,.string (⟨#[]⟩:ByteArray),.string (⟨#[]⟩:ByteArray),.slice none 0 0,.slice none 0 0] 128) w λr8 w3=>
 stA prog 128 (⟨r8,0,none⟩:Addr) #[.int .i64 n37_0,.int .i64 n37_1,.int .i64 n37_2,.string s37_3,.string s37_4,.slice l37_5.a l37_5.len l37_5.cap,.slice l37_6.a l37_6.len l37_6.cap] w3 λw4=>
 ∃n40,w4.cell? (⟨r8,0,none⟩:Addr)=some (.int .i64 n40)/\
 Br (n40 == 0) (
 ∃n43_0,w4.cell? ((⟨r8,0,none⟩:Addr).add 0)=some (.int .i64 n43_0)/\
 ∃n43_1,w4.cell? ((⟨r8,0,none⟩:Addr).add 1)=some (.int .i64 n43_1)/\
 ∃n43_2,w4.cell? ((⟨r8,0,none⟩:Addr).add 2)=some (.int .i64 n43_2)/\
 ∃s43_3,w4.cell? ((⟨r8,0,none⟩:Addr).add 3)=some (.string s43_3)/\
 ∃s43_4,w4.cell? ((⟨r8,0,none⟩:Addr).add 4)=some (.string s43_4)/\
 ∃l43_5:SV,w4.cell? ((⟨r8,0,none⟩:Addr).add 5)=some (.slice l43_5.a l43_5.len l43_5.cap)/\
 ∃l43_6:SV,w4.cell? ((⟨r8,0,none⟩:Addr).add 6)=some (.slice l43_6.a l43_6.len l43_6.cap)/\
 Calls prog 102 #[.agg #[.int .i64 n43_0,.int .i64 n43_1,.int .i64 n43_2,.string s43_3,.string s43_4,.slice l43_5.a l43_5.len l43_5.cap,.slice l43_6.a l43_6.len l43_6.cap]] w4 λe w5=>
 ∃b44:Bool,e=.returned (.bool b44)/\
 Br (!b44) (
 runD prog ds w5 λw6=>
 R (.returned (.tuple #[.slice none 0 0,.bool false])) w6) (
 ∃n49,w5.cell? (⟨r8,0,none⟩:Addr)=some (.int .i64 n49)/\
 Br (n49 == 4) (
 ∃l53:SV,w5.cell? ((⟨r8,0,none⟩:Addr).add 6)=some (.slice l53.a l53.len l53.cap)/\
 Br ((l53.len:Int) == 0) (
 runD prog ds w5 λw7=>
 R (.returned (.tuple #[.slice none 0 0,.bool false])) w7) (
 ∃l58:SV,w5.cell? ((⟨r8,0,none⟩:Addr).add 6)=some (.slice l58.a l58.len l58.cap)/\
 ∃a8,l58.a=some a8/\0<=(0:Int)/\(0:Int)<(l58.len:Int)/\
 ∃n60_0,w5.cell? ((a8.add ((0:Int).toNat * 7)).add 0)=some (.int .i64 n60_0)/\
 ∃n60_1,w5.cell? ((a8.add ((0:Int).toNat * 7)).add 1)=some (.int .i64 n60_1)/\
 ∃n60_2,w5.cell? ((a8.add ((0:Int).toNat * 7)).add 2)=some (.int .i64 n60_2)/\
 ∃s60_3,w5.cell? ((a8.add ((0:Int).toNat * 7)).add 3)=some (.string s60_3)/\
 ∃s60_4,w5.cell? ((a8.add ((0:Int).toNat * 7)).add 4)=some (.string s60_4)/\
 ∃l60_5:SV,w5.cell? ((a8.add ((0:Int).toNat * 7)).add 5)=some (.slice l60_5.a l60_5.len l60_5.cap)/\
 ∃l60_6:SV,w5.cell? ((a8.add ((0:Int).toNat * 7)).add 6)=some (.slice l60_6.a l60_6.len l60_6.cap)/\
 Calls prog 102 #[.agg #[.int .i64 n60_0,.int .i64 n60_1,.int .i64 n60_2,.string s60_3,.string s60_4,.slice l60_5.a l60_5.len l60_5.cap,.slice l60_6.a l60_6.len l60_6.cap]] w5 λe w9=>
 ∃b61:Bool,e=.returned (.bool b61)/\
 Br (!b61) (
 runD prog ds w9 λw10=>
 R (.returned (.tuple #[.slice none 0 0,.bool false])) w10) (
 ∃s67,w9.cell? ((⟨r8,0,none⟩:Addr).add 4)=some (.string s67)/\
 Br (!(s67.toList == (⟨#[]⟩:ByteArray).toList)) (
 ∃s72,w9.cell? ((⟨r8,0,none⟩:Addr).add 4)=some (.string s72)/\
 ∃b73:Bool,∃w11,(Instr.lookup 129 (.map m6) (.string s72) false).run prog w9=.ok (.bool b73) w11/\
 Br b73 (
 runD prog ds w11 λw12=>
 R (.returned (.tuple #[.slice none 0 0,.bool false])) w12) (
 ∃s77,w11.cell? ((⟨r8,0,none⟩:Addr).add 4)=some (.string s77)/\
 doE prog (Instr.mapUpdate 129 (.map m6) (.string s77) (.bool true)) w11 λw13=>
 F70_2 R J1 l4 m6 l32 n33 n34 ds w13)) (
 ∃s77,w9.cell? ((⟨r8,0,none⟩:Addr).add 4)=some (.string s77)/\
 doE prog (Instr.mapUpdate 129 (.map m6) (.string s77) (.bool true)) w9 λw14=>
 F70_2 R J1 l4 m6 l32 n33 n34 ds w14)))) (
 ∃s67,w5.cell? ((⟨r8,0,none⟩:Addr).add 4)=some (.string s67)/\
 Br (!(s67.toList == (⟨#[]⟩:ByteArray).toList)) (
 ∃s72,w5.cell? ((⟨r8,0,none⟩:Addr).add 4)=some (.string s72)/\
 ∃b73:Bool,∃w15,(Instr.lookup 129 (.map m6) (.string s72) false).run prog w5=.ok (.bool b73) w15/\
 Br b73 (
 runD prog ds w15 λw16=>
 R (.returned (.tuple #[.slice none 0 0,.bool false])) w16) (
 ∃s77,w15.cell? ((⟨r8,0,none⟩:Addr).add 4)=some (.string s77)/\
 doE prog (Instr.mapUpdate 129 (.map m6) (.string s77) (.bool true)) w15 λw17=>
 F70_2 R J1 l4 m6 l32 n33 n34 ds w17)) (
 ∃s77,w5.cell? ((⟨r8,0,none⟩:Addr).add 4)=some (.string s77)/\
 doE prog (Instr.mapUpdate 129 (.map m6) (.string s77) (.bool true)) w5 λw18=>
 F70_2 R J1 l4 m6 l32 n33 n34 ds w18)))) (
 ∃n49,w4.cell? (⟨r8,0,none⟩:Addr)=some (.int .i64 n49)/\
 Br (n49 == 4) (
 ∃l53:SV,w4.cell? ((⟨r8,0,none⟩:Addr).add 6)=some (.slice l53.a l53.len l53.cap)/\
 Br ((l53.len:Int) == 0) (
 runD prog ds w4 λw19=>
 R (.returned (.tuple #[.slice none 0 0,.bool false])) w19) (
 ∃l58:SV,w4.cell? ((⟨r8,0,none⟩:Addr).add 6)=some (.slice l58.a l58.len l58.cap)/\
 ∃a20,l58.a=some a20/\0<=(0:Int)/\(0:Int)<(l58.len:Int)/\
 ∃n60_0,w4.cell? ((a20.add ((0:Int).toNat * 7)).add 0)=some (.int .i64 n60_0)/\
 ∃n60_1,w4.cell? ((a20.add ((0:Int).toNat * 7)).add 1)=some (.int .i64 n60_1)/\
 ∃n60_2,w4.cell? ((a20.add ((0:Int).toNat * 7)).add 2)=some (.int .i64 n60_2)/\
 ∃s60_3,w4.cell? ((a20.add ((0:Int).toNat * 7)).add 3)=some (.string s60_3)/\
 ∃s60_4,w4.cell? ((a20.add ((0:Int).toNat * 7)).add 4)=some (.string s60_4)/\
 ∃l60_5:SV,w4.cell? ((a20.add ((0:Int).toNat * 7)).add 5)=some (.slice l60_5.a l60_5.len l60_5.cap)/\
 ∃l60_6:SV,w4.cell? ((a20.add ((0:Int).toNat * 7)).add 6)=some (.slice l60_6.a l60_6.len l60_6.cap)/\
 Calls prog 102 #[.agg #[.int .i64 n60_0,.int .i64 n60_1,.int .i64 n60_2,.string s60_3,.string s60_4,.slice l60_5.a l60_5.len l60_5.cap,.slice l60_6.a l60_6.len l60_6.cap]] w4 λe w21=>
 ∃b61:Bool,e=.returned (.bool b61)/\
 Br (!b61) (
 runD prog ds w21 λw22=>
 R (.returned (.tuple #[.slice none 0 0,.bool false])) w22) (
 ∃s67,w21.cell? ((⟨r8,0,none⟩:Addr).add 4)=some (.string s67)/\
 Br (!(s67.toList == (⟨#[]⟩:ByteArray).toList)) (
 ∃s72,w21.cell? ((⟨r8,0,none⟩:Addr).add 4)=some (.string s72)/\
 ∃b73:Bool,∃w23,(Instr.lookup 129 (.map m6) (.string s72) false).run prog w21=.ok (.bool b73) w23/\
 Br b73 (
 runD prog ds w23 λw24=>
 R (.returned (.tuple #[.slice none 0 0,.bool false])) w24) (
 ∃s77,w23.cell? ((⟨r8,0,none⟩:Addr).add 4)=some (.string s77)/\
 doE prog (Instr.mapUpdate 129 (.map m6) (.string s77) (.bool true)) w23 λw25=>
 F70_2 R J1 l4 m6 l32 n33 n34 ds w25)) (
 ∃s77,w21.cell? ((⟨r8,0,none⟩:Addr).add 4)=some (.string s77)/\
 doE prog (Instr.mapUpdate 129 (.map m6) (.string s77) (.bool true)) w21 λw26=>
 F70_2 R J1 l4 m6 l32 n33 n34 ds w26)))) (
 ∃s67,w4.cell? ((⟨r8,0,none⟩:Addr).add 4)=some (.string s67)/\
 Br (!(s67.toList == (⟨#[]⟩:ByteArray).toList)) (
 ∃s72,w4.cell? ((⟨r8,0,none⟩:Addr).add 4)=some (.string s72)/\
 ∃b73:Bool,∃w27,(Instr.lookup 129 (.map m6) (.string s72) false).run prog w4=.ok (.bool b73) w27/\
 Br b73 (
 runD prog ds w27 λw28=>
 R (.returned (.tuple #[.slice none 0 0,.bool false])) w28) (
 ∃s77,w27.cell? ((⟨r8,0,none⟩:Addr).add 4)=some (.string s77)/\
 doE prog (Instr.mapUpdate 129 (.map m6) (.string s77) (.bool true)) w27 λw29=>
 F70_2 R J1 l4 m6 l32 n33 n34 ds w29)) (
 ∃s77,w4.cell? ((⟨r8,0,none⟩:Addr).add 4)=some (.string s77)/\
 doE prog (Instr.mapUpdate 129 (.map m6) (.string s77) (.bool true)) w4 λw30=>
 F70_2 R J1 l4 m6 l32 n33 n34 ds w30)))
def F70_4 (R:Rt) (J1:(Int)->World->Prop) (l4:SV) (m6:Option Nat) (l32:SV) (n33 n34:Int) (ds:Ds) (w:World):Prop:=
 Br (decide (n34<n33)) (
 F70_3 R J1 l4 m6 l32 n33 n34 ds w) (
 F70_1 R l4 ds w)
def F70_5(R:Rt)(l4:SV)(m6:Option Nat)(l32:SV)(n33 n34:Int)(ds:Ds)(w:World):Prop:=
 loopT (λ(J1:(Int)->World->Prop) (s:Int) (w:World)=>F70_4 R J1 l4 m6 l32 n33 s ds w) n34 w
def F70_7(R:Rt)(s0:ByteArray)(ds:Ds)(w:World):Prop:=
 alE (.cells #[.string s0,.int .i64 0,.bool false] 78) w λr12 w31=>
 Calls prog 101 #[.pointer (some (⟨r12,0,none⟩:Addr)),.bool false] w31 λe w32=>
 ∃l13_0:SV,∃b13_1:Bool,e=.returned (.tuple #[.slice l13_0.a l13_0.len l13_0.cap,.bool b13_1])/\
 Br (!b13_1) (
 runD prog ds w32 λw33=>
 R (.returned (.tuple #[.slice none 0 0,.bool false])) w33) (
 Br ((l13_0.len:Int) == 0) (
 runD prog ds w32 λw34=>
 R (.returned (.tuple #[.slice none 0 0,.bool false])) w34) (
 ∃a35,l13_0.a=some a35/\0<=(0:Int)/\(0:Int)<(l13_0.len:Int)/\
 ∃n26_0,w32.cell? ((a35.add ((0:Int).toNat * 7)).add 0)=some (.int .i64 n26_0)/\
 ∃n26_1,w32.cell? ((a35.add ((0:Int).toNat * 7)).add 1)=some (.int .i64 n26_1)/\
 ∃n26_2,w32.cell? ((a35.add ((0:Int).toNat * 7)).add 2)=some (.int .i64 n26_2)/\
 ∃s26_3,w32.cell? ((a35.add ((0:Int).toNat * 7)).add 3)=some (.string s26_3)/\
 ∃s26_4,w32.cell? ((a35.add ((0:Int).toNat * 7)).add 4)=some (.string s26_4)/\
 ∃l26_5:SV,w32.cell? ((a35.add ((0:Int).toNat * 7)).add 5)=some (.slice l26_5.a l26_5.len l26_5.cap)/\
 ∃l26_6:SV,w32.cell? ((a35.add ((0:Int).toNat * 7)).add 6)=some (.slice l26_6.a l26_6.len l26_6.cap)/\
 Calls prog 102 #[.agg #[.int .i64 n26_0,.int .i64 n26_1,.int .i64 n26_2,.string s26_3,.string s26_4,.slice l26_5.a l26_5.len l26_5.cap,.slice l26_6.a l26_6.len l26_6.cap]] w32 λe w36=>
 ∃b27:Bool,e=.returned (.bool b27)/\
 Br (!b27) (
 runD prog ds w36 λw37=>
 R (.returned (.tuple #[.slice none 0 0,.bool false])) w37) (
 alE (.map #[] 0) w36 λr30 w38=>
 Calls prog 103 #[.slice l13_0.a l13_0.len l13_0.cap] w38 λe w39=>
 ∃l32:SV,e=.returned (.slice l32.a l32.len l32.cap)/\
 F70_5 R l13_0 (some r30) l32 (l32.len:Int) 0 ds w39)))
theorem F70_p:Pl prog f70 [sS 0] F70_7:=λR=>
  pc 6 (rest [lS 4,mS 6,lS 32,iS 33,iS 34] (F70_5 R) (bk 0 (rest [lS 4] (F70_1 R) lf) (lp [iS 34] [lS 4,mS 6,lS 32,iS 33,iS 34] (F70_4 R) rnil λJ1=>pc 2 (rest [lS 4,mS 6,lS 32,iS 33,iS 34] (F70_3 R J1) (pc 1 (rest [lS 4,mS 6,lS 32,iS 33,iS 34] (F70_2 R J1) lf))))))
theorem F70_calls (s0:ByteArray) (w:World) (R:Rt) (h:F70_7 R s0 [] w):Calls prog 70 #[.string s0] w R:=
  plC F70_p func70 h
def F102_1(R:Rt)(n0_0 n0_1 n0_2:Int)(s0_3 s0_4:ByteArray)(l0_5 l0_6:SV)(ds:Ds)(w:World):Prop:=
 alE (.cells #[.int .i64 n0_0,.int .i64 n0_1,.int .i64 n0_2,.string s0_3,.string s0_4,.slice l0_5.a l0_5.len l0_5.cap,.slice l0_6.a l0_6.len l0_6.cap] 128) w λr1 w1=>
 ∃n4,w1.cell? (⟨r1,0,none⟩:Addr)=some (.int .i64 n4)/\
 Br (n4 == 0) (
 ∃n9,w1.cell? ((⟨r1,0,none⟩:Addr).add 1)=some (.int .i64 n9)/\
 Br (n9 == 0) (
 runD prog ds w1 λw2=>
 R (.returned (.bool true)) w2) (
 ∃n14,w1.cell? ((⟨r1,0,none⟩:Addr).add 1)=some (.int .i64 n14)/\
 runD prog ds w1 λw3=>
 R (.returned (.bool (n14 == 4))) w3)) (
 runD prog ds w1 λw4=>
 R (.returned (.bool false)) w4)
theorem F102_p:Pl prog f102 [aS 0 [.int .i64,.int .i64,.int .i64,.str,.str,.slice,.slice]] F102_1:=λR=>
  lf
theorem F102_calls (n0_0 n0_1 n0_2:Int) (s0_3 s0_4:ByteArray) (l0_5 l0_6:SV) (w:World) (R:Rt) (h:F102_1 R n0_0 n0_1 n0_2 s0_3 s0_4 l0_5 l0_6 [] w):Calls prog 102 #[.agg #[.int .i64 n0_0,.int .i64 n0_1,.int .i64 n0_2,.string s0_3,.string s0_4,.slice l0_5.a l0_5.len l0_5.cap,.slice l0_6.a l0_6.len l0_6.cap]] w R:=
  plC F102_p func102 h
def F103_1(R:Rt)(l3:SV)(ds:Ds)(w:World):Prop:=
 runD prog ds w λw1=>
 R (.returned (.slice l3.a l3.len l3.cap)) w1
def F103_2 (R:Rt) (J1:(SV × Int)->World->Prop) (l3 l6:SV) (n7 n8:Int) (ds:Ds) (w:World):Prop:=
 Br (decide (n8<n7)) (
 ∃a2,l6.a=some a2/\0<=n8/\n8<(l6.len:Int)/\
 ∃n11_0,w.cell? ((a2.add (n8.toNat * 7)).add 0)=some (.int .i64 n11_0)/\
 ∃n11_1,w.cell? ((a2.add (n8.toNat * 7)).add 1)=some (.int .i64 n11_1)/\
 ∃n11_2,w.cell? ((a2.add (n8.toNat * 7)).add 2)=some (.int .i64 n11_2)/\
 ∃s11_3,w.cell? ((a2.add (n8.toNat * 7)).add 3)=some (.string s11_3)/\
 ∃s11_4,w.cell? ((a2.add (n8.toNat * 7)).add 4)=some (.string s11_4)/\
 ∃l11_5:SV,w.cell? ((a2.add (n8.toNat * 7)).add 5)=some (.slice l11_5.a l11_5.len l11_5.cap)/\
 ∃l11_6:SV,w.cell? ((a2.add (n8.toNat * 7)).add 6)=some (.slice l11_6.a l11_6.len l11_6.cap)/\
 alE (.cells #[.int .i64 0,.int .i64 0,.int .i64 0,.string (⟨#[]⟩:ByteArray),.string (⟨#[]⟩:ByteArray),.slice none 0 0,.slice none 0 0] 128) w λr5 w3=>
 stA prog 128 (⟨r5,0,none⟩:Addr) #[.int .i64 n11_0,.int .i64 n11_1,.int .i64 n11_2,.string s11_3,.string s11_4,.slice l11_5.a l11_5.len l11_5.cap,.slice l11_6.a l11_6.len l11_6.cap] w3 λw4=>
 ∃n13_0,w4.cell? ((⟨r5,0,none⟩:Addr).add 0)=some (.int .i64 n13_0)/\
 ∃n13_1,w4.cell? ((⟨r5,0,none⟩:Addr).add 1)=some (.int .i64 n13_1)/\
 ∃n13_2,w4.cell? ((⟨r5,0,none⟩:Addr).add 2)=some (.int .i64 n13_2)/\
 ∃s13_3,w4.cell? ((⟨r5,0,none⟩:Addr).add 3)=some (.string s13_3)/\
 ∃s13_4,w4.cell? ((⟨r5,0,none⟩:Addr).add 4)=some (.string s13_4)/\
 ∃l13_5:SV,w4.cell? ((⟨r5,0,none⟩:Addr).add 5)=some (.slice l13_5.a l13_5.len l13_5.cap)/\
 ∃l13_6:SV,w4.cell? ((⟨r5,0,none⟩:Addr).add 6)=some (.slice l13_6.a l13_6.len l13_6.cap)/\
 alE (.cells #[.int .i64 n13_0,.int .i64 n13_1,.int .i64 n13_2,.string s13_3,.string s13_4,.slice l13_5.a l13_5.len l13_5.cap,.slice l13_6.a l13_6.len l13_6.cap] 128) w4 λr14 w5=>
 ∃l15:SV,∃w6,(Builtin.append_ #[70,70] 70 #[.slice l3.a l3.len l3.cap,.slice (some ⟨r14,0,none⟩) 1 1]).run prog w5=.ok (.slice l15.a l15.len l15.cap) w6/\
 ∃l18:SV,w6.cell? ((⟨r5,0,none⟩:Addr).add 6)=some (.slice l18.a l18.len l18.cap)/\
 Calls prog 103 #[.slice l18.a l18.len l18.cap] w6 λe w7=>
 ∃l19:SV,e=.returned (.slice l19.a l19.len l19.cap)/\
 ∃l20:SV,∃w8,(Builtin.append_ #[70,70] 70 #[.slice l15.a l15.len l15.cap,.slice l19.a l19.len l19.cap]).run prog w7=.ok (.slice l20.a l20.len l20.cap) w8/\
 J1 (l20,(IntKind.i64.wrap (n8+1))) w8) (
 F103_1 R l3 ds w)
def F103_3(R:Rt)(l3 l6:SV)(n7 n8:Int)(ds:Ds)(w:World):Prop:=
 loopT (λ(J1:(SV × Int)->World->Prop) (s:SV × Int) (w:World)=>F103_2 R J1 s.1 l6 n7 s.2 ds w) (l3,n8) w
def F103_5(R:Rt)(l0:SV)(ds:Ds)(w:World):Prop:=
 F103_3 R ⟨none,0,0⟩ l0 (l0.len:Int) 0 ds w
theorem F103_p:Pl prog f103 [lS 0] F103_5:=λR=>
  pc 3 (rest [lS 3,lS 6,iS 7,iS 8] (F103_3 R) (bk 0 (rest [lS 3] (F103_1 R) lf) (lp [lS 3,iS 8] [lS 3,lS 6,iS 7,iS 8] (F103_2 R) rnil λJ1=>lf)))
theorem F103_calls (l0:SV) (w:World) (R:Rt) (h:F103_5 R l0 [] w):Calls prog 103 #[.slice l0.a l0.len l0.cap] w R:=
  plC F103_p func103 h
def F101_1 (R:Rt) (J1:(SV)->World->Prop) (p0:Option Addr) (b1:Bool) (l6:SV) (ds:Ds) (w:World):Prop:=
 Calls prog 136 #[.pointer p0] w λe w1=>
 ∃n123_0_0:Int,∃n123_0_1:Int,∃n123_0_2:Int,∃s123_0_3:ByteArray,∃s123_0_4:ByteArray,∃l123_0_5:SV,∃l123_0_6:SV,∃b123_1:Bool,e=.returned (.tuple #[.agg #[.int .i64 n123_0_0,.int .i64 n123_0_1,.int .i64 n123_0_2,.string s123_0_3,.string s123_0_4,.slice l123_0_5.a l123_0_5.len l123_0_5.cap,.slice l123_0_6.a l123_0_6.len l123_0_6.cap],.bool b123_1])/\
 alE (.cells #[.int .i64 0,.int .i64 0,.int .i64 0,.string (⟨#[]⟩:ByteArray),.string (⟨#[]⟩:ByteArray),.slice none 0 0,.slice none 0 0] 128) w1 λr9 w2=>
 stA prog 128 (⟨r9,0,none⟩:Addr) #[.int .i64 n123_0_0,.int .i64 n123_0_1,.int .i64 n123_0_2,.string s123_0_3,.string s123_0_4,.slice l123_0_5.a l123_0_5.len l123_0_5.cap,.slice l123_0_6.a l123_0_6.len l123_0_6.cap] w2 λw3=>
 Br b123_1 (
 ∃n128_0,w3.cell? ((⟨r9,0,none⟩:Addr).add 0)=some (.int .i64 n128_0)/\
 ∃n128_1,w3.cell? ((⟨r9,0,none⟩:Addr).add 1)=some (.int .i64 n128_1)/\
 ∃n128_2,w3.cell? ((⟨r9,0,none⟩:Addr).add 2)=some (.int .i64 n128_2)/\
 ∃s128_3,w3.cell? ((⟨r9,0,none⟩:Addr).add 3)=some (.string s128_3)/\
 ∃s128_4,w3.cell? ((⟨r9,0,none⟩:Addr).add 4)=some (.string s128_4)/\
 ∃l128_5:SV,w3.cell? ((⟨r9,0,none⟩:Addr).add 5)=some (.slice l128_5.a l128_5.len l128_5.cap)/\
 ∃l128_6:SV,w3.cell? ((⟨r9,0,none⟩:Addr).add 6)=some (.slice l128_6.a l128_6.len l128_6.cap)/\
 alE (.cells #[.int .i64 n128_0,.int .i64 n128_1,.int .i64 n128_2,.string s128_3,.string s128_4,.slice l128_5.a l128_5.len l128_5.cap,.slice l128_6.a l128_6.len l128_6.cap] 128) w3 λr129 w4=>
 ∃l130:SV,∃w5,(Builtin.append_ #[70,70] 70 #[.slice l6.a l6.len l6.cap,.slice (some ⟨r129,0,none⟩) 1 1]).run prog w4=.ok (.slice l130.a l130.len l130.cap) w5/\
 J1 l130 w5) (
 Calls prog 137 #[.pointer p0] w3 λe w6=>
 ∃n133_0_0:Int,∃n133_0_1:Int,∃s133_0_2:ByteArray,∃b133_1:Bool,e=.returned (.tuple #[.agg #[.int .i64 n133_0_0,.int .i64 n133_0_1,.string s133_0_2],.bool b133_1])/\
 alE (.cells #[.int .i64 0,.int .i64 0,.string (⟨#[]⟩:ByteArray)] 30) w6 λr11 w7=>
 stA prog 30 (⟨r11,0,none⟩:Addr) #[.int .i64 n133_0_0,.int .i64 n133_0_1,.string s133_0_2] w7 λw8=>
 Br (!b133_1) (
 runD prog ds w8 λw9=>
 R (.returned (.tuple #[.slice none 0 0,.bool false])) w9) (
 ∃n139_0,w8.cell? ((⟨r11,0,none⟩:Addr).add 0)=some (.int .i64 n139_0)/\
 ∃n139_1,w8.cell? ((⟨r11,0,none⟩:Addr).add 1)=some (.int .i64 n139_1)/\
 ∃s139_2,w8.cell? ((⟨r11,0,none⟩:Addr).add 2)=some (.string s139_2)/\
 alE (.cells #[.int .i64 0,.int .i64 n139_0,.int .i64 n139_1,.string s139_2,.string (⟨#[]⟩:ByteArray),.slice none 0 0,.slice none 0 0] 128) w8 λr141 w10=>
 ∃l142:SV,∃w11,(Builtin.append_ #[70,70] 70 #[.slice l6.a l6.len l6.cap,.slice (some ⟨r141,0,none⟩) 1 1]).run prog w10=.ok (.slice l142.a l142.len l142.cap) w11/\
 J1 l142 w11))
def F101_2 (R:Rt) (J1:(SV)->World->Prop) (p0:Option Addr) (b1:Bool) (l6:SV) (ds:Ds) (w:World):Prop:=
 dwE w λw12=>
 ptrE p0 λa13=>
 ∃n58,w12.cell? (a13.add 1)=some (.int .i64 n58)/\
 ptrE p0 λa14=>
 ∃s62,w12.cell? a14=some (.string s62)/\
 Br (n58 == (s62.size:Int)) (
 runD prog ds w12 λw15=>
 R (.returned (.tuple #[.slice l6.a l6.len l6.cap,.bool (!b1)])) w15) (
 Calls prog 135 #[.pointer p0,.string (⟨#[92,91]⟩:ByteArray)] w12 λe w16=>
 ∃b70:Bool,e=.returned (.bool b70)/\
 Br b70 (
 dwE w16 λw17=>
 ptrE p0 λa18=>
 ∃s83,w17.cell? a18=some (.string s83)/\
 ptrE p0 λa19=>
 ∃n87,w17.cell? (a19.add 1)=some (.int .i64 n87)/\
 ptrE p0 λa20=>
 ∃n92,w17.cell? (a20.add 1)=some (.int .i64 n92)/\
 0<=n92/\n92.toNat<=s83.size/\0<=(IntKind.i64.wrap (n87 - 1))/\(IntKind.i64.wrap (n87 - 1)).toNat<=n92.toNat/\
 alE (.cells #[.int .i64 0,.int .i64 4,.int .i64 0,.string (s83.extract ((IntKind.i64.wrap (n87 - 1)).toNat) n92.toNat),.string (⟨#[]⟩:ByteArray),.slice none 0 0,.slice none 0 0] 128) w17 λr96 w21=>
 ∃l97:SV,∃w22,(Builtin.append_ #[70,70] 70 #[.slice l6.a l6.len l6.cap,.slice (some ⟨r96,0,none⟩) 1 1]).run prog w21=.ok (.slice l97.a l97.len l97.cap) w22/\
 J1 l97 w22) (
 Calls prog 135 #[.pointer p0,.string (⟨#[92,93]⟩:ByteArray)] w16 λe w23=>
 ∃b73:Bool,e=.returned (.bool b73)/\
 Br b73 (
 dwE w23 λw24=>
 ptrE p0 λa25=>
 ∃s83,w24.cell? a25=some (.string s83)/\
 ptrE p0 λa26=>
 ∃n87,w24.cell? (a26.add 1)=some (.int .i64 n87)/\
 ptrE p0 λa27=>
 ∃n92,w24.cell? (a27.add 1)=some (.int .i64 n92)/\
 0<=n92/\n92.toNat<=s83.size/\0<=(IntKind.i64.wrap (n87 - 1))/\(IntKind.i64.wrap (n87 - 1)).toNat<=n92.toNat/\
 alE (.cells #[.int .i64 0,.int .i64 4,.int .i64 0,.string (s83.extract ((IntKind.i64.wrap (n87 - 1)).toNat) n92.toNat),.string (⟨#[]⟩:ByteArray),.slice none 0 0,.slice none 0 0] 128) w24 λr96 w28=>
 ∃l97:SV,∃w29,(Builtin.append_ #[70,70] 70 #[.slice l6.a l6.len l6.cap,.slice (some ⟨r96,0,none⟩) 1 1]).run prog w28=.ok (.slice l97.a l97.len l97.cap) w29/\
 J1 l97 w29) (
 Calls prog 135 #[.pointer p0,.string (⟨#[92,60]⟩:ByteArray)] w23 λe w30=>
 ∃b77:Bool,e=.returned (.bool b77)/\
 Br b77 (
 dwE w30 λw31=>
 ptrE p0 λa32=>
 ∃s83,w31.cell? a32=some (.string s83)/\
 ptrE p0 λa33=>
 ∃n87,w31.cell? (a33.add 1)=some (.int .i64 n87)/\
 ptrE p0 λa34=>
 ∃n92,w31.cell? (a34.add 1)=some (.int .i64 n92)/\
 0<=n92/\n92.toNat<=s83.size/\0<=(IntKind.i64.wrap (n87 - 1))/\(IntKind.i64.wrap (n87 - 1)).toNat<=n92.toNat/\
 alE (.cells #[.int .i64 0,.int .i64 4,.int .i64 0,.string (s83.extract ((IntKind.i64.wrap (n87 - 1)).toNat) n92.toNat),.string (⟨#[]⟩:ByteArray),.slice none 0 0,.slice none 0 0] 128) w31 λr96 w35=>
 ∃l97:SV,∃w36,(Builtin.append_ #[70,70] 70 #[.slice l6.a l6.len l6.cap,.slice (some ⟨r96,0,none⟩) 1 1]).run prog w35=.ok (.slice l97.a l97.len l97.cap) w36/\
 J1 l97 w36) (
 Calls prog 135 #[.pointer p0,.string (⟨#[91]⟩:ByteArray)] w30 λe w37=>
 ∃b100:Bool,e=.returned (.bool b100)/\
 Br b100 (
 Calls prog 101 #[.pointer p0,.bool true] w37 λe w38=>
 ∃l103_0:SV,∃b103_1:Bool,e=.returned (.tuple #[.slice l103_0.a l103_0.len l103_0.cap,.bool b103_1])/\
 Br b1 (
 runD prog ds w38 λw39=>
 R (.returned (.tuple #[.slice none 0 0,.bool false])) w39) (
 Br (!b103_1) (
 runD prog ds w38 λw40=>
 R (.returned (.tuple #[.slice none 0 0,.bool false])) w40) (
 alE (.cells #[.int .i64 4,.int .i64 0,.int .i64 0,.string (⟨#[]⟩:ByteArray),.string (⟨#[]⟩:ByteArray),.slice none 0 0,.slice l103_0.a l103_0.len l103_0.cap] 128) w38 λr114 w41=>
 ∃l115:SV,∃w42,(Builtin.append_ #[70,70] 70 #[.slice l6.a l6.len l6.cap,.slice (some ⟨r114,0,none⟩) 1 1]).run prog w41=.ok (.slice l115.a l115.len l115.cap) w42/\
 J1 l115 w42))) (
 Calls prog 135 #[.pointer p0,.string (⟨#[93]⟩:ByteArray)] w37 λe w43=>
 ∃b118:Bool,e=.returned (.bool b118)/\
 Br b118 (
 runD prog ds w43 λw44=>
 R (.returned (.tuple #[.slice l6.a l6.len l6.cap,.bool b1])) w44) (
 F101_1 R J1 p0 b1 l6 ds w43))))))
def F101_3 (R:Rt) (J1:(SV)->World->Prop) (J2:(Unit)->World->Prop) (p0:Option Addr) (b1:Bool) (l6:SV) (ds:Ds) (w:World):Prop:=
 dwE w λw45=>
 ptrE p0 λa46=>
 ∃n16,w45.cell? (a46.add 1)=some (.int .i64 n16)/\
 ptrE p0 λa47=>
 ∃s20,w45.cell? a47=some (.string s20)/\
 Br (decide (n16<(s20.size:Int))) (
 ptrE p0 λa48=>
 ∃s27,w45.cell? a48=some (.string s27)/\
 ptrE p0 λa49=>
 ∃n31,w45.cell? (a49.add 1)=some (.int .i64 n31)/\
 ∃b32:UInt8,0<=n31/\s27[n31.toNat]?=some b32/\
 Br ((b32.toNat:Int) == 32) (
 ptrE p0 λa50=>
 ∃n50,w45.cell? (a50.add 1)=some (.int .i64 n50)/\
 ptrE p0 λa51=>
 st1 (a51.add 1) (.int .i64 (IntKind.i64.wrap (n50+1))) w45 λw52=>
 J2 () w52) (
 ptrE p0 λa53=>
 ∃s38,w45.cell? a53=some (.string s38)/\
 ptrE p0 λa54=>
 ∃n42,w45.cell? (a54.add 1)=some (.int .i64 n42)/\
 ∃b43:UInt8,0<=n42/\s38[n42.toNat]?=some b43/\
 Br ((b43.toNat:Int) == 9) (
 ptrE p0 λa55=>
 ∃n50,w45.cell? (a55.add 1)=some (.int .i64 n50)/\
 ptrE p0 λa56=>
 st1 (a56.add 1) (.int .i64 (IntKind.i64.wrap (n50+1))) w45 λw57=>
 J2 () w57) (
 F101_2 R J1 p0 b1 l6 ds w45))) (
 F101_2 R J1 p0 b1 l6 ds w45)
def F101_4 (R:Rt) (J1:(SV)->World->Prop) (p0:Option Addr) (b1:Bool) (l6:SV) (ds:Ds) (w:World):Prop:=
 loopT (λ(J2:(Unit)->World->Prop) (_:Unit) (w:World)=>F101_3 R J1 J2 p0 b1 l6 ds w) () w
def F101_7(R:Rt)(p0:Option Addr)(b1:Bool)(l6:SV)(ds:Ds)(w:World):Prop:=
 loopT (λ(J1:(SV)->World->Prop) (s:SV) (w:World)=>F101_4 R J1 p0 b1 s ds w) l6 w
def F101_9(R:Rt)(p0:Option Addr)(b1:Bool)(ds:Ds)(w:World):Prop:=
 F101_7 R p0 b1 ⟨none,0,0⟩ ds w
theorem F101_p:Pl prog f101 [pS 0,bS 1] F101_9:=λR=>
  pc 2 (rest [pS 0,bS 1,lS 6] (F101_7 R) (bk 0 rnil (lp [lS 6] [pS 0,bS 1,lS 6] (F101_4 R) rnil λJ1=>bk 1 rnil (bk 2 (rest [pS 0,bS 1,lS 6] (F101_2 R J1) (pc 1 (rest [pS 0,bS 1,lS 6] (F101_1 R J1) lf))) (lp [] [pS 0,bS 1,lS 6] (F101_3 R J1) rnil λJ2=>lf)))))
theorem F101_calls (p0:Option Addr) (b1:Bool) (w:World) (R:Rt) (h:F101_9 R p0 b1 [] w):Calls prog 101 #[.pointer p0,.bool b1] w R:=
  plC F101_p func101 h
def F135_1(R:Rt)(p0:Option Addr)(s1:ByteArray)(ds:Ds)(w:World):Prop:=
 dwE w λw1=>
 ptrE p0 λa2=>
 ∃s8,w1.cell? a2=some (.string s8)/\
 ptrE p0 λa3=>
 ∃n12,w1.cell? (a3.add 1)=some (.int .i64 n12)/\
 s8.size<=s8.size/\0<=n12/\n12.toNat<=s8.size/\
 Calls prog 41 #[.string (s8.extract n12.toNat s8.size),.string s1] w1 λe w4=>
 ∃b15:Bool,e=.returned (.bool b15)/\
 Br (!b15) (
 runD prog ds w4 λw5=>
 R (.returned (.bool false)) w5) (
 ptrE p0 λa6=>
 ∃n20,w4.cell? (a6.add 1)=some (.int .i64 n20)/\
 ptrE p0 λa7=>
 st1 (a7.add 1) (.int .i64 (IntKind.i64.wrap (n20+(s1.size:Int)))) w4 λw8=>
 runD prog ds w8 λw9=>
 R (.returned (.bool true)) w9)
theorem F135_p:Pl prog f135 [pS 0,sS 1] F135_1:=λR=>
  lf
theorem F135_calls (p0:Option Addr) (s1:ByteArray) (w:World) (R:Rt) (h:F135_1 R p0 s1 [] w):Calls prog 135 #[.pointer p0,.string s1] w R:=
  plC F135_p func135 h
def F136_1(R:Rt)(p0:Option Addr)(ds:Ds)(w:World):Prop:=
 alE (.cells #[.int .i64 0,.int .i64 0,.int .i64 0,.string (⟨#[]⟩:ByteArray),.string (⟨#[]⟩:ByteArray),.slice none 0 0,.slice none 0 0] 128) w λr2 w1=>
 ptrE p0 λa2=>
 ∃n10,w1.cell? (a2.add 1)=some (.int .i64 n10)/\
 Calls prog 158 #[.pointer p0] w1 λe w3=>
 ∃n13_0_0:Int,∃n13_0_1:Int,∃n13_0_2:Int,∃s13_0_3:ByteArray,∃s13_0_4:ByteArray,∃l13_0_5:SV,∃l13_0_6:SV,∃b13_1:Bool,e=.returned (.tuple #[.agg #[.int .i64 n13_0_0,.int .i64 n13_0_1,.int .i64 n13_0_2,.string s13_0_3,.string s13_0_4,.slice l13_0_5.a l13_0_5.len l13_0_5.cap,.slice l13_0_6.a l13_0_6.len l13_0_6.cap],.bool b13_1])/\
 alE (.cells #[.int .i64 0,.int .i64 0,.int .i64 0,.string (⟨#[]⟩:ByteArray),.string (⟨#[]⟩:ByteArray),.slice none 0 0,.slice none 0 0] 128) w3 λr5 w4=>
 stA prog 128 (⟨r5,0,none⟩:Addr) #[.int .i64 n13_0_0,.int .i64 n13_0_1,.int .i64 n13_0_2,.string s13_0_3,.string s13_0_4,.slice l13_0_5.a l13_0_5.len l13_0_5.cap,.slice l13_0_6.a l13_0_6.len l13_0_6.cap] w4 λw5=>
 Br (!b13_1) (
 ptrE p0 λa6=>
 st1 (a6.add 1) (.int .i64 n10) w5 λw7=>
 stA prog 128 (⟨r2,0,none⟩:Addr) #[.int .i64 0,.int .i64 0,.int .i64 0,.string (⟨#[]⟩:ByteArray),.string (⟨#[]⟩:ByteArray),.slice none 0 0,.slice none 0 0] w7 λw8=>
 runD prog ds w8 λw9=>
 ∃nR0_0,w9.cell? ((⟨r2,0,none⟩:Addr).add 0)=some (.int .i64 nR0_0)/\
 ∃nR0_1,w9.cell? ((⟨r2,0,none⟩:Addr).add 1)=some (.int .i64 nR0_1)/\
 ∃nR0_2,w9.cell? ((⟨r2,0,none⟩:Addr).add 2)=some (.int .i64 nR0_2)/\
 ∃sR0_3,w9.cell? ((⟨r2,0,none⟩:Addr).add 3)=some (.string sR0_3)/\
 ∃sR0_4,w9.cell? ((⟨r2,0,none⟩:Addr).add 4)=some (.string sR0_4)/\
 ∃lR0_5:SV,w9.cell? ((⟨r2,0,none⟩:Addr).add 5)=some (.slice lR0_5.a lR0_5.len lR0_5.cap)/\
 ∃lR0_6:SV,w9.cell? ((⟨r2,0,none⟩:Addr).add 6)=some (.slice lR0_6.a lR0_6.len lR0_6.cap)/\
 R (.returned (.tuple #[.agg #[.int .i64 nR0_0,.int .i64 nR0_1,.int .i64 nR0_2,.string sR0_3,.string sR0_4,.slice lR0_5.a lR0_5.len lR0_5.cap,.slice lR0_6.a lR0_6.len lR0_6.cap],.bool false])) w9) (
 ∃s20,w5.cell? ((⟨r5,0,none⟩:Addr).add 4)=some (.string s20)/\
 Calls prog 46 #[.string s20] w5 λe w10=>
 ∃b21:Bool,e=.returned (.bool b21)/\
 Br (!b21) (
 ptrE p0 λa11=>
 st1 (a11.add 1) (.int .i64 n10) w10 λw12=>
 stA prog 128 (⟨r2,0,none⟩:Addr) #[.int .i64 0,.int .i64 0,.int .i64 0,.string (⟨#[]⟩:ByteArray),.string (⟨#[]⟩:ByteArray),.slice none 0 0,.slice none 0 0] w12 λw13=>
 runD prog ds w13 λw14=>
 ∃nR0_0,w14.cell? ((⟨r2,0,none⟩:Addr).add 0)=some (.int .i64 nR0_0)/\
 ∃nR0_1,w14.cell? ((⟨r2,0,none⟩:Addr).add 1)=some (.int .i64 nR0_1)/\
 ∃nR0_2,w14.cell? ((⟨r2,0,none⟩:Addr).add 2)=some (.int .i64 nR0_2)/\
 ∃sR0_3,w14.cell? ((⟨r2,0,none⟩:Addr).add 3)=some (.string sR0_3)/\
 ∃sR0_4,w14.cell? ((⟨r2,0,none⟩:Addr).add 4)=some (.string sR0_4)/\
 ∃lR0_5:SV,w14.cell? ((⟨r2,0,none⟩:Addr).add 5)=some (.slice lR0_5.a lR0_5.len lR0_5.cap)/\
 ∃lR0_6:SV,w14.cell? ((⟨r2,0,none⟩:Addr).add 6)=some (.slice lR0_6.a lR0_6.len lR0_6.cap)/\
 R (.returned (.tuple #[.agg #[.int .i64 nR0_0,.int .i64 nR0_1,.int .i64 nR0_2,.string sR0_3,.string sR0_4,.slice lR0_5.a lR0_5.len lR0_5.cap,.slice lR0_6.a lR0_6.len lR0_6.cap],.bool false])) w14) (
 ∃n29_0,w10.cell? ((⟨r5,0,none⟩:Addr).add 0)=some (.int .i64 n29_0)/\
 ∃n29_1,w10.cell? ((⟨r5,0,none⟩:Addr).add 1)=some (.int .i64 n29_1)/\
 ∃n29_2,w10.cell? ((⟨r5,0,none⟩:Addr).add 2)=some (.int .i64 n29_2)/\
 ∃s29_3,w10.cell? ((⟨r5,0,none⟩:Addr).add 3)=some (.string s29_3)/\
 ∃s29_4,w10.cell? ((⟨r5,0,none⟩:Addr).add 4)=some (.string s29_4)/\
 ∃l29_5:SV,w10.cell? ((⟨r5,0,none⟩:Addr).add 5)=some (.slice l29_5.a l29_5.len l29_5.cap)/\
 ∃l29_6:SV,w10.cell? ((⟨r5,0,none⟩:Addr).add 6)=some (.slice l29_6.a l29_6.len l29_6.cap)/\
 stA prog 128 (⟨r2,0,none⟩:Addr) #[.int .i64 n29_0,.int .i64 n29_1,.int .i64 n29_2,.string s29_3,.string s29_4,.slice l29_5.a l29_5.len l29_5.cap,.slice l29_6.a l29_6.len l29_6.cap] w10 λw15=>
 runD prog ds w15 λw16=>
 ∃nR0_0,w16.cell? ((⟨r2,0,none⟩:Addr).add 0)=some (.int .i64 nR0_0)/\
 ∃nR0_1,w16.cell? ((⟨r2,0,none⟩:Addr).add 1)=some (.int .i64 nR0_1)/\
 ∃nR0_2,w16.cell? ((⟨r2,0,none⟩:Addr).add 2)=some (.int .i64 nR0_2)/\
 ∃sR0_3,w16.cell? ((⟨r2,0,none⟩:Addr).add 3)=some (.string sR0_3)/\
 ∃sR0_4,w16.cell? ((⟨r2,0,none⟩:Addr).add 4)=some (.string sR0_4)/\
 ∃lR0_5:SV,w16.cell? ((⟨r2,0,none⟩:Addr).add 5)=some (.slice lR0_5.a lR0_5.len lR0_5.cap)/\
 ∃lR0_6:SV,w16.cell? ((⟨r2,0,none⟩:Addr).add 6)=some (.slice lR0_6.a lR0_6.len lR0_6.cap)/\
 R (.returned (.tuple #[.agg #[.int .i64 nR0_0,.int .i64 nR0_1,.int .i64 nR0_2,.string sR0_3,.string sR0_4,.slice lR0_5.a lR0_5.len lR0_5.cap,.slice lR0_6.a lR0_6.len lR0_6.cap],.bool true])) w16))
theorem F136_p:Pl prog f136 [pS 0] F136_1:=λR=>
  lf
theorem F136_calls (p0:Option Addr) (w:World) (R:Rt) (h:F136_1 R p0 [] w):Calls prog 136 #[.pointer p0] w R:=
  plC F136_p func136 h
def F158_1(R:Rt)(p0 p2:Option Addr)(s4:ByteArray)(p5:Option Addr)(ds:Ds)(w:World):Prop:=
 dwE w λw1=>
 ∃S1:World->Prop,S1 w1/\
 ptrE p5 λa2=>
 ∃n67_0,(∀w',S1 w'->w'.cell? (a2.add 0)=some (.int .i64 n67_0))/\
 ∃n67_1,(∀w',S1 w'->w'.cell? (a2.add 1)=some (.int .i64 n67_1))/\
 ∃n67_2,(∀w',S1 w'->w'.cell? (a2.add 2)=some (.int .i64 n67_2))/\
 ∃s67_3,(∀w',S1 w'->w'.cell? (a2.add 3)=some (.string s67_3))/\
 ∃s67_4,(∀w',S1 w'->w'.cell? (a2.add 4)=some (.string s67_4))/\
 ∃l67_5:SV,(∀w',S1 w'->w'.cell? (a2.add 5)=some (.slice l67_5.a l67_5.len l67_5.cap))/\
 ∃l67_6:SV,(∀w',S1 w'->w'.cell? (a2.add 6)=some (.slice l67_6.a l67_6.len l67_6.cap))/\
 Calls prog 135 #[.pointer p0,.string s4] w1 λe w3=>
 ∃b70:Bool,e=.returned (.bool b70)/\
 S1 w3/\
 ptrE p2 λa4=>
 stA prog 128 a4 #[.int .i64 n67_0,.int .i64 n67_1,.int .i64 n67_2,.string s67_3,.string s67_4,.slice l67_5.a l67_5.len l67_5.cap,.slice l67_6.a l67_6.len l67_6.cap] w3 λw5=>
 runD prog ds w5 λw6=>
 ptrE p2 λa7=>
 ∃nR0_0,w6.cell? (a7.add 0)=some (.int .i64 nR0_0)/\
 ∃nR0_1,w6.cell? (a7.add 1)=some (.int .i64 nR0_1)/\
 ∃nR0_2,w6.cell? (a7.add 2)=some (.int .i64 nR0_2)/\
 ∃sR0_3,w6.cell? (a7.add 3)=some (.string sR0_3)/\
 ∃sR0_4,w6.cell? (a7.add 4)=some (.string sR0_4)/\
 ∃lR0_5:SV,w6.cell? (a7.add 5)=some (.slice lR0_5.a lR0_5.len lR0_5.cap)/\
 ∃lR0_6:SV,w6.cell? (a7.add 6)=some (.slice lR0_6.a lR0_6.len lR0_6.cap)/\
 R (.returned (.tuple #[.agg #[.int .i64 nR0_0,.int .i64 nR0_1,.int .i64 nR0_2,.string sR0_3,.string sR0_4,.slice lR0_5.a lR0_5.len lR0_5.cap,.slice lR0_6.a lR0_6.len lR0_6.cap],.bool b70])) w6
def F158_2(R:Rt)(p0 p2:Option Addr)(s4:ByteArray)(p5:Option Addr)(ds:Ds)(w:World):Prop:=
 F158_1 R p0 p2 s4 p5 ds w
def F158_3(R:Rt)(p0 p2:Option Addr)(s4:ByteArray)(p5:Option Addr)(ds:Ds)(w:World):Prop:=
 ptrE p5 λa8=>
 st1 a8 (.int .i64 2) w λw9=>
 F158_1 R p0 p2 s4 p5 ds w9
def F158_4(R:Rt)(p0 p2:Option Addr)(s4:ByteArray)(p5:Option Addr)(ds:Ds)(w:World):Prop:=
 ptrE p5 λa10=>
 ∃l64:SV,w.cell? (a10.add 5)=some (.slice l64.a l64.len l64.cap)/\
 Calls prog 180 #[.slice l64.a l64.len l64.cap,.func (.func 181) #[] #[]] w λe w11=>
 ∃b65:Bool,e=.returned (.bool b65)/\
 Br b65 (
 ptrE p5 λa12=>
 ∃n66_0,w11.cell? (a12.add 0)=some (.int .i64 n66_0)/\
 ∃n66_1,w11.cell? (a12.add 1)=some (.int .i64 n66_1)/\
 ∃n66_2,w11.cell? (a12.add 2)=some (.int .i64 n66_2)/\
 ∃s66_3,w11.cell? (a12.add 3)=some (.string s66_3)/\
 ∃s66_4,w11.cell? (a12.add 4)=some (.string s66_4)/\
 ∃l66_5:SV,w11.cell? (a12.add 5)=some (.slice l66_5.a l66_5.len l66_5.cap)/\
 ∃l66_6:SV,w11.cell? (a12.add 6)=some (.slice l66_6.a l66_6.len l66_6.cap)/\
 ptrE p2 λa13=>
 stA prog 128 a13 #[.int .i64 n66_0,.int .i64 n66_1,.int .i64 n66_2,.string s66_3,.string s66_4,.slice l66_5.a l66_5.len l66_5.cap,.slice l66_6.a l66_6.len l66_6.cap] w11 λw14=>
 runD prog ds w14 λw15=>
 ptrE p2 λa16=>
 ∃nR0_0,w15.cell? (a16.add 0)=some (.int .i64 nR0_0)/\
 ∃nR0_1,w15.cell? (a16.add 1)=some (.int .i64 nR0_1)/\
 ∃nR0_2,w15.cell? (a16.add 2)=some (.int .i64 nR0_2)/\
 ∃sR0_3,w15.cell? (a16.add 3)=some (.string sR0_3)/\
 ∃sR0_4,w15.cell? (a16.add 4)=some (.string sR0_4)/\
 ∃lR0_5:SV,w15.cell? (a16.add 5)=some (.slice lR0_5.a lR0_5.len lR0_5.cap)/\
 ∃lR0_6:SV,w15.cell? (a16.add 6)=some (.slice lR0_6.a lR0_6.len lR0_6.cap)/\
 R (.returned (.tuple #[.agg #[.int .i64 nR0_0,.int .i64 nR0_1,.int .i64 nR0_2,.string sR0_3,.string sR0_4,.slice lR0_5.a lR0_5.len lR0_5.cap,.slice lR0_6.a lR0_6.len lR0_6.cap],.bool false])) w15) (
 F158_1 R p0 p2 s4 p5 ds w11)
def F158_5 (R:Rt) (J1:(Unit)->World->Prop) (p0 p2:Option Addr) (s4:ByteArray) (p5:Option Addr) (ds:Ds) (w:World):Prop:=
 Calls prog 135 #[.pointer p0,.string (⟨#[44]⟩:ByteArray)] w λe w17=>
 ∃b55:Bool,e=.returned (.bool b55)/\
 Br b55 (
 dwE w17 λw18=>
 ∃S2:World->Prop,S2 w18/\
 ptrE p5 λa19=>
 ∃l57:SV,(∀w',S2 w'->w'.cell? (a19.add 5)=some (.slice l57.a l57.len l57.cap))/\
 Calls prog 43 #[.pointer p0] w18 λe w20=>
 ∃s59:ByteArray,e=.returned (.string s59)/\
 S2 w20/\
 alE (.cells #[.string s59] 9) w20 λr60 w21=>
 S2 w21/\
 ∃l61:SV,∃w22,(Builtin.append_ #[33,33] 33 #[.slice l57.a l57.len l57.cap,.slice (some ⟨r60,0,none⟩) 1 1]).run prog w21=.ok (.slice l61.a l61.len l61.cap) w22/\
 ptrE p5 λa23=>
 st1 (a23.add 5) (.slice l61.a l61.len l61.cap) w22 λw24=>
 J1 () w24) (
 F158_4 R p0 p2 s4 p5 ds w17)
def F158_6(R:Rt)(p0 p2:Option Addr)(s4:ByteArray)(p5:Option Addr)(ds:Ds)(w:World):Prop:=
 loopT (λ(J1:(Unit)->World->Prop) (_:Unit) (w:World)=>F158_5 R J1 p0 p2 s4 p5 ds w) () w
def F158_8(R:Rt)(p0 p2:Option Addr)(s4:ByteArray)(p5:Option Addr)(ds:Ds)(w:World):Prop:=
 ptrE p5 λa25=>
 st1 a25 (.int .i64 3) w λw26=>
 dwE w26 λw27=>
 ∃S3:World->Prop,S3 w27/\
 ptrE p5 λa28=>
 ∃l48:SV,(∀w',S3 w'->w'.cell? (a28.add 5)=some (.slice l48.a l48.len l48.cap))/\
 Calls prog 43 #[.pointer p0] w27 λe w29=>
 ∃s50:ByteArray,e=.returned (.string s50)/\
 S3 w29/\
 alE (.cells #[.string s50] 9) w29 λr51 w30=>
 S3 w30/\
 ∃l52:SV,∃w31,(Builtin.append_ #[33,33] 33 #[.slice l48.a l48.len l48.cap,.slice (some ⟨r51,0,none⟩) 1 1]).run prog w30=.ok (.slice l52.a l52.len l52.cap) w31/\
 ptrE p5 λa32=>
 st1 (a32.add 5) (.slice l52.a l52.len l52.cap) w31 λw33=>
 F158_6 R p0 p2 s4 p5 ds w33
def F158_9(R:Rt)(p0 p2:Option Addr)(s4:ByteArray)(p5:Option Addr)(ds:Ds)(w:World):Prop:=
 F158_1 R p0 p2 s4 p5 ds w
def F158_10(R:Rt)(p0 p2:Option Addr)(s4:ByteArray)(p5:Option Addr)(b43:Bool)(ds:Ds)(w:World):Prop:=
 Br b43 (
 F158_8 R p0 p2 s4 p5 ds w) (
 F158_9 R p0 p2 s4 p5 ds w)
def F158_11(R:Rt)(p0 p2:Option Addr)(s4:ByteArray)(p5:Option Addr)(ds:Ds)(w:World):Prop:=
 Calls prog 135 #[.pointer p0,.string (⟨#[58]⟩:ByteArray)] w λe w34=>
 ∃b45:Bool,e=.returned (.bool b45)/\
 F158_10 R p0 p2 s4 p5 b45 ds w34
def F158_12(R:Rt)(p0 p2:Option Addr)(s4:ByteArray)(p5:Option Addr)(b39:Bool)(ds:Ds)(w:World):Prop:=
 Br b39 (
 F158_3 R p0 p2 s4 p5 ds w) (
 F158_11 R p0 p2 s4 p5 ds w)
def F158_13(R:Rt)(p0 p2:Option Addr)(s4:ByteArray)(p5:Option Addr)(ds:Ds)(w:World):Prop:=
 Calls prog 135 #[.pointer p0,.string (⟨#[44,46,46,46]⟩:ByteArray)] w λe w35=>
 ∃b41:Bool,e=.returned (.bool b41)/\
 F158_12 R p0 p2 s4 p5 b41 ds w35
def F158_14(R:Rt)(p0 p2:Option Addr)(s4:ByteArray)(p5:Option Addr)(b34:Bool)(ds:Ds)(w:World):Prop:=
 Br b34 (
 F158_2 R p0 p2 s4 p5 ds w) (
 F158_13 R p0 p2 s4 p5 ds w)
def F158_15(R:Rt)(p0 p2:Option Addr)(s4:ByteArray)(p5:Option Addr)(ds:Ds)(w:World):Prop:=
 ptrE p0 λa36=>
 ∃b38,w.cell? (a36.add 2)=some (.bool b38)/\
 F158_14 R p0 p2 s4 p5 b38 ds w
def F158_17(R:Rt)(p0 p2:Option Addr)(s4:ByteArray)(p5:Option Addr)(ds:Ds)(w:World):Prop:=
 Calls prog 43 #[.pointer p0] w λe w37=>
 ∃s32:ByteArray,e=.returned (.string s32)/\
 ptrE p5 λa38=>
 st1 (a38.add 4) (.string s32) w37 λw39=>
 F158_15 R p0 p2 s4 p5 ds w39
def F158_18(R:Rt)(p0:Option Addr)(ds:Ds)(w:World):Prop:=
 alE (.cells #[.int .i64 0,.int .i64 0,.int .i64 0,.string (⟨#[]⟩:ByteArray),.string (⟨#[]⟩:ByteArray),.slice none 0 0,.slice none 0 0] 128) w λr2 w40=>
 Calls prog 135 #[.pointer p0,.string (⟨#[60]⟩:ByteArray)] w40 λe w41=>
 ∃b7:Bool,e=.returned (.bool b7)/\
 Br (!b7) (
 stA prog 128 (⟨r2,0,none⟩:Addr) #[.int .i64 0,.int .i64 0,.int .i64 0,.string (⟨#[]⟩:ByteArray),.string (⟨#[]⟩:ByteArray),.slice none 0 0,.slice none 0 0] w41 λw42=>
 runD prog ds w42 λw43=>
 ∃nR0_0,w43.cell? ((⟨r2,0,none⟩:Addr).add 0)=some (.int .i64 nR0_0)/\
 ∃nR0_1,w43.cell? ((⟨r2,0,none⟩:Addr).add 1)=some (.int .i64 nR0_1)/\
 ∃nR0_2,w43.cell? ((⟨r2,0,none⟩:Addr).add 2)=some (.int .i64 nR0_2)/\
 ∃sR0_3,w43.cell? ((⟨r2,0,none⟩:Addr).add 3)=some (.string sR0_3)/\
 ∃sR0_4,w43.cell? ((⟨r2,0,none⟩:Addr).add 4)=some (.string sR0_4)/\
 ∃lR0_5:SV,w43.cell? ((⟨r2,0,none⟩:Addr).add 5)=some (.slice lR0_5.a lR0_5.len lR0_5.cap)/\
 ∃lR0_6:SV,w43.cell? ((⟨r2,0,none⟩:Addr).add 6)=some (.slice lR0_6.a lR0_6.len lR0_6.cap)/\
 R (.returned (.tuple #[.agg #[.int .i64 nR0_0,.int .i64 nR0_1,.int .i64 nR0_2,.string sR0_3,.string sR0_4,.slice lR0_5.a lR0_5.len lR0_5.cap,.slice lR0_6.a lR0_6.len lR0_6.cap],.bool false])) w43) (
 alE (.cells #[.int .i64 0,.int .i64 0,.int .i64 0,.string (⟨#[]⟩:ByteArray),.string (⟨#[]⟩:ByteArray),.slice none 0 0,.slice none 0 0] 128) w41 λr5 w44=>
 stA prog 128 (⟨r5,0,none⟩:Addr) #[.int .i64 1,.int .i64 0,.int .i64 0,.string (⟨#[]⟩:ByteArray),.string (⟨#[]⟩:ByteArray),.slice none 0 0,.slice none 0 0] w44 λw45=>
 ptrE p0 λa46=>
 ∃b15,w45.cell? (a46.add 2)=some (.bool b15)/\
 Br b15 (
 Calls prog 135 #[.pointer p0,.string (⟨#[34]⟩:ByteArray)] w45 λe w47=>
 ∃b18:Bool,e=.returned (.bool b18)/\
 Br b18 (
 st1 (⟨r5,0,none⟩:Addr) (.int .i64 5) w47 λw48=>
 F158_17 R p0 (some (⟨r2,0,none⟩:Addr)) (⟨#[34,62]⟩:ByteArray) (some (⟨r5,0,none⟩:Addr)) ds w48) (
 ptrE p0 λa49=>
 ∃b25,w47.cell? (a49.add 2)=some (.bool b25)/\
 Br b25 (
 Calls prog 135 #[.pointer p0,.string (⟨#[46]⟩:ByteArray)] w47 λe w50=>
 ∃b28:Bool,e=.returned (.bool b28)/\
 Br b28 (
 st1 (⟨r5,0,none⟩:Addr) (.int .i64 6) w50 λw51=>
 F158_17 R p0 (some (⟨r2,0,none⟩:Addr)) (⟨#[46,62]⟩:ByteArray) (some (⟨r5,0,none⟩:Addr)) ds w51) (
 F158_17 R p0 (some (⟨r2,0,none⟩:Addr)) (⟨#[62]⟩:ByteArray) (some (⟨r5,0,none⟩:Addr)) ds w50)) (
 F158_17 R p0 (some (⟨r2,0,none⟩:Addr)) (⟨#[62]⟩:ByteArray) (some (⟨r5,0,none⟩:Addr)) ds w47))) (
 ptrE p0 λa52=>
 ∃b25,w45.cell? (a52.add 2)=some (.bool b25)/\
 Br b25 (
 Calls prog 135 #[.pointer p0,.string (⟨#[46]⟩:ByteArray)] w45 λe w53=>
 ∃b28:Bool,e=.returned (.bool b28)/\
 Br b28 (
 st1 (⟨r5,0,none⟩:Addr) (.int .i64 6) w53 λw54=>
 F158_17 R p0 (some (⟨r2,0,none⟩:Addr)) (⟨#[46,62]⟩:ByteArray) (some (⟨r5,0,none⟩:Addr)) ds w54) (
 F158_17 R p0 (some (⟨r2,0,none⟩:Addr)) (⟨#[62]⟩:ByteArray) (some (⟨r5,0,none⟩:Addr)) ds w53)) (
 F158_17 R p0 (some (⟨r2,0,none⟩:Addr)) (⟨#[62]⟩:ByteArray) (some (⟨r5,0,none⟩:Addr)) ds w45)))
theorem F158_p:Pl prog f158 [pS 0] F158_18:=λR=>
  pc 6 (rest [pS 0,pS 2,sS 4,pS 5] (F158_17 R) (pc 1 (rest [pS 0,pS 2,sS 4,pS 5] (F158_15 R) (bk 1 (rest [pS 0,pS 2,sS 4,pS 5] (F158_1 R) lf) (pc 1 (rest [pS 0,pS 2,sS 4,pS 5,bS 34] (F158_14 R) (cd 34 [pS 0,pS 2,sS 4,pS 5] (F158_2 R) [pS 0,pS 2,sS 4,pS 5] (F158_13 R) rnil lf (pc 1 (rest [pS 0,pS 2,sS 4,pS 5,bS 39] (F158_12 R) (cd 39 [pS 0,pS 2,sS 4,pS 5] (F158_3 R) [pS 0,pS 2,sS 4,pS 5] (F158_11 R) rnil lf (pc 1 (rest [pS 0,pS 2,sS 4,pS 5,bS 43] (F158_10 R) (cd 43 [pS 0,pS 2,sS 4,pS 5] (F158_8 R) [pS 0,pS 2,sS 4,pS 5] (F158_9 R) rnil (pc 2 (rest [pS 0,pS 2,sS 4,pS 5] (F158_6 R) (bk 2 (rest [pS 0,pS 2,sS 4,pS 5] (F158_4 R) lf) (lp [] [pS 0,pS 2,sS 4,pS 5] (F158_5 R) rnil λJ1=>lf)))) lf)))))))))))))
theorem F158_calls (p0:Option Addr) (w:World) (R:Rt) (h:F158_18 R p0 [] w):Calls prog 158 #[.pointer p0] w R:=
  plC F158_p func158 h
def F137_1(R:Rt)(p2:Option Addr)(ds:Ds)(w:World):Prop:=
 ptrE p2 λa1=>
 stA prog 30 a1 #[.int .i64 0,.int .i64 0,.string (⟨#[]⟩:ByteArray)] w λw2=>
 runD prog ds w2 λw3=>
 ptrE p2 λa4=>
 ∃nR0_0,w3.cell? (a4.add 0)=some (.int .i64 nR0_0)/\
 ∃nR0_1,w3.cell? (a4.add 1)=some (.int .i64 nR0_1)/\
 ∃sR0_2,w3.cell? (a4.add 2)=some (.string sR0_2)/\
 R (.returned (.tuple #[.agg #[.int .i64 nR0_0,.int .i64 nR0_1,.string sR0_2],.bool false])) w3
def F137_2 (R:Rt) (J1:(Int)->World->Prop) (p0 p2:Option Addr) (n4:Int) (ds:Ds) (w:World):Prop:=
 ptrE p0 λa5=>
 ∃n18,w.cell? (a5.add 1)=some (.int .i64 n18)/\
 Br (decide (n4 > n18)) (
 dwE w λw6=>
 ptrE p0 λa7=>
 ∃s26,w6.cell? a7=some (.string s26)/\
 ptrE p0 λa8=>
 ∃n30,w6.cell? (a8.add 1)=some (.int .i64 n30)/\
 0<=n4/\n4.toNat<=s26.size/\0<=n30/\n30.toNat<=n4.toNat/\
 (((⟨#[40,32]⟩:ByteArray).size+(s26.extract n30.toNat n4.toNat).size:Nat):Int)<=9223372036854775807/\
 Calls prog 81 #[.string ((⟨#[40,32]⟩:ByteArray) ++ (s26.extract n30.toNat n4.toNat))] w6 λe w9=>
 ∃l34_0:SV,∃n34_1:Int,∃n34_2:Int,e=.returned (.tuple #[.slice l34_0.a l34_0.len l34_0.cap,.int .i64 n34_1,.int .i64 n34_2])/\
 dwE w9 λw10=>
 ∃S2:World->Prop,S2 w10/\
 Br (n34_2 == 0) (
 Br ((l34_0.len:Int) == 3) (
 ptrE p0 λa11=>
 ∃s49,(∀w',S2 w'->w'.cell? a11=some (.string s49))/\
 ∃b52:UInt8,0<=(IntKind.i64.wrap (n4 - 1))/\s49[(IntKind.i64.wrap (n4 - 1)).toNat]?=some b52/\
 Calls prog 140 #[.string (⟨#[32,9,59]⟩:ByteArray),.int .i32 (IntKind.i32.wrap (b52.toNat:Int))] w10 λe w12=>
 ∃b54:Bool,e=.returned (.bool b54)/\
 S2 w12/\
 Br (!b54) (
 ptrE p0 λa13=>
 ∃s61,(∀w',S2 w'->w'.cell? a13=some (.string s61))/\
 ptrE p0 λa14=>
 ∃n65,(∀w',S2 w'->w'.cell? (a14.add 1)=some (.int .i64 n65))/\
 0<=n4/\n4.toNat<=s61.size/\0<=n65/\n65.toNat<=n4.toNat/\
 Calls prog 36 #[.string (s61.extract n65.toNat n4.toNat),.string (⟨#[38,38]⟩:ByteArray)] w12 λe w15=>
 ∃b68:Bool,e=.returned (.bool b68)/\
 Br (!b68) (
 ∃a16,l34_0.a=some a16/\0<=(1:Int)/\(1:Int)<(l34_0.len:Int)/\
 ∃n73_0,w15.cell? ((a16.add ((1:Int).toNat * 3)).add 0)=some (.int .i64 n73_0)/\
 ∃n73_1,w15.cell? ((a16.add ((1:Int).toNat * 3)).add 1)=some (.int .i64 n73_1)/\
 ∃s73_2,w15.cell? ((a16.add ((1:Int).toNat * 3)).add 2)=some (.string s73_2)/\
 alE (.cells #[.int .i64 0,.int .i64 0,.string (⟨#[]⟩:ByteArray)] 30) w15 λr8 w17=>
 stA prog 30 (⟨r8,0,none⟩:Addr) #[.int .i64 n73_0,.int .i64 n73_1,.string s73_2] w17 λw18=>
 st1 ((⟨r8,0,none⟩:Addr).add 1) (.int .i64 0) w18 λw19=>
 ptrE p0 λa20=>
 st1 (a20.add 1) (.int .i64 n4) w19 λw21=>
 ∃n79_0,w21.cell? ((⟨r8,0,none⟩:Addr).add 0)=some (.int .i64 n79_0)/\
 ∃n79_1,w21.cell? ((⟨r8,0,none⟩:Addr).add 1)=some (.int .i64 n79_1)/\
 ∃s79_2,w21.cell? ((⟨r8,0,none⟩:Addr).add 2)=some (.string s79_2)/\
 ptrE p2 λa22=>
 stA prog 30 a22 #[.int .i64 n79_0,.int .i64 n79_1,.string s79_2] w21 λw23=>
 runD prog ds w23 λw24=>
 ptrE p2 λa25=>
 ∃nR0_0,w24.cell? (a25.add 0)=some (.int .i64 nR0_0)/\
 ∃nR0_1,w24.cell? (a25.add 1)=some (.int .i64 nR0_1)/\
 ∃sR0_2,w24.cell? (a25.add 2)=some (.string sR0_2)/\
 R (.returned (.tuple #[.agg #[.int .i64 nR0_0,.int .i64 nR0_1,.string sR0_2],.bool true])) w24) (
 J1 (IntKind.i64.wrap (n4 - 1)) w15)) (
 J1 (IntKind.i64.wrap (n4 - 1)) w12)) (
 J1 (IntKind.i64.wrap (n4 - 1)) w10)) (
 J1 (IntKind.i64.wrap (n4 - 1)) w10)) (
 F137_1 R p2 ds w)
def F137_3(R:Rt)(p0 p2:Option Addr)(n4:Int)(ds:Ds)(w:World):Prop:=
 loopT (λ(J1:(Int)->World->Prop) (s:Int) (w:World)=>F137_2 R J1 p0 p2 s ds w) n4 w
def F137_5(R:Rt)(p0:Option Addr)(ds:Ds)(w:World):Prop:=
 alE (.cells #[.int .i64 0,.int .i64 0,.string (⟨#[]⟩:ByteArray)] 30) w λr2 w26=>
 ptrE p0 λa27=>
 ∃s12,w26.cell? a27=some (.string s12)/\
 F137_3 R p0 (some (⟨r2,0,none⟩:Addr)) (s12.size:Int) ds w26
theorem F137_p:Pl prog f137 [pS 0] F137_5:=λR=>
  pc 2 (rest [pS 0,pS 2,iS 4] (F137_3 R) (bk 0 (rest [pS 2] (F137_1 R) lf) (lp [iS 4] [pS 0,pS 2,iS 4] (F137_2 R) rnil λJ1=>lf)))
theorem F137_calls (p0:Option Addr) (w:World) (R:Rt) (h:F137_5 R p0 [] w):Calls prog 137 #[.pointer p0] w R:=
  plC F137_p func137 h
end Go.Proofs.YtjbfehippchniaaGreatDoor

/- Shallow texts of functions, printed by program, each checked by the kernel against the loaded code. No condition. -/
set_option maxRecDepth 100000
set_option linter.unusedVariables false
namespace Go.Proofs.YtjbfehippchniaaGreatDoor
open Go.Sh Tryz
def F87_1(R:Rt)(ds:Ds)(w:World):Prop:=
 runD prog ds w λw1=>
 R (.returned (.tuple #[.slice none 0 0,.bool false,.int .i64 0])) w1
def F87_2 (R:Rt) (J1:(Int)->World->Prop) (l1:SV) (p2:Option Addr) (n18 n19:Int) (ds:Ds) (w:World):Prop:=
 Br (decide (n19<n18)) (
 ptrE p2 λa2=>
 ∃l24:SV,w.cell? (a2.add 1)=some (.slice l24.a l24.len l24.cap)/\
 ptrE p2 λa3=>
 ∃b28,w.cell? a3=some (.bool b28)/\
 Calls prog 124 #[.slice l24.a l24.len l24.cap,.slice l1.a l1.len l1.cap,.int .i64 n19,.bool b28] w λe w4=>
 ∃m29_0:Option Nat,∃n29_1:Int,∃b29_2:Bool,e=.returned (.tuple #[.map m29_0,.int .i64 n29_1,.bool b29_2])/\
 Br (!b29_2) (
 J1 (IntKind.i64.wrap (n19+1)) w4) (
 ptrE p2 λa5=>
 ∃l37:SV,w4.cell? (a5.add 2)=some (.slice l37.a l37.len l37.cap)/\
 Calls prog 125 #[.slice l37.a l37.len l37.cap,.map m29_0] w4 λe w6=>
 ∃l39_0:SV,∃b39_1:Bool,e=.returned (.tuple #[.slice l39_0.a l39_0.len l39_0.cap,.bool b39_1])/\
 Br (!b39_1) (
 runD prog ds w6 λw7=>
 R (.returned (.tuple #[.slice none 0 0,.bool false,.int .i64 2])) w7) (
 dwE w6 λw8=>
 0<=n19/\n19.toNat<=l1.cap/\0<=n19.toNat/\
 l1.len<=l1.cap/\0<=n29_1/\n29_1.toNat<=l1.len/\
 alE (.cells #[.slice (if l1.cap=0 then l1.a else l1.a.map (λx=>x.add (0 * 4))) (n19.toNat - 0) (l1.cap - 0),.slice l39_0.a l39_0.len l39_0.cap,.slice (if l1.cap=n29_1.toNat then l1.a else l1.a.map (λx=>x.add (n29_1.toNat * 4))) (l1.len - n29_1.toNat) (l1.cap - n29_1.toNat)] 84) w8 λr51 w9=>
 Calls prog 85 #[.slice (some ⟨r51,0,none⟩) 3 3] w9 λe w10=>
 ∃l52:SV,e=.returned (.slice l52.a l52.len l52.cap)/\
 runD prog ds w10 λw11=>
 R (.returned (.tuple #[.slice l52.a l52.len l52.cap,.bool true,.int .i64 0])) w11))) (
 F87_1 R ds w)
def F87_3(R:Rt)(l1:SV)(p2:Option Addr)(n18 n19:Int)(ds:Ds)(w:World):Prop:=
 loopT (λ(J1:(Int)->World->Prop) (s:Int) (w:World)=>F87_2 R J1 l1 p2 n18 s ds w) n19 w
def F87_5(R:Rt)(b0_0:Bool)(l0_1 l0_2 l1:SV)(ds:Ds)(w:World):Prop:=
 alE (.cells #[.bool b0_0,.slice l0_1.a l0_1.len l0_1.cap,.slice l0_2.a l0_2.len l0_2.cap] 72) w λr2 w12=>
 ∃b17,w12.cell? (⟨r2,0,none⟩:Addr)=some (.bool b17)/\
 Br b17 (
 F87_3 R l1 (some (⟨r2,0,none⟩:Addr)) 1 0 ds w12) (
 F87_3 R l1 (some (⟨r2,0,none⟩:Addr)) (l1.len:Int) 0 ds w12)
theorem F87_p:Pl prog f87 [aS 0 [.bool,.slice,.slice],lS 1] F87_5:=λR=>
  pc 5 (rest [lS 1,pS 2,iS 18,iS 19] (F87_3 R) (bk 0 (rest [] (F87_1 R) lf) (lp [iS 19] [lS 1,pS 2,iS 18,iS 19] (F87_2 R) rnil λJ1=>lf)))
theorem F87_calls (b0_0:Bool) (l0_1 l0_2 l1:SV) (w:World) (R:Rt) (h:F87_5 R b0_0 l0_1 l0_2 l1 [] w):Calls prog 87 #[.agg #[.bool b0_0,.slice l0_1.a l0_1.len l0_1.cap,.slice l0_2.a l0_2.len l0_2.cap],.slice l1.a l1.len l1.cap] w R:=
  plC F87_p func87 h
def F124_1(R:Rt)(l0 l1:SV)(n2:Int)(b3:Bool)(ds:Ds)(w:World):Prop:=
 alE (.map #[] 0) w λr16 w1=>
 alE (.cells #[.slice l1.a l1.len l1.cap,.int .i64 n2,.bool b3,.map (some r16)] 186) w1 λr18 w2=>
 Calls prog 151 #[.pointer (some (⟨r18,0,none⟩:Addr)),.slice l0.a l0.len l0.cap,.slice none 0 0] w2 λe w3=>
 ∃b21:Bool,e=.returned (.bool b21)/\
 dwE w3 λw4=>
 ∃m25,w4.cell? ((⟨r18,0,none⟩:Addr).add 3)=some (.map m25)/\
 ∃n29,w4.cell? ((⟨r18,0,none⟩:Addr).add 1)=some (.int .i64 n29)/\
 Br b21 (
 Br (!b3) (
 runD prog ds w4 λw5=>
 R (.returned (.tuple #[.map m25,.int .i64 n29,.bool true])) w5) (
 ∃n38,w4.cell? ((⟨r18,0,none⟩:Addr).add 1)=some (.int .i64 n38)/\
 runD prog ds w4 λw6=>
 R (.returned (.tuple #[.map m25,.int .i64 n29,.bool (n38 == (l1.len:Int))])) w6)) (
 runD prog ds w4 λw7=>
 R (.returned (.tuple #[.map m25,.int .i64 n29,.bool false])) w7)
theorem F124_p:Pl prog f124 [lS 0,lS 1,iS 2,bS 3] F124_1:=λR=>
  lf
theorem F124_calls (l0 l1:SV) (n2:Int) (b3:Bool) (w:World) (R:Rt) (h:F124_1 R l0 l1 n2 b3 [] w):Calls prog 124 #[.slice l0.a l0.len l0.cap,.slice l1.a l1.len l1.cap,.int .i64 n2,.bool b3] w R:=
  plC F124_p func124 h
def F151_1(R:Rt)(ds:Ds)(w:World):Prop:=
 runD prog ds w λw1=>
 R (.returned (.bool true)) w1
def F151_2 (R:Rt) (J1:(Int)->World->Prop) (p0:Option Addr) (l1 l2:SV) (n7:Int) (ds:Ds) (w:World):Prop:=
 J1 (IntKind.i64.wrap (n7+1)) w
def F151_3 (R:Rt) (J1:(Int)->World->Prop) (p0:Option Addr) (l1 l2:SV) (n7:Int) (ds:Ds) (w:World):Prop:=
 ∃a2,l1.a=some a2/\0<=n7/\n7<(l1.len:Int)/\
 ∃n41_0,w.cell? ((a2.add (n7.toNat * 7)).add 0)=some (.int .i64 n41_0)/\
 ∃n41_1,w.cell? ((a2.add (n7.toNat * 7)).add 1)=some (.int .i64 n41_1)/\
 ∃n41_2,w.cell? ((a2.add (n7.toNat * 7)).add 2)=some (.int .i64 n41_2)/\
 ∃s41_3,w.cell? ((a2.add (n7.toNat * 7)).add 3)=some (.string s41_3)/\
 ∃s41_4,w.cell? ((a2.add (n7.toNat * 7)).add 4)=some (.string s41_4)/\
 ∃l41_5:SV,w.cell? ((a2.add (n7.toNat * 7)).add 5)=some (.slice l41_5.a l41_5.len l41_5.cap)/\
 ∃l41_6:SV,w.cell? ((a2.add (n7.toNat * 7)).add 6)=some (.slice l41_6.a l41_6.len l41_6.cap)/\
 Calls prog 171 #[.pointer p0,.agg #[.int .i64 n41_0,.int .i64 n41_1,.int .i64 n41_2,.string s41_3,.string s41_4,.slice l41_5.a l41_5.len l41_5.cap,.slice l41_6.a l41_6.len l41_6.cap]] w λe w3=>
 ∃b42:Bool,e=.returned (.bool b42)/\
 Br (!b42) (
 runD prog ds w3 λw4=>
 R (.returned (.bool false)) w4) (
 ptrE p0 λa5=>
 ∃n47,w3.cell? (a5.add 1)=some (.int .i64 n47)/\
 ptrE p0 λa6=>
 st1 (a6.add 1) (.int .i64 (IntKind.i64.wrap (n47+1))) w3 λw7=>
 F151_2 R J1 p0 l1 l2 n7 ds w7)
def F151_4 (R:Rt) (J1:(Int)->World->Prop) (p0:Option Addr) (l1 l2:SV) (n7 n8:Int) (ds:Ds) (w:World):Prop:=
 dwE w λw8=>
 0<=(IntKind.i64.wrap (n7+n8))/\(IntKind.i64.wrap (n7+n8)).toNat<=l1.cap/\0<=n7/\n7.toNat<=(IntKind.i64.wrap (n7+n8)).toNat/\
 l1.len<=l1.cap/\0<=(IntKind.i64.wrap (n7+n8))/\(IntKind.i64.wrap (n7+n8)).toNat<=l1.len/\
 alE (.cells #[.slice (if l1.cap=(IntKind.i64.wrap (n7+n8)).toNat then l1.a else l1.a.map (λx=>x.add ((IntKind.i64.wrap (n7+n8)).toNat * 7))) (l1.len - (IntKind.i64.wrap (n7+n8)).toNat) (l1.cap - (IntKind.i64.wrap (n7+n8)).toNat),.slice l2.a l2.len l2.cap] 70) w8 λr84 w9=>
 Calls prog 173 #[.slice (some ⟨r84,0,none⟩) 2 2] w9 λe w10=>
 ∃l85:SV,e=.returned (.slice l85.a l85.len l85.cap)/\
 Calls prog 172 #[.pointer p0,.slice (if l1.cap=n7.toNat then l1.a else l1.a.map (λx=>x.add (n7.toNat * 7))) ((IntKind.i64.wrap (n7+n8)).toNat - n7.toNat) (l1.cap - n7.toNat),.slice l85.a l85.len l85.cap] w10 λe w11=>
 ∃b86:Bool,e=.returned (.bool b86)/\
 Br (!b86) (
 runD prog ds w11 λw12=>
 R (.returned (.bool false)) w12) (
 F151_2 R J1 p0 l1 l2 (IntKind.i64.wrap (n7+(IntKind.i64.wrap (n8 - 1)))) ds w11)
def F151_5 (R:Rt) (J1:(Int)->World->Prop) (J2:(Int)->World->Prop) (p0:Option Addr) (l1 l2:SV) (n7 n8:Int) (ds:Ds) (w:World):Prop:=
 Br (decide ((IntKind.i64.wrap (n7+n8))<(l1.len:Int))) (
 ∃a13,l1.a=some a13/\0<=(IntKind.i64.wrap (n7+n8))/\(IntKind.i64.wrap (n7+n8))<(l1.len:Int)/\
 ∃n66,w.cell? (a13.add ((IntKind.i64.wrap (n7+n8)).toNat * 7))=some (.int .i64 n66)/\
 Br (n66 == 4) (
 J2 (IntKind.i64.wrap (n8+1)) w) (
 F151_4 R J1 p0 l1 l2 n7 n8 ds w)) (
 F151_4 R J1 p0 l1 l2 n7 n8 ds w)
def F151_6 (R:Rt) (J1:(Int)->World->Prop) (p0:Option Addr) (l1 l2:SV) (n7 n8:Int) (ds:Ds) (w:World):Prop:=
 loopT (λ(J2:(Int)->World->Prop) (s:Int) (w:World)=>F151_5 R J1 J2 p0 l1 l2 n7 s ds w) n8 w
def F151_8 (R:Rt) (J1:(Int)->World->Prop) (p0:Option Addr) (l1 l2:SV) (n7:Int) (ds:Ds) (w:World):Prop:=
 F151_6 R J1 p0 l1 l2 n7 1 ds w
def F151_9 (R:Rt) (J1:(Int)->World->Prop) (p0:Option Addr) (l1 l2:SV) (n7:Int) (ds:Ds) (w:World):Prop:=
 dwE w λw14=>
 ∃S2:World->Prop,S2 w14/\
 ∃a15,l1.a=some a15/\0<=n7/\n7<(l1.len:Int)/\
 ∃n24_0,(∀w',S2 w'->w'.cell? ((a15.add (n7.toNat * 7)).add 0)=some (.int .i64 n24_0))/\
 ∃n24_1,(∀w',S2 w'->w'.cell? ((a15.add (n7.toNat * 7)).add 1)=some (.int .i64 n24_1))/\
 ∃n24_2,(∀w',S2 w'->w'.cell? ((a15.add (n7.toNat * 7)).add 2)=some (.int .i64 n24_2))/\
 ∃s24_3,(∀w',S2 w'->w'.cell? ((a15.add (n7.toNat * 7)).add 3)=some (.string s24_3))/\
 ∃s24_4,(∀w',S2 w'->w'.cell? ((a15.add (n7.toNat * 7)).add 4)=some (.string s24_4))/\
 ∃l24_5:SV,(∀w',S2 w'->w'.cell? ((a15.add (n7.toNat * 7)).add 5)=some (.slice l24_5.a l24_5.len l24_5.cap))/\
 ∃l24_6:SV,(∀w',S2 w'->w'.cell? ((a15.add (n7.toNat * 7)).add 6)=some (.slice l24_6.a l24_6.len l24_6.cap))/\
 l1.len<=l1.cap/\0<=(IntKind.i64.wrap (n7+1))/\(IntKind.i64.wrap (n7+1)).toNat<=l1.len/\
 alE (.cells #[.slice (if l1.cap=(IntKind.i64.wrap (n7+1)).toNat then l1.a else l1.a.map (λx=>x.add ((IntKind.i64.wrap (n7+1)).toNat * 7))) (l1.len - (IntKind.i64.wrap (n7+1)).toNat) (l1.cap - (IntKind.i64.wrap (n7+1)).toNat),.slice l2.a l2.len l2.cap] 70) w14 λr30 w16=>
 S2 w16/\
 Calls prog 173 #[.slice (some ⟨r30,0,none⟩) 2 2] w16 λe w17=>
 ∃l31:SV,e=.returned (.slice l31.a l31.len l31.cap)/\
 S2 w17/\
 Calls prog 175 #[.slice l31.a l31.len l31.cap] w17 λe w18=>
 ∃l32:SV,e=.returned (.slice l32.a l32.len l32.cap)/\
 S2 w18/\
 Calls prog 174 #[.pointer p0,.agg #[.int .i64 n24_0,.int .i64 n24_1,.int .i64 n24_2,.string s24_3,.string s24_4,.slice l24_5.a l24_5.len l24_5.cap,.slice l24_6.a l24_6.len l24_6.cap],.slice l32.a l32.len l32.cap] w18 λe w19=>
 ∃b33:Bool,e=.returned (.bool b33)/\
 Br (!b33) (
 runD prog ds w19 λw20=>
 R (.returned (.bool false)) w20) (
 F151_2 R J1 p0 l1 l2 n7 ds w19)
def F151_10 (R:Rt) (J1:(Int)->World->Prop) (p0:Option Addr) (l1 l2:SV) (n7:Int) (b51:Bool) (ds:Ds) (w:World):Prop:=
 Br b51 (
 F151_8 R J1 p0 l1 l2 n7 ds w) (
 F151_9 R J1 p0 l1 l2 n7 ds w)
def F151_11 (R:Rt) (J1:(Int)->World->Prop) (p0:Option Addr) (l1 l2:SV) (n7 n19:Int) (ds:Ds) (w:World):Prop:=
 F151_10 R J1 p0 l1 l2 n7 (n19 == 4) ds w
def F151_12 (R:Rt) (J1:(Int)->World->Prop) (p0:Option Addr) (l1 l2:SV) (n7 n19:Int) (b35:Bool) (ds:Ds) (w:World):Prop:=
 Br b35 (
 F151_3 R J1 p0 l1 l2 n7 ds w) (
 F151_11 R J1 p0 l1 l2 n7 n19 ds w)
def F151_13 (R:Rt) (J1:(Int)->World->Prop) (p0:Option Addr) (l1 l2:SV) (n7 n19:Int) (ds:Ds) (w:World):Prop:=
 F151_12 R J1 p0 l1 l2 n7 n19 (n19 == 0) ds w
def F151_15 (R:Rt) (J1:(Int)->World->Prop) (p0:Option Addr) (l1 l2:SV) (n7:Int) (ds:Ds) (w:World):Prop:=
 ∃a21,l1.a=some a21/\0<=n7/\n7<(l1.len:Int)/\
 ∃n19,w.cell? (a21.add (n7.toNat * 7))=some (.int .i64 n19)/\
 F151_13 R J1 p0 l1 l2 n7 n19 ds w
def F151_17 (R:Rt) (J1:(Int)->World->Prop) (p0:Option Addr) (l1 l2:SV) (n7:Int) (ds:Ds) (w:World):Prop:=
 Br (decide (n7<(l1.len:Int))) (
 F151_15 R J1 p0 l1 l2 n7 ds w) (
 F151_1 R ds w)
def F151_18(R:Rt)(p0:Option Addr)(l1 l2:SV)(n7:Int)(ds:Ds)(w:World):Prop:=
 loopT (λ(J1:(Int)->World->Prop) (s:Int) (w:World)=>F151_17 R J1 p0 l1 l2 s ds w) n7 w
def F151_20(R:Rt)(p0:Option Addr)(l1 l2:SV)(ds:Ds)(w:World):Prop:=
 F151_18 R p0 l1 l2 0 ds w
theorem F151_p:Pl prog f151 [pS 0,lS 1,lS 2] F151_20:=λR=>
  pc 2 (rest [pS 0,lS 1,lS 2,iS 7] (F151_18 R) (bk 0 (rest [] (F151_1 R) lf) (lp [iS 7] [pS 0,lS 1,lS 2,iS 7] (F151_17 R) rnil λJ1=>pc 2 (rest [pS 0,lS 1,lS 2,iS 7] (F151_15 R J1) (bk 1 (rest [pS 0,lS 1,lS 2,iS 7] (F151_2 R J1) lf) (pc 1 (rest [pS 0,lS 1,lS 2,iS 7,iS 19] (F151_13 R J1) (bk 2 rnil (pc 1 (rest [pS 0,lS 1,lS 2,iS 7,iS 19,bS 35] (F151_12 R J1) (cd 35 [pS 0,lS 1,lS 2,iS 7] (F151_3 R J1) [pS 0,lS 1,lS 2,iS 7,iS 19] (F151_11 R J1) rnil lf (pc 1 (rest [pS 0,lS 1,lS 2,iS 7,bS 51] (F151_10 R J1) (cd 51 [pS 0,lS 1,lS 2,iS 7] (F151_8 R J1) [pS 0,lS 1,lS 2,iS 7] (F151_9 R J1) rnil (pc 1 (rest [pS 0,lS 1,lS 2,iS 7,iS 8] (F151_6 R J1) (bk 3 (rest [pS 0,lS 1,lS 2,iS 7,iS 8] (F151_4 R J1) lf) (lp [iS 8] [pS 0,lS 1,lS 2,iS 7,iS 8] (F151_5 R J1) rnil λJ2=>lf)))) lf))))))))))))))
theorem F151_calls (p0:Option Addr) (l1 l2:SV) (w:World) (R:Rt) (h:F151_20 R p0 l1 l2 [] w):Calls prog 151 #[.pointer p0,.slice l1.a l1.len l1.cap,.slice l2.a l2.len l2.cap] w R:=
  plC F151_p func151 h
def F171_1(R:Rt)(p0:Option Addr)(n1_0 n1_1 n1_2:Int)(s1_3 s1_4:ByteArray)(l1_5 l1_6:SV)(ds:Ds)(w:World):Prop:=
 alE (.cells #[.int .i64 n1_0,.int .i64 n1_1,.int .i64 n1_2,.string s1_3,.string s1_4,.slice l1_5.a l1_5.len l1_5.cap,.slice l1_6.a l1_6.len l1_6.cap] 128) w λr3 w1=>
 dwE w1 λw2=>
 ptrE p0 λa3=>
 ∃n8,w2.cell? (a3.add 1)=some (.int .i64 n8)/\
 ptrE p0 λa4=>
 ∃l12:SV,w2.cell? a4=some (.slice l12.a l12.len l12.cap)/\
 Br (decide (n8<(l12.len:Int))) (
 ptrE p0 λa5=>
 ∃l20:SV,w2.cell? a5=some (.slice l20.a l20.len l20.cap)/\
 ptrE p0 λa6=>
 ∃n24,w2.cell? (a6.add 1)=some (.int .i64 n24)/\
 ∃a7,l20.a=some a7/\0<=n24/\n24<(l20.len:Int)/\
 ∃n26_0,w2.cell? ((a7.add (n24.toNat * 4)).add 0)=some (.int .i64 n26_0)/\
 ∃n26_1,w2.cell? ((a7.add (n24.toNat * 4)).add 1)=some (.int .i64 n26_1)/\
 ∃s26_2,w2.cell? ((a7.add (n24.toNat * 4)).add 2)=some (.string s26_2)/\
 ∃l26_3:SV,w2.cell? ((a7.add (n24.toNat * 4)).add 3)=some (.slice l26_3.a l26_3.len l26_3.cap)/\
 ∃n27_0,w2.cell? ((⟨r3,0,none⟩:Addr).add 0)=some (.int .i64 n27_0)/\
 ∃n27_1,w2.cell? ((⟨r3,0,none⟩:Addr).add 1)=some (.int .i64 n27_1)/\
 ∃n27_2,w2.cell? ((⟨r3,0,none⟩:Addr).add 2)=some (.int .i64 n27_2)/\
 ∃s27_3,w2.cell? ((⟨r3,0,none⟩:Addr).add 3)=some (.string s27_3)/\
 ∃s27_4,w2.cell? ((⟨r3,0,none⟩:Addr).add 4)=some (.string s27_4)/\
 ∃l27_5:SV,w2.cell? ((⟨r3,0,none⟩:Addr).add 5)=some (.slice l27_5.a l27_5.len l27_5.cap)/\
 ∃l27_6:SV,w2.cell? ((⟨r3,0,none⟩:Addr).add 6)=some (.slice l27_6.a l27_6.len l27_6.cap)/\
 Calls prog 193 #[.pointer p0,.agg #[.int .i64 n26_0,.int .i64 n26_1,.string s26_2,.slice l26_3.a l26_3.len l26_3.cap],.agg #[.int .i64 n27_0,.int .i64 n27_1,.int .i64 n27_2,.string s27_3,.string s27_4,.slice l27_5.a l27_5.len l27_5.cap,.slice l27_6.a l27_6.len l27_6.cap]] w2 λe w8=>
 ∃b28:Bool,e=.returned (.bool b28)/\
 runD prog ds w8 λw9=>
 R (.returned (.bool b28)) w9) (
 runD prog ds w2 λw10=>
 R (.returned (.bool false)) w10)
theorem F171_p:Pl prog f171 [pS 0,aS 1 [.int .i64,.int .i64,.int .i64,.str,.str,.slice,.slice]] F171_1:=λR=>
  lf
theorem F171_calls (p0:Option Addr) (n1_0 n1_1 n1_2:Int) (s1_3 s1_4:ByteArray) (l1_5 l1_6:SV) (w:World) (R:Rt) (h:F171_1 R p0 n1_0 n1_1 n1_2 s1_3 s1_4 l1_5 l1_6 [] w):Calls prog 171 #[.pointer p0,.agg #[.int .i64 n1_0,.int .i64 n1_1,.int .i64 n1_2,.string s1_3,.string s1_4,.slice l1_5.a l1_5.len l1_5.cap,.slice l1_6.a l1_6.len l1_6.cap]] w R:=
  plC F171_p func171 h
def F193_1(R:Rt)(p0:Option Addr)(n1_0 n1_1:Int)(s1_2:ByteArray)(l1_3:SV)(n2_0 n2_1 n2_2:Int)(s2_3 s2_4:ByteArray)(l2_5 l2_6:SV)(ds:Ds)(w:World):Prop:=
 alE (.cells #[.int .i64 n1_0,.int .i64 n1_1,.string s1_2,.slice l1_3.a l1_3.len l1_3.cap] 112) w λr4 w1=>
 alE (.cells #[.int .i64 n2_0,.int .i64 n2_1,.int .i64 n2_2,.string s2_3,.string s2_4,.slice l2_5.a l2_5.len l2_5.cap,.slice l2_6.a l2_6.len l2_6.cap] 128) w1 λr5 w2=>
 ∃n11,w2.cell? (⟨r4,0,none⟩:Addr)=some (.int .i64 n11)/\
 ∃n14,w2.cell? ((⟨r5,0,none⟩:Addr).add 1)=some (.int .i64 n14)/\
 Br (n11 != n14) (
 runD prog ds w2 λw3=>
 R (.returned (.bool false)) w3) (
 ∃n18,w2.cell? (⟨r4,0,none⟩:Addr)=some (.int .i64 n18)/\
 Br (n18 == 0) (
 ptrE p0 λa4=>
 ∃b24,w2.cell? (a4.add 2)=some (.bool b24)/\
 Br b24 (
 ∃s29,w2.cell? ((⟨r4,0,none⟩:Addr).add 2)=some (.string s29)/\
 ∃s32,w2.cell? (((⟨r5,0,none⟩:Addr).add 1).add 2)=some (.string s32)/\
 alE (.cells #[.string s32] 9) w2 λr33 w5=>
 Calls prog 42 #[.string s29,.slice (some ⟨r33,0,none⟩) 1 1] w5 λe w6=>
 ∃s34_0:ByteArray,∃b34_1:Bool,e=.returned (.tuple #[.string s34_0,.bool b34_1])/\
 runD prog ds w6 λw7=>
 R (.returned (.bool b34_1)) w7) (
 ∃s40,w2.cell? ((⟨r4,0,none⟩:Addr).add 2)=some (.string s40)/\
 ∃s43,w2.cell? (((⟨r5,0,none⟩:Addr).add 1).add 2)=some (.string s43)/\
 runD prog ds w2 λw8=>
 R (.returned (.bool (s40.toList == s43.toList))) w8)) (
 ∃s40,w2.cell? ((⟨r4,0,none⟩:Addr).add 2)=some (.string s40)/\
 ∃s43,w2.cell? (((⟨r5,0,none⟩:Addr).add 1).add 2)=some (.string s43)/\
 runD prog ds w2 λw9=>
 R (.returned (.bool (s40.toList == s43.toList))) w9))
theorem F193_p:Pl prog f193 [pS 0,aS 1 [.int .i64,.int .i64,.str,.slice],aS 2 [.int .i64,.int .i64,.int .i64,.str,.str,.slice,.slice]] F193_1:=λR=>
  lf
theorem F193_calls (p0:Option Addr) (n1_0 n1_1:Int) (s1_2:ByteArray) (l1_3:SV) (n2_0 n2_1 n2_2:Int) (s2_3 s2_4:ByteArray) (l2_5 l2_6:SV) (w:World) (R:Rt) (h:F193_1 R p0 n1_0 n1_1 s1_2 l1_3 n2_0 n2_1 n2_2 s2_3 s2_4 l2_5 l2_6 [] w):Calls prog 193 #[.pointer p0,.agg #[.int .i64 n1_0,.int .i64 n1_1,.string s1_2,.slice l1_3.a l1_3.len l1_3.cap],.agg #[.int .i64 n2_0,.int .i64 n2_1,.int .i64 n2_2,.string s2_3,.string s2_4,.slice l2_5.a l2_5.len l2_5.cap,.slice l2_6.a l2_6.len l2_6.cap]] w R:=
  plC F193_p func193 h
def F174_1(R:Rt)(p0 p4:Option Addr)(n7:Int)(ds:Ds)(w:World):Prop:=
 dwE w λw1=>
 ∃S1:World->Prop,S1 w1/\
 ptrE p0 λa2=>
 ∃m71,(∀w',S1 w'->w'.cell? (a2.add 3)=some (.map m71))/\
 ptrE p4 λa3=>
 ∃s73,(∀w',S1 w'->w'.cell? (a3.add 4)=some (.string s73))/\
 ptrE p0 λa4=>
 ∃l77:SV,(∀w',S1 w'->w'.cell? a4=some (.slice l77.a l77.len l77.cap))/\
 ptrE p0 λa5=>
 ∃n82,(∀w',S1 w'->w'.cell? (a5.add 1)=some (.int .i64 n82))/\
 0<=n82/\n82.toNat<=l77.cap/\0<=n7/\n7.toNat<=n82.toNat/\
 Calls prog 199 #[.slice (if l77.cap=n7.toNat then l77.a else l77.a.map (λx=>x.add (n7.toNat * 4))) (n82.toNat - n7.toNat) (l77.cap - n7.toNat)] w1 λe w6=>
 ∃l84:SV,e=.returned (.slice l84.a l84.len l84.cap)/\
 S1 w6/\
 doE prog (Instr.mapUpdate 161 (.map m71) (.string s73) (.slice l84.a l84.len l84.cap)) w6 λw7=>
 runD prog ds w7 λw8=>
 R (.returned (.bool true)) w8
def F174_2(R:Rt)(p0:Option Addr)(n1_0 n1_1 n1_2:Int)(s1_3 s1_4:ByteArray)(l1_5 l1_6 l2:SV)(ds:Ds)(w:World):Prop:=
 alE (.cells #[.int .i64 n1_0,.int .i64 n1_1,.int .i64 n1_2,.string s1_3,.string s1_4,.slice l1_5.a l1_5.len l1_5.cap,.slice l1_6.a l1_6.len l1_6.cap] 128) w λr4 w9=>
 ptrE p0 λa10=>
 ∃n11,w9.cell? (a10.add 1)=some (.int .i64 n11)/\
 ∃n13,w9.cell? (⟨r4,0,none⟩:Addr)=some (.int .i64 n13)/\
 Br (n13 == 3) (
 dwE w9 λw11=>
 ptrE p0 λa12=>
 ∃l19:SV,w11.cell? a12=some (.slice l19.a l19.len l19.cap)/\
 Br (n11 == (l19.len:Int)) (
 runD prog ds w11 λw13=>
 R (.returned (.bool false)) w13) (
 ptrE p0 λa14=>
 ∃l26:SV,w11.cell? a14=some (.slice l26.a l26.len l26.cap)/\
 ∃a15,l26.a=some a15/\0<=n11/\n11<(l26.len:Int)/\
 ∃n31,w11.cell? (a15.add (n11.toNat * 4))=some (.int .i64 n31)/\
 Br (n31 != 0) (
 runD prog ds w11 λw16=>
 R (.returned (.bool false)) w16) (
 ∃l36:SV,w11.cell? ((⟨r4,0,none⟩:Addr).add 5)=some (.slice l36.a l36.len l36.cap)/\
 ptrE p0 λa17=>
 ∃l40:SV,w11.cell? a17=some (.slice l40.a l40.len l40.cap)/\
 ∃a18,l40.a=some a18/\0<=n11/\n11<(l40.len:Int)/\
 ∃s45,w11.cell? ((a18.add (n11.toNat * 4)).add 2)=some (.string s45)/\
 Calls prog 76 #[.slice l36.a l36.len l36.cap,.string s45] w11 λe w19=>
 ∃b46:Bool,e=.returned (.bool b46)/\
 Br (!b46) (
 runD prog ds w19 λw20=>
 R (.returned (.bool false)) w20) (
 ptrE p0 λa21=>
 ∃n52,w19.cell? (a21.add 1)=some (.int .i64 n52)/\
 ptrE p0 λa22=>
 st1 (a22.add 1) (.int .i64 (IntKind.i64.wrap (n52+1))) w19 λw23=>
 ptrE p0 λa24=>
 ∃n65,w23.cell? (a24.add 1)=some (.int .i64 n65)/\
 Br (n65 == n11) (
 runD prog ds w23 λw25=>
 R (.returned (.bool false)) w25) (
 F174_1 R p0 (some (⟨r4,0,none⟩:Addr)) n11 ds w23))))) (
 ∃n58,w9.cell? (⟨r4,0,none⟩:Addr)=some (.int .i64 n58)/\
 Calls prog 198 #[.pointer p0,.bool (n58 == 2),.slice l2.a l2.len l2.cap] w9 λe w26=>
 e=.returned (.tuple #[])/\
 ptrE p0 λa27=>
 ∃n65,w26.cell? (a27.add 1)=some (.int .i64 n65)/\
 Br (n65 == n11) (
 runD prog ds w26 λw28=>
 R (.returned (.bool false)) w28) (
 F174_1 R p0 (some (⟨r4,0,none⟩:Addr)) n11 ds w26))
theorem F174_p:Pl prog f174 [pS 0,aS 1 [.int .i64,.int .i64,.int .i64,.str,.str,.slice,.slice],lS 2] F174_2:=λR=>
  pc 6 (rest [pS 0,pS 4,iS 7] (F174_1 R) lf)
theorem F174_calls (p0:Option Addr) (n1_0 n1_1 n1_2:Int) (s1_3 s1_4:ByteArray) (l1_5 l1_6 l2:SV) (w:World) (R:Rt) (h:F174_2 R p0 n1_0 n1_1 n1_2 s1_3 s1_4 l1_5 l1_6 l2 [] w):Calls prog 174 #[.pointer p0,.agg #[.int .i64 n1_0,.int .i64 n1_1,.int .i64 n1_2,.string s1_3,.string s1_4,.slice l1_5.a l1_5.len l1_5.cap,.slice l1_6.a l1_6.len l1_6.cap],.slice l2.a l2.len l2.cap] w R:=
  plC F174_p func174 h
def F175_1(R:Rt)(l3:SV)(ds:Ds)(w:World):Prop:=
 runD prog ds w λw1=>
 R (.returned (.slice l3.a l3.len l3.cap)) w1
def F175_2 (R:Rt) (J1:(SV × Int)->World->Prop) (l3 l6:SV) (n7 n8:Int) (ds:Ds) (w:World):Prop:=
 Br (decide (n8<n7)) (
 ∃a2,l6.a=some a2/\0<=n8/\n8<(l6.len:Int)/\
 ∃n11_0,w.cell? ((a2.add (n8.toNat * 7)).add 0)=some (.int .i64 n11_0)/\
 ∃n11_1,w.cell? ((a2.add (n8.toNat * 7)).add 1)=some (.int .i64 n11_1)/\
 ∃n11_2,w.cell? ((a2.add (n8.toNat * 7)).add 2)=some (.int .i64 n11_2)/\
 ∃s11_3,w.cell? ((a2.add (n8.toNat * 7)).add 3)=some (.string s11_3)/\
 ∃s11_4,w.cell? ((a2.add (n8.toNat * 7)).add 4)=some (.string s11_4)/\
 ∃l11_5:SV,w.cell? ((a2.add (n8.toNat * 7)).add 5)=some (.slice l11_5.a l11_5.len l11_5.cap)/\
 ∃l11_6:SV,w.cell? ((a2.add (n8.toNat * 7)).add 6)=some (.slice l11_6.a l11_6.len l11_6.cap)/\
 alE (.cells #[.int .i64 0,.int .i64 0,.int .i64 0,.string (⟨#[]⟩:ByteArray),.string (⟨#[]⟩:ByteArray),.slice none 0 0,.slice none 0 0] 128) w λr5 w3=>
 stA prog 128 (⟨r5,0,none⟩:Addr) #[.int .i64 n11_0,.int .i64 n11_1,.int .i64 n11_2,.string s11_3,.string s11_4,.slice l11_5.a l11_5.len l11_5.cap,.slice l11_6.a l11_6.len l11_6.cap] w3 λw4=>
 ∃n13,w4.cell? (⟨r5,0,none⟩:Addr)=some (.int .i64 n13)/\
 Br (n13 == 0) (
 ∃n18_0,w4.cell? ((⟨r5,0,none⟩:Addr).add 0)=some (.int .i64 n18_0)/\
 ∃n18_1,w4.cell? ((⟨r5,0,none⟩:Addr).add 1)=some (.int .i64 n18_1)/\
 ∃n18_2,w4.cell? ((⟨r5,0,none⟩:Addr).add 2)=some (.int .i64 n18_2)/\
 ∃s18_3,w4.cell? ((⟨r5,0,none⟩:Addr).add 3)=some (.string s18_3)/\
 ∃s18_4,w4.cell? ((⟨r5,0,none⟩:Addr).add 4)=some (.string s18_4)/\
 ∃l18_5:SV,w4.cell? ((⟨r5,0,none⟩:Addr).add 5)=some (.slice l18_5.a l18_5.len l18_5.cap)/\
 ∃l18_6:SV,w4.cell? ((⟨r5,0,none⟩:Addr).add 6)=some (.slice l18_6.a l18_6.len l18_6.cap)/\
 alE (.cells #[.int .i64 n18_0,.int .i64 n18_1,.int .i64 n18_2,.string s18_3,.string s18_4,.slice l18_5.a l18_5.len l18_5.cap,.slice l18_6.a l18_6.len l18_6.cap] 128) w4 λr19 w5=>
 ∃l20:SV,∃w6,(Builtin.append_ #[70,70] 70 #[.slice l3.a l3.len l3.cap,.slice (some ⟨r19,0,none⟩) 1 1]).run prog w5=.ok (.slice l20.a l20.len l20.cap) w6/\
 runD prog ds w6 λw7=>
 R (.returned (.slice l20.a l20.len l20.cap)) w7) (
 Br (n13 == 4) (
 ∃l25:SV,w4.cell? ((⟨r5,0,none⟩:Addr).add 6)=some (.slice l25.a l25.len l25.cap)/\
 ∃a8,l25.a=some a8/\0<=(0:Int)/\(0:Int)<(l25.len:Int)/\
 ∃n27_0,w4.cell? ((a8.add ((0:Int).toNat * 7)).add 0)=some (.int .i64 n27_0)/\
 ∃n27_1,w4.cell? ((a8.add ((0:Int).toNat * 7)).add 1)=some (.int .i64 n27_1)/\
 ∃n27_2,w4.cell? ((a8.add ((0:Int).toNat * 7)).add 2)=some (.int .i64 n27_2)/\
 ∃s27_3,w4.cell? ((a8.add ((0:Int).toNat * 7)).add 3)=some (.string s27_3)/\
 ∃s27_4,w4.cell? ((a8.add ((0:Int).toNat * 7)).add 4)=some (.string s27_4)/\
 ∃l27_5:SV,w4.cell? ((a8.add ((0:Int).toNat * 7)).add 5)=some (.slice l27_5.a l27_5.len l27_5.cap)/\
 ∃l27_6:SV,w4.cell? ((a8.add ((0:Int).toNat * 7)).add 6)=some (.slice l27_6.a l27_6.len l27_6.cap)/\
 alE (.cells #[.int .i64 n27_0,.int .i64 n27_1,.int .i64 n27_2,.string s27_3,.string s27_4,.slice l27_5.a l27_5.len l27_5.cap,.slice l27_6.a l27_6.len l27_6.cap] 128) w4 λr28 w9=>
 ∃l29:SV,∃w10,(Builtin.append_ #[70,70] 70 #[.slice l3.a l3.len l3.cap,.slice (some ⟨r28,0,none⟩) 1 1]).run prog w9=.ok (.slice l29.a l29.len l29.cap) w10/\
 J1 (l29,(IntKind.i64.wrap (n8+1))) w10) (
 runD prog ds w4 λw11=>
 R (.returned (.slice l3.a l3.len l3.cap)) w11))) (
 F175_1 R l3 ds w)
def F175_3(R:Rt)(l3 l6:SV)(n7 n8:Int)(ds:Ds)(w:World):Prop:=
 loopT (λ(J1:(SV × Int)->World->Prop) (s:SV × Int) (w:World)=>F175_2 R J1 s.1 l6 n7 s.2 ds w) (l3,n8) w
def F175_5(R:Rt)(l0:SV)(ds:Ds)(w:World):Prop:=
 F175_3 R ⟨none,0,0⟩ l0 (l0.len:Int) 0 ds w
theorem F175_p:Pl prog f175 [lS 0] F175_5:=λR=>
  pc 3 (rest [lS 3,lS 6,iS 7,iS 8] (F175_3 R) (bk 0 (rest [lS 3] (F175_1 R) lf) (lp [lS 3,iS 8] [lS 3,lS 6,iS 7,iS 8] (F175_2 R) rnil λJ1=>lf)))
theorem F175_calls (l0:SV) (w:World) (R:Rt) (h:F175_5 R l0 [] w):Calls prog 175 #[.slice l0.a l0.len l0.cap] w R:=
  plC F175_p func175 h
def F198_1(R:Rt)(b1:Bool)(p3:Option Addr)(n6:Int)(ds:Ds)(w:World):Prop:=
 ptrE p3 λa1=>
 ∃p86,w.cell? a1=some (.pointer p86)/\
 ptrE p86 λa2=>
 ∃n89,w.cell? (a2.add 1)=some (.int .i64 n89)/\
 Br b1 (
 Br (decide ((IntKind.i64.wrap (n89 - 1)) ≥ n6)) (
 ptrE p3 λa3=>
 ∃p98,w.cell? a3=some (.pointer p98)/\
 ptrE p98 λa4=>
 ∃l101:SV,w.cell? a4=some (.slice l101.a l101.len l101.cap)/\
 ∃a5,l101.a=some a5/\0<=(IntKind.i64.wrap (n89 - 1))/\(IntKind.i64.wrap (n89 - 1))<(l101.len:Int)/\
 ∃n106,w.cell? (a5.add ((IntKind.i64.wrap (n89 - 1)).toNat * 4))=some (.int .i64 n106)/\
 Br (n106 == 4) (
 ptrE p3 λa6=>
 ∃p110,w.cell? a6=some (.pointer p110)/\
 ptrE p110 λa7=>
 ∃l113:SV,w.cell? a7=some (.slice l113.a l113.len l113.cap)/\
 ∃a8,l113.a=some a8/\0<=(IntKind.i64.wrap (n89 - 1))/\(IntKind.i64.wrap (n89 - 1))<(l113.len:Int)/\
 ∃s118,w.cell? ((a8.add ((IntKind.i64.wrap (n89 - 1)).toNat * 4)).add 2)=some (.string s118)/\
 Br (s118.toList == (⟨#[44]⟩:ByteArray).toList) (
 ptrE p3 λa9=>
 ∃p121,w.cell? a9=some (.pointer p121)/\
 ptrE p121 λa10=>
 ∃n124,w.cell? (a10.add 1)=some (.int .i64 n124)/\
 ptrE p121 λa11=>
 st1 (a11.add 1) (.int .i64 (IntKind.i64.wrap (n124 - 1))) w λw12=>
 runD prog ds w12 λw13=>
 R (.returned (.tuple #[])) w13) (
 runD prog ds w λw14=>
 R (.returned (.tuple #[])) w14)) (
 runD prog ds w λw15=>
 R (.returned (.tuple #[])) w15)) (
 runD prog ds w λw16=>
 R (.returned (.tuple #[])) w16)) (
 runD prog ds w λw17=>
 R (.returned (.tuple #[])) w17)
def F198_2 (R:Rt) (J1:(Int)->World->Prop) (b1:Bool) (l2:SV) (p3:Option Addr) (n6 n7:Int) (ds:Ds) (w:World):Prop:=
 ptrE p3 λa18=>
 ∃p25,w.cell? a18=some (.pointer p25)/\
 ptrE p25 λa19=>
 ∃n28,w.cell? (a19.add 1)=some (.int .i64 n28)/\
 ptrE p25 λa20=>
 st1 (a20.add 1) (.int .i64 (IntKind.i64.wrap (n28+1))) w λw21=>
 J1 n7 w21
def F198_3 (R:Rt) (J1:(Int)->World->Prop) (b1:Bool) (l2:SV) (p3:Option Addr) (n6 n7:Int) (s72:ByteArray) (ds:Ds) (w:World):Prop:=
 Br (s72.toList == (⟨#[40]⟩:ByteArray).toList) (
 Br (s72.toList == (⟨#[40]⟩:ByteArray).toList) (
 F198_2 R J1 b1 l2 p3 n6 (IntKind.i64.wrap (n7+1)) ds w) (
 Br (s72.toList == (⟨#[41]⟩:ByteArray).toList) (
 Br (s72.toList == (⟨#[41]⟩:ByteArray).toList) (
 ∃n85:Int,∃w22,(Builtin.max_ #[3,3] 3 #[.int .i64 0,.int .i64 (IntKind.i64.wrap (n7 - 1))]).run prog w=.ok (.int .i64 n85) w22/\
 F198_2 R J1 b1 l2 p3 n6 n85 ds w22) (
 F198_2 R J1 b1 l2 p3 n6 n7 ds w)) (
 Br (s72.toList == (⟨#[93]⟩:ByteArray).toList) (
 Br (s72.toList == (⟨#[93]⟩:ByteArray).toList) (
 ∃n85:Int,∃w23,(Builtin.max_ #[3,3] 3 #[.int .i64 0,.int .i64 (IntKind.i64.wrap (n7 - 1))]).run prog w=.ok (.int .i64 n85) w23/\
 F198_2 R J1 b1 l2 p3 n6 n85 ds w23) (
 F198_2 R J1 b1 l2 p3 n6 n7 ds w)) (
 Br (s72.toList == (⟨#[125]⟩:ByteArray).toList) (
 ∃n85:Int,∃w24,(Builtin.max_ #[3,3] 3 #[.int .i64 0,.int .i64 (IntKind.i64.wrap (n7 - 1))]).run prog w=.ok (.int .i64 n85) w24/\
 F198_2 R J1 b1 l2 p3 n6 n85 ds w24) (
 F198_2 R J1 b1 l2 p3 n6 n7 ds w))))) (
 Br (s72.toList == (⟨#[91]⟩:ByteArray).toList) (
 Br (s72.toList == (⟨#[91]⟩:ByteArray).toList) (
 F198_2 R J1 b1 l2 p3 n6 (IntKind.i64.wrap (n7+1)) ds w) (
 Br (s72.toList == (⟨#[41]⟩:ByteArray).toList) (
 Br (s72.toList == (⟨#[41]⟩:ByteArray).toList) (
 ∃n85:Int,∃w25,(Builtin.max_ #[3,3] 3 #[.int .i64 0,.int .i64 (IntKind.i64.wrap (n7 - 1))]).run prog w=.ok (.int .i64 n85) w25/\
 F198_2 R J1 b1 l2 p3 n6 n85 ds w25) (
 F198_2 R J1 b1 l2 p3 n6 n7 ds w)) (
 Br (s72.toList == (⟨#[93]⟩:ByteArray).toList) (
 Br (s72.toList == (⟨#[93]⟩:ByteArray).toList) (
 ∃n85:Int,∃w26,(Builtin.max_ #[3,3] 3 #[.int .i64 0,.int .i64 (IntKind.i64.wrap (n7 - 1))]).run prog w=.ok (.int .i64 n85) w26/\
 F198_2 R J1 b1 l2 p3 n6 n85 ds w26) (
 F198_2 R J1 b1 l2 p3 n6 n7 ds w)) (
 Br (s72.toList == (⟨#[125]⟩:ByteArray).toList) (
 ∃n85:Int,∃w27,(Builtin.max_ #[3,3] 3 #[.int .i64 0,.int .i64 (IntKind.i64.wrap (n7 - 1))]).run prog w=.ok (.int .i64 n85) w27/\
 F198_2 R J1 b1 l2 p3 n6 n85 ds w27) (
 F198_2 R J1 b1 l2 p3 n6 n7 ds w))))) (
 Br (s72.toList == (⟨#[123]⟩:ByteArray).toList) (
 F198_2 R J1 b1 l2 p3 n6 (IntKind.i64.wrap (n7+1)) ds w) (
 Br (s72.toList == (⟨#[41]⟩:ByteArray).toList) (
 Br (s72.toList == (⟨#[41]⟩:ByteArray).toList) (
 ∃n85:Int,∃w28,(Builtin.max_ #[3,3] 3 #[.int .i64 0,.int .i64 (IntKind.i64.wrap (n7 - 1))]).run prog w=.ok (.int .i64 n85) w28/\
 F198_2 R J1 b1 l2 p3 n6 n85 ds w28) (
 F198_2 R J1 b1 l2 p3 n6 n7 ds w)) (
 Br (s72.toList == (⟨#[93]⟩:ByteArray).toList) (
 Br (s72.toList == (⟨#[93]⟩:ByteArray).toList) (
 ∃n85:Int,∃w29,(Builtin.max_ #[3,3] 3 #[.int .i64 0,.int .i64 (IntKind.i64.wrap (n7 - 1))]).run prog w=.ok (.int .i64 n85) w29/\
 F198_2 R J1 b1 l2 p3 n6 n85 ds w29) (
 F198_2 R J1 b1 l2 p3 n6 n7 ds w)) (
 Br (s72.toList == (⟨#[125]⟩:ByteArray).toList) (
 ∃n85:Int,∃w30,(Builtin.max_ #[3,3] 3 #[.int .i64 0,.int .i64 (IntKind.i64.wrap (n7 - 1))]).run prog w=.ok (.int .i64 n85) w30/\
 F198_2 R J1 b1 l2 p3 n6 n85 ds w30) (
 F198_2 R J1 b1 l2 p3 n6 n7 ds w))))))
def F198_4 (R:Rt) (J1:(Int)->World->Prop) (b1:Bool) (l2:SV) (p3:Option Addr) (n6 n7:Int) (p8:Option Addr) (b65:Bool) (ds:Ds) (w:World):Prop:=
 Br b65 (
 F198_1 R b1 p3 n6 ds w) (
 ptrE p8 λa31=>
 ∃n68,w.cell? a31=some (.int .i64 n68)/\
 Br (n68 != 4) (
 F198_2 R J1 b1 l2 p3 n6 n7 ds w) (
 ptrE p8 λa32=>
 ∃s72,w.cell? (a32.add 2)=some (.string s72)/\
 F198_3 R J1 b1 l2 p3 n6 n7 s72 ds w))
def F198_5 (R:Rt) (J1:(Int)->World->Prop) (b1:Bool) (l2:SV) (p3:Option Addr) (n6 n7:Int) (ds:Ds) (w:World):Prop:=
 dwE w λw33=>
 ∃S1:World->Prop,S1 w33/\
 ptrE p3 λa34=>
 ∃p32,(∀w',S1 w'->w'.cell? a34=some (.pointer p32))/\
 ptrE p32 λa35=>
 ∃l35:SV,(∀w',S1 w'->w'.cell? a35=some (.slice l35.a l35.len l35.cap))/\
 ptrE p3 λa36=>
 ∃p36,(∀w',S1 w'->w'.cell? a36=some (.pointer p36))/\
 ptrE p36 λa37=>
 ∃n39,(∀w',S1 w'->w'.cell? (a37.add 1)=some (.int .i64 n39))/\
 ∃a38,l35.a=some a38/\0<=n39/\n39<(l35.len:Int)/\
 ∃n41_0,(∀w',S1 w'->w'.cell? ((a38.add (n39.toNat * 4)).add 0)=some (.int .i64 n41_0))/\
 ∃n41_1,(∀w',S1 w'->w'.cell? ((a38.add (n39.toNat * 4)).add 1)=some (.int .i64 n41_1))/\
 ∃s41_2,(∀w',S1 w'->w'.cell? ((a38.add (n39.toNat * 4)).add 2)=some (.string s41_2))/\
 ∃l41_3:SV,(∀w',S1 w'->w'.cell? ((a38.add (n39.toNat * 4)).add 3)=some (.slice l41_3.a l41_3.len l41_3.cap))/\
 alE (.cells #[.int .i64 0,.int .i64 0,.string (⟨#[]⟩:ByteArray),.slice none 0 0] 112) w33 λr8 w39=>
 S1 w39/\
 stA prog 112 (⟨r8,0,none⟩:Addr) #[.int .i64 n41_0,.int .i64 n41_1,.string s41_2,.slice l41_3.a l41_3.len l41_3.cap] w39 λw40=>
 ∃n44,w40.cell? (⟨r8,0,none⟩:Addr)=some (.int .i64 n44)/\
 Br (n44 == 4) (
 ∃s49,w40.cell? ((⟨r8,0,none⟩:Addr).add 2)=some (.string s49)/\
 Br (n7 == 0) (
 Br (s49.toList == (⟨#[44]⟩:ByteArray).toList) (
 Br (!b1) (
 F198_4 R J1 b1 l2 p3 n6 n7 (some (⟨r8,0,none⟩:Addr)) true ds w40) (
 Calls prog 152 #[.slice l2.a l2.len l2.cap,.func (.func 204) #[] #[.pointer p3,.pointer (some (⟨r8,0,none⟩:Addr))]] w40 λe w41=>
 ∃b63:Bool,e=.returned (.bool b63)/\
 F198_4 R J1 b1 l2 p3 n6 n7 (some (⟨r8,0,none⟩:Addr)) b63 ds w41)) (
 Calls prog 152 #[.slice l2.a l2.len l2.cap,.func (.func 204) #[] #[.pointer p3,.pointer (some (⟨r8,0,none⟩:Addr))]] w40 λe w42=>
 ∃b63:Bool,e=.returned (.bool b63)/\
 F198_4 R J1 b1 l2 p3 n6 n7 (some (⟨r8,0,none⟩:Addr)) b63 ds w42)) (
 F198_4 R J1 b1 l2 p3 n6 n7 (some (⟨r8,0,none⟩:Addr)) false ds w40)) (
 Br (n7 == 0) (
 Calls prog 152 #[.slice l2.a l2.len l2.cap,.func (.func 204) #[] #[.pointer p3,.pointer (some (⟨r8,0,none⟩:Addr))]] w40 λe w43=>
 ∃b63:Bool,e=.returned (.bool b63)/\
 F198_4 R J1 b1 l2 p3 n6 n7 (some (⟨r8,0,none⟩:Addr)) b63 ds w43) (
 F198_4 R J1 b1 l2 p3 n6 n7 (some (⟨r8,0,none⟩:Addr)) false ds w40))
def F198_7 (R:Rt) (J1:(Int)->World->Prop) (b1:Bool) (l2:SV) (p3:Option Addr) (n6 n7:Int) (ds:Ds) (w:World):Prop:=
 dwE w λw44=>
 ptrE p3 λa45=>
 ∃p15,w44.cell? a45=some (.pointer p15)/\
 ptrE p15 λa46=>
 ∃n18,w44.cell? (a46.add 1)=some (.int .i64 n18)/\
 ptrE p3 λa47=>
 ∃p19,w44.cell? a47=some (.pointer p19)/\
 ptrE p19 λa48=>
 ∃l22:SV,w44.cell? a48=some (.slice l22.a l22.len l22.cap)/\
 Br (decide (n18<(l22.len:Int))) (
 F198_5 R J1 b1 l2 p3 n6 n7 ds w44) (
 F198_1 R b1 p3 n6 ds w44)
def F198_8(R:Rt)(b1:Bool)(l2:SV)(p3:Option Addr)(n6 n7:Int)(ds:Ds)(w:World):Prop:=
 loopT (λ(J1:(Int)->World->Prop) (s:Int) (w:World)=>F198_7 R J1 b1 l2 p3 n6 s ds w) n7 w
def F198_10(R:Rt)(p0:Option Addr)(b1:Bool)(l2:SV)(ds:Ds)(w:World):Prop:=
 alE (.cells #[.pointer p0] 184) w λr3 w49=>
 ∃p11,w49.cell? (⟨r3,0,none⟩:Addr)=some (.pointer p11)/\
 ptrE p11 λa50=>
 ∃n14,w49.cell? (a50.add 1)=some (.int .i64 n14)/\
 F198_8 R b1 l2 (some (⟨r3,0,none⟩:Addr)) n14 0 ds w49
theorem F198_p:Pl prog f198 [pS 0,bS 1,lS 2] F198_10:=λR=>
  pc 3 (rest [bS 1,lS 2,pS 3,iS 6,iS 7] (F198_8 R) (bk 0 (rest [bS 1,pS 3,iS 6] (F198_1 R) lf) (lp [iS 7] [bS 1,lS 2,pS 3,iS 6,iS 7] (F198_7 R) rnil λJ1=>pc 2 (rest [bS 1,lS 2,pS 3,iS 6,iS 7] (F198_5 R J1) (bk 1 (rest [bS 1,lS 2,pS 3,iS 6,iS 7] (F198_2 R J1) lf) (pc 3 (rest [bS 1,lS 2,pS 3,iS 6,iS 7,pS 8,bS 65] (F198_4 R J1) (pc 4 (rest [bS 1,lS 2,pS 3,iS 6,iS 7,sS 72] (F198_3 R J1) lf)))))))))
theorem F198_calls (p0:Option Addr) (b1:Bool) (l2:SV) (w:World) (R:Rt) (h:F198_10 R p0 b1 l2 [] w):Calls prog 198 #[.pointer p0,.bool b1,.slice l2.a l2.len l2.cap] w R:=
  plC F198_p func198 h
def F204_1(R:Rt)(n0_0 n0_1 n0_2:Int)(s0_3 s0_4:ByteArray)(l0_5 l0_6:SV)(v1 v2:Value)(ds:Ds)(w:World):Prop:=
 alE (.cells #[.int .i64 n0_0,.int .i64 n0_1,.int .i64 n0_2,.string s0_3,.string s0_4,.slice l0_5.a l0_5.len l0_5.cap,.slice l0_6.a l0_6.len l0_6.cap] 128) w λr3 w1=>
 addrE v1 λa2=>
 ∃p5,w1.cell? a2=some (.pointer p5)/\
 addrE v2 λa3=>
 ∃n6_0,w1.cell? (a3.add 0)=some (.int .i64 n6_0)/\
 ∃n6_1,w1.cell? (a3.add 1)=some (.int .i64 n6_1)/\
 ∃s6_2,w1.cell? (a3.add 2)=some (.string s6_2)/\
 ∃l6_3:SV,w1.cell? (a3.add 3)=some (.slice l6_3.a l6_3.len l6_3.cap)/\
 ∃n7_0,w1.cell? ((⟨r3,0,none⟩:Addr).add 0)=some (.int .i64 n7_0)/\
 ∃n7_1,w1.cell? ((⟨r3,0,none⟩:Addr).add 1)=some (.int .i64 n7_1)/\
 ∃n7_2,w1.cell? ((⟨r3,0,none⟩:Addr).add 2)=some (.int .i64 n7_2)/\
 ∃s7_3,w1.cell? ((⟨r3,0,none⟩:Addr).add 3)=some (.string s7_3)/\
 ∃s7_4,w1.cell? ((⟨r3,0,none⟩:Addr).add 4)=some (.string s7_4)/\
 ∃l7_5:SV,w1.cell? ((⟨r3,0,none⟩:Addr).add 5)=some (.slice l7_5.a l7_5.len l7_5.cap)/\
 ∃l7_6:SV,w1.cell? ((⟨r3,0,none⟩:Addr).add 6)=some (.slice l7_6.a l7_6.len l7_6.cap)/\
 Calls prog 193 #[.pointer p5,.agg #[.int .i64 n6_0,.int .i64 n6_1,.string s6_2,.slice l6_3.a l6_3.len l6_3.cap],.agg #[.int .i64 n7_0,.int .i64 n7_1,.int .i64 n7_2,.string s7_3,.string s7_4,.slice l7_5.a l7_5.len l7_5.cap,.slice l7_6.a l7_6.len l7_6.cap]] w1 λe w4=>
 ∃b8:Bool,e=.returned (.bool b8)/\
 runD prog ds w4 λw5=>
 R (.returned (.bool b8)) w5
theorem F204_p:Pl prog f204 [aS 0 [.int .i64,.int .i64,.int .i64,.str,.str,.slice,.slice],vS 1,vS 2] F204_1:=λR=>
  lf
theorem F204_calls (n0_0 n0_1 n0_2:Int) (s0_3 s0_4:ByteArray) (l0_5 l0_6:SV) (v1 v2:Value) (w:World) (R:Rt) (h:F204_1 R n0_0 n0_1 n0_2 s0_3 s0_4 l0_5 l0_6 v1 v2 [] w):Calls prog 204 #[.agg #[.int .i64 n0_0,.int .i64 n0_1,.int .i64 n0_2,.string s0_3,.string s0_4,.slice l0_5.a l0_5.len l0_5.cap,.slice l0_6.a l0_6.len l0_6.cap],v1,v2] w R:=
  plC F204_p func204 h
def F125_1(R:Rt)(l6:SV)(ds:Ds)(w:World):Prop:=
 runD prog ds w λw1=>
 R (.returned (.tuple #[.slice l6.a l6.len l6.cap,.bool true])) w1
def F125_2 (R:Rt) (J1:(SV × Int)->World->Prop) (p3:Option Addr) (l6 l13:SV) (n14 n15:Int) (ds:Ds) (w:World):Prop:=
 Br (decide (n15<n14)) (
 ∃a2,l13.a=some a2/\0<=n15/\n15<(l13.len:Int)/\
 ∃n18_0,w.cell? ((a2.add (n15.toNat * 7)).add 0)=some (.int .i64 n18_0)/\
 ∃n18_1,w.cell? ((a2.add (n15.toNat * 7)).add 1)=some (.int .i64 n18_1)/\
 ∃n18_2,w.cell? ((a2.add (n15.toNat * 7)).add 2)=some (.int .i64 n18_2)/\
 ∃s18_3,w.cell? ((a2.add (n15.toNat * 7)).add 3)=some (.string s18_3)/\
 ∃s18_4,w.cell? ((a2.add (n15.toNat * 7)).add 4)=some (.string s18_4)/\
 ∃l18_5:SV,w.cell? ((a2.add (n15.toNat * 7)).add 5)=some (.slice l18_5.a l18_5.len l18_5.cap)/\
 ∃l18_6:SV,w.cell? ((a2.add (n15.toNat * 7)).add 6)=some (.slice l18_6.a l18_6.len l18_6.cap)/\
 alE (.cells #[.int .i64 0,.int .i64 0,.int .i64 0,.string (⟨#[]⟩:ByteArray),.string (⟨#[]⟩:ByteArray),.slice none 0 0,.slice none 0 0] 128) w λr8 w3=>
 stA prog 128 (⟨r8,0,none⟩:Addr) #[.int .i64 n18_0,.int .i64 n18_1,.int .i64 n18_2,.string s18_3,.string s18_4,.slice l18_5.a l18_5.len l18_5.cap,.slice l18_6.a l18_6.len l18_6.cap] w3 λw4=>
 ∃n20,w4.cell? (⟨r8,0,none⟩:Addr)=some (.int .i64 n20)/\
 Br (n20 == 0) (
 ∃n42_0,w4.cell? (((⟨r8,0,none⟩:Addr).add 1).add 0)=some (.int .i64 n42_0)/\
 ∃n42_1,w4.cell? (((⟨r8,0,none⟩:Addr).add 1).add 1)=some (.int .i64 n42_1)/\
 ∃s42_2,w4.cell? (((⟨r8,0,none⟩:Addr).add 1).add 2)=some (.string s42_2)/\
 alE (.cells #[.int .i64 n42_0,.int .i64 n42_1,.string s42_2,.slice none 0 0] 112) w4 λr44 w5=>
 ∃l45:SV,∃w6,(Builtin.append_ #[84,84] 84 #[.slice l6.a l6.len l6.cap,.slice (some ⟨r44,0,none⟩) 1 1]).run prog w5=.ok (.slice l45.a l45.len l45.cap) w6/\
 J1 (l45,(IntKind.i64.wrap (n15+1))) w6) (
 Br (n20 == 1) (
 ptrE p3 λa7=>
 ∃m49,w4.cell? a7=some (.map m49)/\
 ∃s51,w4.cell? ((⟨r8,0,none⟩:Addr).add 4)=some (.string s51)/\
 ∃l52:SV,∃w8,(Instr.lookup 161 (.map m49) (.string s51) false).run prog w4=.ok (.slice l52.a l52.len l52.cap) w8/\
 ∃l53:SV,∃w9,(Builtin.append_ #[84,84] 84 #[.slice l6.a l6.len l6.cap,.slice l52.a l52.len l52.cap]).run prog w8=.ok (.slice l53.a l53.len l53.cap) w9/\
 J1 (l53,(IntKind.i64.wrap (n15+1))) w9) (
 Br (n20 == 6) (
 alE (.cells #[.int .i64 0,.int .i64 0,.string (⟨#[]⟩:ByteArray),.slice none 0 0] 112) w4 λr9 w10=>
 stA prog 112 (⟨r9,0,none⟩:Addr) #[.int .i64 4,.int .i64 0,.string (⟨#[46,70,46]⟩:ByteArray),.slice none 0 0] w10 λw11=>
 ptrE p3 λa12=>
 ∃m58,w11.cell? a12=some (.map m58)/\
 ∃s60,w11.cell? ((⟨r8,0,none⟩:Addr).add 4)=some (.string s60)/\
 ∃l61:SV,∃w13,(Instr.lookup 161 (.map m58) (.string s60) false).run prog w11=.ok (.slice l61.a l61.len l61.cap) w13/\
 Br (decide ((l61.len:Int) > 0)) (
 st1 ((⟨r9,0,none⟩:Addr).add 2) (.string (⟨#[46,84,46]⟩:ByteArray)) w13 λw14=>
 ∃n67_0,w14.cell? ((⟨r9,0,none⟩:Addr).add 0)=some (.int .i64 n67_0)/\
 ∃n67_1,w14.cell? ((⟨r9,0,none⟩:Addr).add 1)=some (.int .i64 n67_1)/\
 ∃s67_2,w14.cell? ((⟨r9,0,none⟩:Addr).add 2)=some (.string s67_2)/\
 ∃l67_3:SV,w14.cell? ((⟨r9,0,none⟩:Addr).add 3)=some (.slice l67_3.a l67_3.len l67_3.cap)/\
 alE (.cells #[.int .i64 n67_0,.int .i64 n67_1,.string s67_2,.slice l67_3.a l67_3.len l67_3.cap] 112) w14 λr68 w15=>
 ∃l69:SV,∃w16,(Builtin.append_ #[84,84] 84 #[.slice l6.a l6.len l6.cap,.slice (some ⟨r68,0,none⟩) 1 1]).run prog w15=.ok (.slice l69.a l69.len l69.cap) w16/\
 J1 (l69,(IntKind.i64.wrap (n15+1))) w16) (
 ∃n67_0,w13.cell? ((⟨r9,0,none⟩:Addr).add 0)=some (.int .i64 n67_0)/\
 ∃n67_1,w13.cell? ((⟨r9,0,none⟩:Addr).add 1)=some (.int .i64 n67_1)/\
 ∃s67_2,w13.cell? ((⟨r9,0,none⟩:Addr).add 2)=some (.string s67_2)/\
 ∃l67_3:SV,w13.cell? ((⟨r9,0,none⟩:Addr).add 3)=some (.slice l67_3.a l67_3.len l67_3.cap)/\
 alE (.cells #[.int .i64 n67_0,.int .i64 n67_1,.string s67_2,.slice l67_3.a l67_3.len l67_3.cap] 112) w13 λr68 w17=>
 ∃l69:SV,∃w18,(Builtin.append_ #[84,84] 84 #[.slice l6.a l6.len l6.cap,.slice (some ⟨r68,0,none⟩) 1 1]).run prog w17=.ok (.slice l69.a l69.len l69.cap) w18/\
 J1 (l69,(IntKind.i64.wrap (n15+1))) w18)) (
 Br (n20 == 5) (
 ptrE p3 λa19=>
 ∃m72,w4.cell? a19=some (.map m72)/\
 ∃s74,w4.cell? ((⟨r8,0,none⟩:Addr).add 4)=some (.string s74)/\
 ∃l75:SV,∃w20,(Instr.lookup 161 (.map m72) (.string s74) false).run prog w4=.ok (.slice l75.a l75.len l75.cap) w20/\
 Calls prog 50 #[.slice l75.a l75.len l75.cap] w20 λe w21=>
 ∃s76:ByteArray,e=.returned (.string s76)/\
 alE (.cells #[.int .i64 0,.int .i64 0,.string (⟨#[]⟩:ByteArray),.slice none 0 0] 112) w21 λr10 w22=>
 stA prog 112 (⟨r10,0,none⟩:Addr) #[.int .i64 2,.int .i64 0,.string s76,.slice none 0 0] w22 λw23=>
 ∃s81,w23.cell? ((⟨r10,0,none⟩:Addr).add 2)=some (.string s81)/\
 Calls prog 36 #[.string s81,.string (⟨#[34]⟩:ByteArray)] w23 λe w24=>
 ∃b82:Bool,e=.returned (.bool b82)/\
 Br b82 (
 ∃s86,w24.cell? ((⟨r10,0,none⟩:Addr).add 2)=some (.string s86)/\
 Calls prog 36 #[.string s86,.string (⟨#[39]⟩:ByteArray)] w24 λe w25=>
 ∃b87:Bool,e=.returned (.bool b87)/\
 Br b87 (
 runD prog ds w25 λw26=>
 R (.returned (.tuple #[.slice none 0 0,.bool false])) w26) (
 ∃n90_0,w25.cell? ((⟨r10,0,none⟩:Addr).add 0)=some (.int .i64 n90_0)/\
 ∃n90_1,w25.cell? ((⟨r10,0,none⟩:Addr).add 1)=some (.int .i64 n90_1)/\
 ∃s90_2,w25.cell? ((⟨r10,0,none⟩:Addr).add 2)=some (.string s90_2)/\
 ∃l90_3:SV,w25.cell? ((⟨r10,0,none⟩:Addr).add 3)=some (.slice l90_3.a l90_3.len l90_3.cap)/\
 alE (.cells #[.int .i64 n90_0,.int .i64 n90_1,.string s90_2,.slice l90_3.a l90_3.len l90_3.cap] 112) w25 λr91 w27=>
 ∃l92:SV,∃w28,(Builtin.append_ #[84,84] 84 #[.slice l6.a l6.len l6.cap,.slice (some ⟨r91,0,none⟩) 1 1]).run prog w27=.ok (.slice l92.a l92.len l92.cap) w28/\
 J1 (l92,(IntKind.i64.wrap (n15+1))) w28)) (
 ∃n90_0,w24.cell? ((⟨r10,0,none⟩:Addr).add 0)=some (.int .i64 n90_0)/\
 ∃n90_1,w24.cell? ((⟨r10,0,none⟩:Addr).add 1)=some (.int .i64 n90_1)/\
 ∃s90_2,w24.cell? ((⟨r10,0,none⟩:Addr).add 2)=some (.string s90_2)/\
 ∃l90_3:SV,w24.cell? ((⟨r10,0,none⟩:Addr).add 3)=some (.slice l90_3.a l90_3.len l90_3.cap)/\
 alE (.cells #[.int .i64 n90_0,.int .i64 n90_1,.string s90_2,.slice l90_3.a l90_3.len l90_3.cap] 112) w24 λr91 w29=>
 ∃l92:SV,∃w30,(Builtin.append_ #[84,84] 84 #[.slice l6.a l6.len l6.cap,.slice (some ⟨r91,0,none⟩) 1 1]).run prog w29=.ok (.slice l92.a l92.len l92.cap) w30/\
 J1 (l92,(IntKind.i64.wrap (n15+1))) w30)) (
 ∃l22:SV,w4.cell? ((⟨r8,0,none⟩:Addr).add 6)=some (.slice l22.a l22.len l22.cap)/\
 Calls prog 152 #[.slice l22.a l22.len l22.cap,.func (.func 153) #[] #[.pointer p3]] w4 λe w31=>
 ∃b24:Bool,e=.returned (.bool b24)/\
 Br (!b24) (
 J1 (l6,(IntKind.i64.wrap (n15+1))) w31) (
 ∃l28:SV,w31.cell? ((⟨r8,0,none⟩:Addr).add 6)=some (.slice l28.a l28.len l28.cap)/\
 ptrE p3 λa32=>
 ∃m29,w31.cell? a32=some (.map m29)/\
 Calls prog 125 #[.slice l28.a l28.len l28.cap,.map m29] w31 λe w33=>
 ∃l30_0:SV,∃b30_1:Bool,e=.returned (.tuple #[.slice l30_0.a l30_0.len l30_0.cap,.bool b30_1])/\
 Br (!b30_1) (
 runD prog ds w33 λw34=>
 R (.returned (.tuple #[.slice none 0 0,.bool false])) w34) (
 ∃l37:SV,∃w35,(Builtin.append_ #[84,84] 84 #[.slice l6.a l6.len l6.cap,.slice l30_0.a l30_0.len l30_0.cap]).run prog w33=.ok (.slice l37.a l37.len l37.cap) w35/\
 J1 (l37,(IntKind.i64.wrap (n15+1))) w35))))))) (
 F125_1 R l6 ds w)
def F125_3(R:Rt)(p3:Option Addr)(l6 l13:SV)(n14 n15:Int)(ds:Ds)(w:World):Prop:=
 loopT (λ(J1:(SV × Int)->World->Prop) (s:SV × Int) (w:World)=>F125_2 R J1 p3 s.1 l13 n14 s.2 ds w) (l6,n15) w
def F125_5(R:Rt)(l0:SV)(m1:Option Nat)(ds:Ds)(w:World):Prop:=
 alE (.cells #[.map m1] 161) w λr3 w36=>
 F125_3 R (some (⟨r3,0,none⟩:Addr)) ⟨none,0,0⟩ l0 (l0.len:Int) 0 ds w36
theorem F125_p:Pl prog f125 [lS 0,mS 1] F125_5:=λR=>
  pc 3 (rest [pS 3,lS 6,lS 13,iS 14,iS 15] (F125_3 R) (bk 0 (rest [lS 6] (F125_1 R) lf) (lp [lS 6,iS 15] [pS 3,lS 6,lS 13,iS 14,iS 15] (F125_2 R) rnil λJ1=>lf)))
theorem F125_calls (l0:SV) (m1:Option Nat) (w:World) (R:Rt) (h:F125_5 R l0 m1 [] w):Calls prog 125 #[.slice l0.a l0.len l0.cap,.map m1] w R:=
  plC F125_p func125 h
def F199_1(R:Rt)(l0:SV)(ds:Ds)(w:World):Prop:=
 ∃b4:Bool,∃w1,(eqS .eql 84 (.tmp 3) (.const (.slice none 0 0)) (.slice l0.a l0.len l0.cap) (.slice none 0 0)).run prog w=.ok (.bool b4) w1/\
 Br b4 (
 runD prog ds w1 λw2=>
 R (.returned (.slice none 0 0)) w2) (
 alE (.cells #[] 112) w1 λr5 w3=>
 ∃l7:SV,∃w4,(Builtin.append_ #[84,84] 84 #[.slice (some ⟨r5,0,none⟩) 0 0,.slice l0.a l0.len l0.cap]).run prog w3=.ok (.slice l7.a l7.len l7.cap) w4/\
 runD prog ds w4 λw5=>
 R (.returned (.slice l7.a l7.len l7.cap)) w5)
theorem F199_p:Pl prog f199 [lS 0] F199_1:=λR=>
  lf
theorem F199_calls (l0:SV) (w:World) (R:Rt) (h:F199_1 R l0 [] w):Calls prog 199 #[.slice l0.a l0.len l0.cap] w R:=
  plC F199_p func199 h
end Go.Proofs.YtjbfehippchniaaGreatDoor

/- Shallow texts of functions, printed by program, each checked by the kernel against the loaded code. No condition. -/
set_option maxRecDepth 100000
set_option linter.unusedVariables false
namespace Go.Proofs.YtjbfehippchniaaGreatDoor
open Go.Sh Tryz
def F152_1(R:Rt)(l0:SV)(v1:Value)(ds:Ds)(w:World):Prop:=
 Calls prog 176 #[.slice l0.a l0.len l0.cap,v1] w λe w1=>
 ∃n7:Int,e=.returned (.int .i64 n7)/\
 runD prog ds w1 λw2=>
 R (.returned (.bool (decide (n7 ≥ 0)))) w2
theorem F152_p:Pl prog f152 [lS 0,vS 1] F152_1:=λR=>
  lf
theorem F152_calls (l0:SV) (v1:Value) (w:World) (R:Rt) (h:F152_1 R l0 v1 [] w):Calls prog 152 #[.slice l0.a l0.len l0.cap,v1] w R:=
  plC F152_p func152 h
def F176_1(R:Rt)(ds:Ds)(w:World):Prop:=
 runD prog ds w λw1=>
 R (.returned (.int .i64 (-1))) w1
def F176_2 (R:Rt) (J1:(Int)->World->Prop) (l0:SV) (v1:Value) (n7 n8:Int) (ds:Ds) (w:World):Prop:=
 Br (decide (n8<n7)) (
 ∃a2,l0.a=some a2/\0<=n8/\n8<(l0.len:Int)/\
 ∃n15_0,w.cell? ((a2.add (n8.toNat * 7)).add 0)=some (.int .i64 n15_0)/\
 ∃n15_1,w.cell? ((a2.add (n8.toNat * 7)).add 1)=some (.int .i64 n15_1)/\
 ∃n15_2,w.cell? ((a2.add (n8.toNat * 7)).add 2)=some (.int .i64 n15_2)/\
 ∃s15_3,w.cell? ((a2.add (n8.toNat * 7)).add 3)=some (.string s15_3)/\
 ∃s15_4,w.cell? ((a2.add (n8.toNat * 7)).add 4)=some (.string s15_4)/\
 ∃l15_5:SV,w.cell? ((a2.add (n8.toNat * 7)).add 5)=some (.slice l15_5.a l15_5.len l15_5.cap)/\
 ∃l15_6:SV,w.cell? ((a2.add (n8.toNat * 7)).add 6)=some (.slice l15_6.a l15_6.len l15_6.cap)/\
 fnE v1 λf16 first16 cap16=>
 hasBody prog f16=true/\Calls prog f16 (first16.toList ++ (([.agg #[.int .i64 n15_0,.int .i64 n15_1,.int .i64 n15_2,.string s15_3,.string s15_4,.slice l15_5.a l15_5.len l15_5.cap,.slice l15_6.a l15_6.len l15_6.cap]]:List Value) ++ cap16.toList)).toArray w λe w3=>
 ∃b16:Bool,e=.returned (.bool b16)/\
 Br b16 (
 runD prog ds w3 λw4=>
 R (.returned (.int .i64 n8)) w4) (
 J1 (IntKind.i64.wrap (n8+1)) w3)) (
 F176_1 R ds w)
def F176_3(R:Rt)(l0:SV)(v1:Value)(n7 n8:Int)(ds:Ds)(w:World):Prop:=
 loopT (λ(J1:(Int)->World->Prop) (s:Int) (w:World)=>F176_2 R J1 l0 v1 n7 s ds w) n8 w
def F176_5(R:Rt)(l0:SV)(v1:Value)(ds:Ds)(w:World):Prop:=
 F176_3 R l0 (v1) (l0.len:Int) 0 ds w
theorem F176_p:Pl prog f176 [lS 0,vS 1] F176_5:=λR=>
  pc 2 (rest [lS 0,vS 1,iS 7,iS 8] (F176_3 R) (bk 0 (rest [] (F176_1 R) lf) (lp [iS 8] [lS 0,vS 1,iS 7,iS 8] (F176_2 R) rnil λJ1=>lf)))
theorem F176_calls (l0:SV) (v1:Value) (w:World) (R:Rt) (h:F176_5 R l0 v1 [] w):Calls prog 176 #[.slice l0.a l0.len l0.cap,v1] w R:=
  plC F176_p func176 h
end Go.Proofs.YtjbfehippchniaaGreatDoor
