import Derived.Test.YtjbfehippchniaaGreatDoorProg
import Derived.Test.YtjbfehippchniaaGreatDoorShTwentyEight
/- Shallow texts of functions, printed by program, each checked by the kernel against the loaded code. No condition. -/
set_option maxRecDepth 100000
set_option linter.unusedVariables false
namespace Go.Proofs.YtjbfehippchniaaGreatDoor
open Go.Sh Tryz
def F74_1(R:Rt)(s0 s1:ByteArray)(ds:Ds)(w:World):Prop:=
 Br (decide ((s0.size:Int) ≥ (s1.size:Int))) (
 0<=(s1.size:Int)/\(s1.size:Int).toNat<=s0.size/\0<=(s1.size:Int).toNat/\
 runD prog ds w λw1=>
 R (.returned (.bool ((s0.extract 0 ((s1.size:Int).toNat)).toList == s1.toList))) w1) (
 runD prog ds w λw2=>
 R (.returned (.bool false)) w2)
theorem F74_p:Pl prog f74 [sS 0,sS 1] F74_1:=λR=>
  lf
theorem F74_calls (s0 s1:ByteArray) (w:World) (R:Rt) (h:F74_1 R s0 s1 [] w):Calls prog 74 #[.string s0,.string s1] w R:=
  plC F74_p func74 h
def F41_1(R:Rt)(s0 s1:ByteArray)(ds:Ds)(w:World):Prop:=
 Calls prog 74 #[.string s0,.string s1] w λe w1=>
 ∃b7:Bool,e=.returned (.bool b7)/\
 runD prog ds w1 λw2=>
 R (.returned (.bool b7)) w2
theorem F41_p:Pl prog f41 [sS 0,sS 1] F41_1:=λR=>
  lf
theorem F41_calls (s0 s1:ByteArray) (w:World) (R:Rt) (h:F41_1 R s0 s1 [] w):Calls prog 41 #[.string s0,.string s1] w R:=
  plC F41_p func41 h
def F131_1(R:Rt)(s0:ByteArray)(n1:Int)(ds:Ds)(w:World):Prop:=
 ∃n7:Int,∃w1,(callFunc 156 #[.string s0,.int .u8 n1]).run prog w=.ok (.value (.int .i64 n7)) w1/\
 runD prog ds w1 λw2=>
 R (.returned (.int .i64 n7)) w2
theorem F131_p:Pl prog f131 [sS 0,kS .u8 1] F131_1:=λR=>
  lf
theorem F131_calls (s0:ByteArray) (n1:Int) (w:World) (R:Rt) (h:F131_1 R s0 n1 [] w):Calls prog 131 #[.string s0,.int .u8 n1] w R:=
  plC F131_p func131 h
def F112_1(R:Rt)(s0:ByteArray)(n1:Int)(ds:Ds)(w:World):Prop:=
 Calls prog 131 #[.string s0,.int .u8 n1] w λe w1=>
 ∃n7:Int,e=.returned (.int .i64 n7)/\
 runD prog ds w1 λw2=>
 R (.returned (.int .i64 n7)) w2
theorem F112_p:Pl prog f112 [sS 0,kS .u8 1] F112_1:=λR=>
  lf
theorem F112_calls (s0:ByteArray) (n1:Int) (w:World) (R:Rt) (h:F112_1 R s0 n1 [] w):Calls prog 112 #[.string s0,.int .u8 n1] w R:=
  plC F112_p func112 h
end Go.Proofs.YtjbfehippchniaaGreatDoor

/- Shallow texts of functions, printed by program, each checked by the kernel against the loaded code. No condition. -/
set_option maxRecDepth 100000
set_option linter.unusedVariables false
namespace Go.Proofs.YtjbfehippchniaaGreatDoor
open Go.Sh Tryz
def F119_1(R:Rt)(p0 p1:Option Addr)(ds:Ds)(w:World):Prop:=
 ptrE p1 λa1=>
 ∃c62:Array Value,c62.size=256/\(∀i,i<256->w.cell? (a1.add i)=c62[i]?)/\
 ptrE p0 λa2=>
 stA prog 149 a2 c62 w λw3=>
 runD prog ds w3 λw4=>
 ptrE p0 λa5=>
 ∃cR0:Array Value,cR0.size=256/\(∀i,i<256->w4.cell? (a5.add i)=cR0[i]?)/\
 R (.returned (.agg cR0)) w4
def F119_2 (R:Rt) (J1:(Int)->World->Prop) (p0 p1:Option Addr) (n4:Int) (ds:Ds) (w:World):Prop:=
 J1 (IntKind.i64.wrap (n4+1)) w
def F119_3 (R:Rt) (J1:(Int)->World->Prop) (p0 p1:Option Addr) (n2 n4:Int) (ds:Ds) (w:World):Prop:=
 ptrE p1 λa6=>
 0<=n2/\n2<(256:Int)/\
 st1 (a6.add (n2.toNat * 1)) (.int .u8 3) w λw7=>
 F119_2 R J1 p0 p1 n4 ds w7
def F119_4 (R:Rt) (J1:(Int)->World->Prop) (p0 p1:Option Addr) (n2 n3 n4:Int) (b18:Bool) (ds:Ds) (w:World):Prop:=
 Br b18 (
 ptrE p1 λa8=>
 0<=n2/\n2<(256:Int)/\
 st1 (a8.add (n2.toNat * 1)) (.int .u8 1) w λw9=>
 F119_2 R J1 p0 p1 n4 ds w9) (
 Br (decide (n3 ≥ 48)) (
 Br (decide (n3<=57)) (
 ptrE p1 λa10=>
 0<=n2/\n2<(256:Int)/\
 st1 (a10.add (n2.toNat * 1)) (.int .u8 2) w λw11=>
 F119_2 R J1 p0 p1 n4 ds w11) (
 Br (n3 != 10) (
 Br (decide (n3<32)) (
 ptrE p1 λa12=>
 0<=n2/\n2<(256:Int)/\
 st1 (a12.add (n2.toNat * 1)) (.int .u8 4) w λw13=>
 F119_2 R J1 p0 p1 n4 ds w13) (
 Br (decide (n3 > 126)) (
 ptrE p1 λa14=>
 0<=n2/\n2<(256:Int)/\
 st1 (a14.add (n2.toNat * 1)) (.int .u8 4) w λw15=>
 F119_2 R J1 p0 p1 n4 ds w15) (
 F119_2 R J1 p0 p1 n4 ds w))) (
 F119_2 R J1 p0 p1 n4 ds w))) (
 Br (n3 != 10) (
 Br (decide (n3<32)) (
 ptrE p1 λa16=>
 0<=n2/\n2<(256:Int)/\
 st1 (a16.add (n2.toNat * 1)) (.int .u8 4) w λw17=>
 F119_2 R J1 p0 p1 n4 ds w17) (
 Br (decide (n3 > 126)) (
 ptrE p1 λa18=>
 0<=n2/\n2<(256:Int)/\
 st1 (a18.add (n2.toNat * 1)) (.int .u8 4) w λw19=>
 F119_2 R J1 p0 p1 n4 ds w19) (
 F119_2 R J1 p0 p1 n4 ds w))) (
 F119_2 R J1 p0 p1 n4 ds w)))
def F119_5 (R:Rt) (J1:(Int)->World->Prop) (p0 p1:Option Addr) (n2 n3 n4:Int) (ds:Ds) (w:World):Prop:=
 Br (n3 == 95) (
 F119_4 R J1 p0 p1 n2 n3 n4 true ds w) (
 Br (decide (n3 ≥ 97)) (
 Br (decide (n3<=122)) (
 F119_4 R J1 p0 p1 n2 n3 n4 true ds w) (
 Br (decide (n3 ≥ 65)) (
 F119_4 R J1 p0 p1 n2 n3 n4 (decide (n3<=90)) ds w) (
 F119_4 R J1 p0 p1 n2 n3 n4 false ds w))) (
 Br (decide (n3 ≥ 65)) (
 F119_4 R J1 p0 p1 n2 n3 n4 (decide (n3<=90)) ds w) (
 F119_4 R J1 p0 p1 n2 n3 n4 false ds w)))
def F119_6 (R:Rt) (J1:(Int)->World->Prop) (p0 p1:Option Addr) (n2 n3 n4:Int) (b9:Bool) (ds:Ds) (w:World):Prop:=
 Br b9 (
 F119_3 R J1 p0 p1 n2 n4 ds w) (
 F119_5 R J1 p0 p1 n2 n3 n4 ds w)
def F119_7 (R:Rt) (J1:(Int)->World->Prop) (p0 p1:Option Addr) (n2 n3 n4:Int) (ds:Ds) (w:World):Prop:=
 Br (n3 == 9) (
 F119_6 R J1 p0 p1 n2 n3 n4 true ds w) (
 F119_6 R J1 p0 p1 n2 n3 n4 (n3 == 32) ds w)
def F119_9 (R:Rt) (J1:(Int)->World->Prop) (p0 p1:Option Addr) (n4:Int) (ds:Ds) (w:World):Prop:=
 F119_7 R J1 p0 p1 n4 (IntKind.u8.wrap n4) n4 ds w
def F119_11 (R:Rt) (J1:(Int)->World->Prop) (p0 p1:Option Addr) (n4:Int) (ds:Ds) (w:World):Prop:=
 Br (decide (n4<256)) (
 F119_9 R J1 p0 p1 n4 ds w) (
 F119_1 R p0 p1 ds w)
def F119_12(R:Rt)(p0 p1:Option Addr)(n4:Int)(ds:Ds)(w:World):Prop:=
 loopT (λ(J1:(Int)->World->Prop) (s:Int) (w:World)=>F119_11 R J1 p0 p1 s ds w) n4 w
def F119_14(R:Rt)(ds:Ds)(w:World):Prop:=
 alE (.cells (zc prog 149) 149) w λr0 w20=>
 alE (.cells (zc prog 149) 149) w20 λr1 w21=>
 F119_12 R (some (⟨r0,0,none⟩:Addr)) (some (⟨r1,0,none⟩:Addr)) 0 ds w21
theorem F119_p:Pl prog f119 [] F119_14:=λR=>
  pc 3 (rest [pS 0,pS 1,iS 4] (F119_12 R) (bk 0 (rest [pS 0,pS 1] (F119_1 R) lf) (lp [iS 4] [pS 0,pS 1,iS 4] (F119_11 R) rnil λJ1=>pc 2 (rest [pS 0,pS 1,iS 4] (F119_9 R J1) (bk 1 (rest [pS 0,pS 1,iS 4] (F119_2 R J1) lf) (pc 2 (rest [pS 0,pS 1,iS 2,kS .u8 3,iS 4] (F119_7 R J1) (bk 2 rnil (pc 1 (rest [pS 0,pS 1,iS 2,kS .u8 3,iS 4,bS 9] (F119_6 R J1) (cd 9 [pS 0,pS 1,iS 2,iS 4] (F119_3 R J1) [pS 0,pS 1,iS 2,kS .u8 3,iS 4] (F119_5 R J1) rnil lf (pc 1 (rest [pS 0,pS 1,iS 2,kS .u8 3,iS 4,bS 18] (F119_4 R J1) lf)))))))))))))
theorem F119_calls  (w:World) (R:Rt) (h:F119_14 R [] w):Calls prog 119 #[] w R:=
  plC F119_p func119 h
def F187_1(R:Rt)(p0:Option Addr)(n1 n2:Int)(ds:Ds)(w:World):Prop:=
 dwE w λw1=>
 ptrE p0 λa2=>
 ∃s11,w1.cell? a2=some (.string s11)/\
 Br (decide (n1<(s11.size:Int))) (
 ptrE p0 λa3=>
 ∃s19,w1.cell? a3=some (.string s19)/\
 ∃b21:UInt8,0<=n1/\s19[n1.toNat]?=some b21/\
 ptrE p0 λa4=>
 0<=(b21.toNat:Int)/\(b21.toNat:Int)<(256:Int)/\
 ∃n25,w1.cell? ((a4.add 2).add ((b21.toNat:Int).toNat * 1))=some (.int .u8 n25)/\
 runD prog ds w1 λw5=>
 R (.returned (.bool (n25 == n2))) w5) (
 runD prog ds w1 λw6=>
 R (.returned (.bool false)) w6)
theorem F187_p:Pl prog f187 [pS 0,iS 1,kS .u8 2] F187_1:=λR=>
  lf
theorem F187_calls (p0:Option Addr) (n1 n2:Int) (w:World) (R:Rt) (h:F187_1 R p0 n1 n2 [] w):Calls prog 187 #[.pointer p0,.int .i64 n1,.int .u8 n2] w R:=
  plC F187_p func187 h
end Go.Proofs.YtjbfehippchniaaGreatDoor

/- Shallow texts of functions, printed by program, each checked by the kernel against the loaded code. No condition. -/
set_option maxRecDepth 100000
set_option linter.unusedVariables false
namespace Go.Proofs.YtjbfehippchniaaGreatDoor
open Go.Sh Tryz
def F166_1 (R:Rt) (J1:(Unit)->World->Prop) (p0:Option Addr) (ds:Ds) (w:World):Prop:=
 ptrE p0 λa1=>
 ∃n6,w.cell? (a1.add 1)=some (.int .i64 n6)/\
 Calls prog 187 #[.pointer p0,.int .i64 n6,.int .u8 3] w λe w2=>
 ∃b7:Bool,e=.returned (.bool b7)/\
 Br b7 (
 ptrE p0 λa3=>
 ∃n11,w2.cell? (a3.add 1)=some (.int .i64 n11)/\
 ptrE p0 λa4=>
 st1 (a4.add 1) (.int .i64 (IntKind.i64.wrap (n11+1))) w2 λw5=>
 J1 () w5) (
 runD prog ds w2 λw6=>
 R (.returned (.tuple #[])) w6)
def F166_2(R:Rt)(p0:Option Addr)(ds:Ds)(w:World):Prop:=
 loopT (λ(J1:(Unit)->World->Prop) (_:Unit) (w:World)=>F166_1 R J1 p0 ds w) () w
theorem F166_p:Pl prog f166 [pS 0] F166_2:=λR=>
  bk 0 rnil (lp [] [pS 0] (F166_1 R) rnil λJ1=>lf)
theorem F166_calls (p0:Option Addr) (w:World) (R:Rt) (h:F166_2 R p0 [] w):Calls prog 166 #[.pointer p0] w R:=
  plC F166_p func166 h
def F188_1(R:Rt)(p0:Option Addr)(n1:Int)(ds:Ds)(w:World):Prop:=
 ptrE p0 λa1=>
 ∃s9,w.cell? a1=some (.string s9)/\
 s9.size<=s9.size/\0<=n1/\n1.toNat<=s9.size/\
 Calls prog 112 #[.string (s9.extract n1.toNat s9.size),.int .u8 10] w λe w2=>
 ∃n12:Int,e=.returned (.int .i64 n12)/\
 Br (decide (n12 ≥ 0)) (
 runD prog ds w2 λw3=>
 R (.returned (.int .i64 (IntKind.i64.wrap (n1+n12)))) w3) (
 ptrE p0 λa4=>
 ∃s21,w2.cell? a4=some (.string s21)/\
 runD prog ds w2 λw5=>
 R (.returned (.int .i64 (s21.size:Int))) w5)
theorem F188_p:Pl prog f188 [pS 0,iS 1] F188_1:=λR=>
  lf
theorem F188_calls (p0:Option Addr) (n1:Int) (w:World) (R:Rt) (h:F188_1 R p0 n1 [] w):Calls prog 188 #[.pointer p0,.int .i64 n1] w R:=
  plC F188_p func188 h
def F168_1(R:Rt)(ds:Ds)(w:World):Prop:=
 runD prog ds w λw1=>
 R (.returned (.bool true)) w1
def F168_2 (R:Rt) (J1:(Unit)->World->Prop) (p0:Option Addr) (n3:Int) (ds:Ds) (w:World):Prop:=
 ptrE p0 λa2=>
 ∃n13,w.cell? (a2.add 1)=some (.int .i64 n13)/\
 Br (decide (n13<n3)) (
 ptrE p0 λa3=>
 ∃n27,w.cell? (a3.add 1)=some (.int .i64 n27)/\
 Calls prog 187 #[.pointer p0,.int .i64 n27,.int .u8 4] w λe w4=>
 ∃b28:Bool,e=.returned (.bool b28)/\
 Br b28 (
 ptrE p0 λa5=>
 ∃n33,w4.cell? (a5.add 1)=some (.int .i64 n33)/\
 ptrE p0 λa6=>
 st1 (a6.add 260) (.int .i64 n33) w4 λw7=>
 runD prog ds w7 λw8=>
 R (.returned (.bool false)) w8) (
 ptrE p0 λa9=>
 ∃n19,w4.cell? (a9.add 1)=some (.int .i64 n19)/\
 ptrE p0 λa10=>
 st1 (a10.add 1) (.int .i64 (IntKind.i64.wrap (n19+1))) w4 λw11=>
 J1 () w11)) (
 F168_1 R ds w)
def F168_3(R:Rt)(p0:Option Addr)(n3:Int)(ds:Ds)(w:World):Prop:=
 loopT (λ(J1:(Unit)->World->Prop) (_:Unit) (w:World)=>F168_2 R J1 p0 n3 ds w) () w
def F168_5(R:Rt)(p0:Option Addr)(ds:Ds)(w:World):Prop:=
 ptrE p0 λa12=>
 ∃n8,w.cell? (a12.add 1)=some (.int .i64 n8)/\
 Calls prog 188 #[.pointer p0,.int .i64 n8] w λe w13=>
 ∃n9:Int,e=.returned (.int .i64 n9)/\
 F168_3 R p0 n9 ds w13
theorem F168_p:Pl prog f168 [pS 0] F168_5:=λR=>
  pc 2 (rest [pS 0,iS 3] (F168_3 R) (bk 0 (rest [] (F168_1 R) lf) (lp [] [pS 0,iS 3] (F168_2 R) rnil λJ1=>lf)))
theorem F168_calls (p0:Option Addr) (w:World) (R:Rt) (h:F168_5 R p0 [] w):Calls prog 168 #[.pointer p0] w R:=
  plC F168_p func168 h
def F169_1(R:Rt)(p0:Option Addr)(ds:Ds)(w:World):Prop:=
 dwE w λw1=>
 ptrE p0 λa2=>
 ∃n54,w1.cell? (a2.add 1)=some (.int .i64 n54)/\
 ptrE p0 λa3=>
 ∃s58,w1.cell? a3=some (.string s58)/\
 Br (decide (n54<(s58.size:Int))) (
 ptrE p0 λa4=>
 ∃n64,w1.cell? (a4.add 1)=some (.int .i64 n64)/\
 ptrE p0 λa5=>
 st1 (a5.add 1) (.int .i64 (IntKind.i64.wrap (n64+1))) w1 λw6=>
 runD prog ds w6 λw7=>
 R (.returned (.tuple #[.bool true,.bool true])) w7) (
 runD prog ds w1 λw8=>
 R (.returned (.tuple #[.bool true,.bool true])) w8)
def F169_2(R:Rt)(p0:Option Addr)(n4:Int)(ds:Ds)(w:World):Prop:=
 ptrE p0 λa9=>
 ∃s20,w.cell? a9=some (.string s20)/\
 Br (n4 == (s20.size:Int)) (
 ptrE p0 λa10=>
 st1 (a10.add 1) (.int .i64 n4) w λw11=>
 Calls prog 168 #[.pointer p0] w11 λe w12=>
 ∃b49:Bool,e=.returned (.bool b49)/\
 Br (!b49) (
 runD prog ds w12 λw13=>
 R (.returned (.tuple #[.bool true,.bool false])) w13) (
 F169_1 R p0 ds w12)) (
 ptrE p0 λa14=>
 ∃s27,w.cell? a14=some (.string s27)/\
 ∃b29:UInt8,0<=n4/\s27[n4.toNat]?=some b29/\
 Br (!((b29.toNat:Int) == 10)) (
 ptrE p0 λa15=>
 ∃s38,w.cell? a15=some (.string s38)/\
 s38.size<=s38.size/\0<=n4/\n4.toNat<=s38.size/\
 Calls prog 41 #[.string (s38.extract n4.toNat s38.size),.string (⟨#[38,38]⟩:ByteArray)] w λe w16=>
 ∃b41:Bool,e=.returned (.bool b41)/\
 Br (!b41) (
 runD prog ds w16 λw17=>
 R (.returned (.tuple #[.bool false,.bool true])) w17) (
 ptrE p0 λa18=>
 st1 (a18.add 1) (.int .i64 n4) w16 λw19=>
 Calls prog 168 #[.pointer p0] w19 λe w20=>
 ∃b49:Bool,e=.returned (.bool b49)/\
 Br (!b49) (
 runD prog ds w20 λw21=>
 R (.returned (.tuple #[.bool true,.bool false])) w21) (
 F169_1 R p0 ds w20))) (
 ptrE p0 λa22=>
 st1 (a22.add 1) (.int .i64 n4) w λw23=>
 Calls prog 168 #[.pointer p0] w23 λe w24=>
 ∃b49:Bool,e=.returned (.bool b49)/\
 Br (!b49) (
 runD prog ds w24 λw25=>
 R (.returned (.tuple #[.bool true,.bool false])) w25) (
 F169_1 R p0 ds w24)))
def F169_3 (R:Rt) (J1:(Int)->World->Prop) (p0:Option Addr) (n4:Int) (ds:Ds) (w:World):Prop:=
 Calls prog 187 #[.pointer p0,.int .i64 n4,.int .u8 3] w λe w26=>
 ∃b13:Bool,e=.returned (.bool b13)/\
 Br b13 (
 J1 (IntKind.i64.wrap (n4+1)) w26) (
 F169_2 R p0 n4 ds w26)
def F169_4(R:Rt)(p0:Option Addr)(n4:Int)(ds:Ds)(w:World):Prop:=
 loopT (λ(J1:(Int)->World->Prop) (s:Int) (w:World)=>F169_3 R J1 p0 s ds w) n4 w
def F169_6(R:Rt)(p0:Option Addr)(ds:Ds)(w:World):Prop:=
 ptrE p0 λa27=>
 ∃n9,w.cell? (a27.add 1)=some (.int .i64 n9)/\
 F169_4 R p0 (IntKind.i64.wrap (n9+1)) ds w
theorem F169_p:Pl prog f169 [pS 0] F169_6:=λR=>
  pc 2 (rest [pS 0,iS 4] (F169_4 R) (bk 0 (rest [pS 0,iS 4] (F169_2 R) (pc 6 (rest [pS 0] (F169_1 R) lf))) (lp [iS 4] [pS 0,iS 4] (F169_3 R) rnil λJ1=>lf)))
theorem F169_calls (p0:Option Addr) (w:World) (R:Rt) (h:F169_6 R p0 [] w):Calls prog 169 #[.pointer p0] w R:=
  plC F169_p func169 h
def F167_1(R:Rt)(p0:Option Addr)(ds:Ds)(w:World):Prop:=
 alE (.cells #[.int .i64 0,.int .i64 0,.string (⟨#[]⟩:ByteArray)] 30) w λr2 w1=>
 ptrE p0 λa2=>
 ∃n10,w1.cell? (a2.add 1)=some (.int .i64 n10)/\
 alE (.cells #[.int .i64 0,.int .i64 0,.string (⟨#[]⟩:ByteArray)] 30) w1 λr4 w3=>
 stA prog 30 (⟨r4,0,none⟩:Addr) #[.int .i64 5,.int .i64 n10,.string (⟨#[]⟩:ByteArray)] w3 λw4=>
 dwE w4 λw5=>
 ptrE p0 λa6=>
 ∃b15,w5.cell? (a6.add 258)=some (.bool b15)/\
 ptrE p0 λa7=>
 ∃n19,w5.cell? (a7.add 1)=some (.int .i64 n19)/\
 ptrE p0 λa8=>
 ∃s23,w5.cell? a8=some (.string s23)/\
 ptrE p0 λa9=>
 st1 (a9.add 258) (.bool false) w5 λw10=>
 ptrE p0 λa11=>
 st1 (a11.add 259) (.bool false) w10 λw12=>
 Br (!(n19 == (s23.size:Int))) (
 ptrE p0 λa13=>
 ∃n37,w12.cell? (a13.add 1)=some (.int .i64 n37)/\
 ptrE p0 λa14=>
 st1 (a14.add 1) (.int .i64 (IntKind.i64.wrap (n37+1))) w12 λw15=>
 Br b15 (
 ∃n42_0,w15.cell? ((⟨r4,0,none⟩:Addr).add 0)=some (.int .i64 n42_0)/\
 ∃n42_1,w15.cell? ((⟨r4,0,none⟩:Addr).add 1)=some (.int .i64 n42_1)/\
 ∃s42_2,w15.cell? ((⟨r4,0,none⟩:Addr).add 2)=some (.string s42_2)/\
 stA prog 30 (⟨r2,0,none⟩:Addr) #[.int .i64 n42_0,.int .i64 n42_1,.string s42_2] w15 λw16=>
 runD prog ds w16 λw17=>
 ∃nR0_0,w17.cell? ((⟨r2,0,none⟩:Addr).add 0)=some (.int .i64 nR0_0)/\
 ∃nR0_1,w17.cell? ((⟨r2,0,none⟩:Addr).add 1)=some (.int .i64 nR0_1)/\
 ∃sR0_2,w17.cell? ((⟨r2,0,none⟩:Addr).add 2)=some (.string sR0_2)/\
 R (.returned (.tuple #[.agg #[.int .i64 nR0_0,.int .i64 nR0_1,.string sR0_2],.bool true])) w17) (
 stA prog 30 (⟨r2,0,none⟩:Addr) #[.int .i64 0,.int .i64 0,.string (⟨#[]⟩:ByteArray)] w15 λw18=>
 runD prog ds w18 λw19=>
 ∃nR0_0,w19.cell? ((⟨r2,0,none⟩:Addr).add 0)=some (.int .i64 nR0_0)/\
 ∃nR0_1,w19.cell? ((⟨r2,0,none⟩:Addr).add 1)=some (.int .i64 nR0_1)/\
 ∃sR0_2,w19.cell? ((⟨r2,0,none⟩:Addr).add 2)=some (.string sR0_2)/\
 R (.returned (.tuple #[.agg #[.int .i64 nR0_0,.int .i64 nR0_1,.string sR0_2],.bool (n19 == (s23.size:Int))])) w19)) (
 Br b15 (
 ∃n42_0,w12.cell? ((⟨r4,0,none⟩:Addr).add 0)=some (.int .i64 n42_0)/\
 ∃n42_1,w12.cell? ((⟨r4,0,none⟩:Addr).add 1)=some (.int .i64 n42_1)/\
 ∃s42_2,w12.cell? ((⟨r4,0,none⟩:Addr).add 2)=some (.string s42_2)/\
 stA prog 30 (⟨r2,0,none⟩:Addr) #[.int .i64 n42_0,.int .i64 n42_1,.string s42_2] w12 λw20=>
 runD prog ds w20 λw21=>
 ∃nR0_0,w21.cell? ((⟨r2,0,none⟩:Addr).add 0)=some (.int .i64 nR0_0)/\
 ∃nR0_1,w21.cell? ((⟨r2,0,none⟩:Addr).add 1)=some (.int .i64 nR0_1)/\
 ∃sR0_2,w21.cell? ((⟨r2,0,none⟩:Addr).add 2)=some (.string sR0_2)/\
 R (.returned (.tuple #[.agg #[.int .i64 nR0_0,.int .i64 nR0_1,.string sR0_2],.bool true])) w21) (
 stA prog 30 (⟨r2,0,none⟩:Addr) #[.int .i64 0,.int .i64 0,.string (⟨#[]⟩:ByteArray)] w12 λw22=>
 runD prog ds w22 λw23=>
 ∃nR0_0,w23.cell? ((⟨r2,0,none⟩:Addr).add 0)=some (.int .i64 nR0_0)/\
 ∃nR0_1,w23.cell? ((⟨r2,0,none⟩:Addr).add 1)=some (.int .i64 nR0_1)/\
 ∃sR0_2,w23.cell? ((⟨r2,0,none⟩:Addr).add 2)=some (.string sR0_2)/\
 R (.returned (.tuple #[.agg #[.int .i64 nR0_0,.int .i64 nR0_1,.string sR0_2],.bool (n19 == (s23.size:Int))])) w23))
theorem F167_p:Pl prog f167 [pS 0] F167_1:=λR=>
  lf
theorem F167_calls (p0:Option Addr) (w:World) (R:Rt) (h:F167_1 R p0 [] w):Calls prog 167 #[.pointer p0] w R:=
  plC F167_p func167 h
def F150_1 (R:Rt) (J1:(Unit)->World->Prop) (p0 p2:Option Addr) (b20:Bool) (ds:Ds) (w:World):Prop:=
 Br b20 (
 Calls prog 167 #[.pointer p0] w λe w1=>
 ∃n45_0_0:Int,∃n45_0_1:Int,∃s45_0_2:ByteArray,∃b45_1:Bool,e=.returned (.tuple #[.agg #[.int .i64 n45_0_0,.int .i64 n45_0_1,.string s45_0_2],.bool b45_1])/\
 alE (.cells #[.int .i64 0,.int .i64 0,.string (⟨#[]⟩:ByteArray)] 30) w1 λr4 w2=>
 stA prog 30 (⟨r4,0,none⟩:Addr) #[.int .i64 n45_0_0,.int .i64 n45_0_1,.string s45_0_2] w2 λw3=>
 Br b45_1 (
 dwE w3 λw4=>
 ∃S1:World->Prop,S1 w4/\
 ∃n49_0,(∀w',S1 w'->w'.cell? ((⟨r4,0,none⟩:Addr).add 0)=some (.int .i64 n49_0))/\
 ∃n49_1,(∀w',S1 w'->w'.cell? ((⟨r4,0,none⟩:Addr).add 1)=some (.int .i64 n49_1))/\
 ∃s49_2,(∀w',S1 w'->w'.cell? ((⟨r4,0,none⟩:Addr).add 2)=some (.string s49_2))/\
 ∃n51,(∀w',S1 w'->w'.cell? (⟨r4,0,none⟩:Addr)=some (.int .i64 n51))/\
 ptrE p2 λa5=>
 stA prog 30 a5 #[.int .i64 n49_0,.int .i64 n49_1,.string s49_2] w4 λw6=>
 S1 w6/\
 runD prog ds w6 λw7=>
 ptrE p2 λa8=>
 ∃nR0_0,w7.cell? (a8.add 0)=some (.int .i64 nR0_0)/\
 ∃nR0_1,w7.cell? (a8.add 1)=some (.int .i64 nR0_1)/\
 ∃sR0_2,w7.cell? (a8.add 2)=some (.string sR0_2)/\
 R (.returned (.tuple #[.agg #[.int .i64 nR0_0,.int .i64 nR0_1,.string sR0_2],.bool (n51 == 5)])) w7) (
 J1 () w3)) (
 dwE w λw9=>
 ptrE p0 λa10=>
 ∃s57,w9.cell? a10=some (.string s57)/\
 ptrE p0 λa11=>
 ∃n61,w9.cell? (a11.add 1)=some (.int .i64 n61)/\
 ∃b62:UInt8,0<=n61/\s57[n61.toNat]?=some b62/\
 Br ((b62.toNat:Int) == 42) (
 ptrE p0 λa12=>
 ∃b68,w9.cell? (a12.add 259)=some (.bool b68)/\
 Br (!b68) (
 Br (!b68) (
 Calls prog 168 #[.pointer p0] w9 λe w13=>
 ∃b82:Bool,e=.returned (.bool b82)/\
 Br (!b82) (
 ptrE p2 λa14=>
 stA prog 30 a14 #[.int .i64 0,.int .i64 0,.string (⟨#[]⟩:ByteArray)] w13 λw15=>
 runD prog ds w15 λw16=>
 ptrE p2 λa17=>
 ∃nR0_0,w16.cell? (a17.add 0)=some (.int .i64 nR0_0)/\
 ∃nR0_1,w16.cell? (a17.add 1)=some (.int .i64 nR0_1)/\
 ∃sR0_2,w16.cell? (a17.add 2)=some (.string sR0_2)/\
 R (.returned (.tuple #[.agg #[.int .i64 nR0_0,.int .i64 nR0_1,.string sR0_2],.bool false])) w16) (
 J1 () w13)) (
 dwE w9 λw18=>
 ptrE p0 λa19=>
 ∃s89,w18.cell? a19=some (.string s89)/\
 ptrE p0 λa20=>
 ∃n93,w18.cell? (a20.add 1)=some (.int .i64 n93)/\
 ∃b94:UInt8,0<=n93/\s89[n93.toNat]?=some b94/\
 Br ((b94.toNat:Int) == 59) (
 Calls prog 169 #[.pointer p0] w18 λe w21=>
 ∃b98_0:Bool,∃b98_1:Bool,e=.returned (.tuple #[.bool b98_0,.bool b98_1])/\
 Br (!b98_0) (
 ptrE p0 λa22=>
 ∃n107,w21.cell? (a22.add 1)=some (.int .i64 n107)/\
 ptrE p0 λa23=>
 st1 (a23.add 260) (.int .i64 n107) w21 λw24=>
 Br (!b98_0) (
 ptrE p2 λa25=>
 stA prog 30 a25 #[.int .i64 0,.int .i64 0,.string (⟨#[]⟩:ByteArray)] w24 λw26=>
 runD prog ds w26 λw27=>
 ptrE p2 λa28=>
 ∃nR0_0,w27.cell? (a28.add 0)=some (.int .i64 nR0_0)/\
 ∃nR0_1,w27.cell? (a28.add 1)=some (.int .i64 nR0_1)/\
 ∃sR0_2,w27.cell? (a28.add 2)=some (.string sR0_2)/\
 R (.returned (.tuple #[.agg #[.int .i64 nR0_0,.int .i64 nR0_1,.string sR0_2],.bool false])) w27) (
 Br (!b98_1) (
 ptrE p2 λa29=>
 stA prog 30 a29 #[.int .i64 0,.int .i64 0,.string (⟨#[]⟩:ByteArray)] w24 λw30=>
 runD prog ds w30 λw31=>
 ptrE p2 λa32=>
 ∃nR0_0,w31.cell? (a32.add 0)=some (.int .i64 nR0_0)/\
 ∃nR0_1,w31.cell? (a32.add 1)=some (.int .i64 nR0_1)/\
 ∃sR0_2,w31.cell? (a32.add 2)=some (.string sR0_2)/\
 R (.returned (.tuple #[.agg #[.int .i64 nR0_0,.int .i64 nR0_1,.string sR0_2],.bool false])) w31) (
 J1 () w24))) (
 Br (!b98_0) (
 ptrE p2 λa33=>
 stA prog 30 a33 #[.int .i64 0,.int .i64 0,.string (⟨#[]⟩:ByteArray)] w21 λw34=>
 runD prog ds w34 λw35=>
 ptrE p2 λa36=>
 ∃nR0_0,w35.cell? (a36.add 0)=some (.int .i64 nR0_0)/\
 ∃nR0_1,w35.cell? (a36.add 1)=some (.int .i64 nR0_1)/\
 ∃sR0_2,w35.cell? (a36.add 2)=some (.string sR0_2)/\
 R (.returned (.tuple #[.agg #[.int .i64 nR0_0,.int .i64 nR0_1,.string sR0_2],.bool false])) w35) (
 Br (!b98_1) (
 ptrE p2 λa37=>
 stA prog 30 a37 #[.int .i64 0,.int .i64 0,.string (⟨#[]⟩:ByteArray)] w21 λw38=>
 runD prog ds w38 λw39=>
 ptrE p2 λa40=>
 ∃nR0_0,w39.cell? (a40.add 0)=some (.int .i64 nR0_0)/\
 ∃nR0_1,w39.cell? (a40.add 1)=some (.int .i64 nR0_1)/\
 ∃sR0_2,w39.cell? (a40.add 2)=some (.string sR0_2)/\
 R (.returned (.tuple #[.agg #[.int .i64 nR0_0,.int .i64 nR0_1,.string sR0_2],.bool false])) w39) (
 J1 () w21)))) (
 ptrE p0 λa41=>
 st1 (a41.add 258) (.bool true) w18 λw42=>
 ptrE p0 λa43=>
 st1 (a43.add 259) (.bool true) w42 λw44=>
 Calls prog 170 #[.pointer p0] w44 λe w45=>
 ∃n17_0_0:Int,∃n17_0_1:Int,∃s17_0_2:ByteArray,∃b17_1:Bool,e=.returned (.tuple #[.agg #[.int .i64 n17_0_0,.int .i64 n17_0_1,.string s17_0_2],.bool b17_1])/\
 ptrE p2 λa46=>
 stA prog 30 a46 #[.int .i64 n17_0_0,.int .i64 n17_0_1,.string s17_0_2] w45 λw47=>
 runD prog ds w47 λw48=>
 ptrE p2 λa49=>
 ∃nR0_0,w48.cell? (a49.add 0)=some (.int .i64 nR0_0)/\
 ∃nR0_1,w48.cell? (a49.add 1)=some (.int .i64 nR0_1)/\
 ∃sR0_2,w48.cell? (a49.add 2)=some (.string sR0_2)/\
 R (.returned (.tuple #[.agg #[.int .i64 nR0_0,.int .i64 nR0_1,.string sR0_2],.bool b17_1])) w48))) (
 dwE w9 λw50=>
 ptrE p0 λa51=>
 ∃s74,w50.cell? a51=some (.string s74)/\
 ptrE p0 λa52=>
 ∃n78,w50.cell? (a52.add 1)=some (.int .i64 n78)/\
 s74.size<=s74.size/\0<=n78/\n78.toNat<=s74.size/\
 Calls prog 41 #[.string (s74.extract n78.toNat s74.size),.string (⟨#[38,38]⟩:ByteArray)] w50 λe w53=>
 ∃b80:Bool,e=.returned (.bool b80)/\
 Br b80 (
 Calls prog 168 #[.pointer p0] w53 λe w54=>
 ∃b82:Bool,e=.returned (.bool b82)/\
 Br (!b82) (
 ptrE p2 λa55=>
 stA prog 30 a55 #[.int .i64 0,.int .i64 0,.string (⟨#[]⟩:ByteArray)] w54 λw56=>
 runD prog ds w56 λw57=>
 ptrE p2 λa58=>
 ∃nR0_0,w57.cell? (a58.add 0)=some (.int .i64 nR0_0)/\
 ∃nR0_1,w57.cell? (a58.add 1)=some (.int .i64 nR0_1)/\
 ∃sR0_2,w57.cell? (a58.add 2)=some (.string sR0_2)/\
 R (.returned (.tuple #[.agg #[.int .i64 nR0_0,.int .i64 nR0_1,.string sR0_2],.bool false])) w57) (
 J1 () w54)) (
 dwE w53 λw59=>
 ptrE p0 λa60=>
 ∃s89,w59.cell? a60=some (.string s89)/\
 ptrE p0 λa61=>
 ∃n93,w59.cell? (a61.add 1)=some (.int .i64 n93)/\
 ∃b94:UInt8,0<=n93/\s89[n93.toNat]?=some b94/\
 Br ((b94.toNat:Int) == 59) (
 Calls prog 169 #[.pointer p0] w59 λe w62=>
 ∃b98_0:Bool,∃b98_1:Bool,e=.returned (.tuple #[.bool b98_0,.bool b98_1])/\
 Br (!b98_0) (
 ptrE p0 λa63=>
 ∃n107,w62.cell? (a63.add 1)=some (.int .i64 n107)/\
 ptrE p0 λa64=>
 st1 (a64.add 260) (.int .i64 n107) w62 λw65=>
 Br (!b98_0) (
 ptrE p2 λa66=>
 stA prog 30 a66 #[.int .i64 0,.int .i64 0,.string (⟨#[]⟩:ByteArray)] w65 λw67=>
 runD prog ds w67 λw68=>
 ptrE p2 λa69=>
 ∃nR0_0,w68.cell? (a69.add 0)=some (.int .i64 nR0_0)/\
 ∃nR0_1,w68.cell? (a69.add 1)=some (.int .i64 nR0_1)/\
 ∃sR0_2,w68.cell? (a69.add 2)=some (.string sR0_2)/\
 R (.returned (.tuple #[.agg #[.int .i64 nR0_0,.int .i64 nR0_1,.string sR0_2],.bool false])) w68) (
 Br (!b98_1) (
 ptrE p2 λa70=>
 stA prog 30 a70 #[.int .i64 0,.int .i64 0,.string (⟨#[]⟩:ByteArray)] w65 λw71=>
 runD prog ds w71 λw72=>
 ptrE p2 λa73=>
 ∃nR0_0,w72.cell? (a73.add 0)=some (.int .i64 nR0_0)/\
 ∃nR0_1,w72.cell? (a73.add 1)=some (.int .i64 nR0_1)/\
 ∃sR0_2,w72.cell? (a73.add 2)=some (.string sR0_2)/\
 R (.returned (.tuple #[.agg #[.int .i64 nR0_0,.int .i64 nR0_1,.string sR0_2],.bool false])) w72) (
 J1 () w65))) (
 Br (!b98_0) (
 ptrE p2 λa74=>
 stA prog 30 a74 #[.int .i64 0,.int .i64 0,.string (⟨#[]⟩:ByteArray)] w62 λw75=>
 runD prog ds w75 λw76=>
 ptrE p2 λa77=>
 ∃nR0_0,w76.cell? (a77.add 0)=some (.int .i64 nR0_0)/\
 ∃nR0_1,w76.cell? (a77.add 1)=some (.int .i64 nR0_1)/\
 ∃sR0_2,w76.cell? (a77.add 2)=some (.string sR0_2)/\
 R (.returned (.tuple #[.agg #[.int .i64 nR0_0,.int .i64 nR0_1,.string sR0_2],.bool false])) w76) (
 Br (!b98_1) (
 ptrE p2 λa78=>
 stA prog 30 a78 #[.int .i64 0,.int .i64 0,.string (⟨#[]⟩:ByteArray)] w62 λw79=>
 runD prog ds w79 λw80=>
 ptrE p2 λa81=>
 ∃nR0_0,w80.cell? (a81.add 0)=some (.int .i64 nR0_0)/\
 ∃nR0_1,w80.cell? (a81.add 1)=some (.int .i64 nR0_1)/\
 ∃sR0_2,w80.cell? (a81.add 2)=some (.string sR0_2)/\
 R (.returned (.tuple #[.agg #[.int .i64 nR0_0,.int .i64 nR0_1,.string sR0_2],.bool false])) w80) (
 J1 () w62)))) (
 ptrE p0 λa82=>
 st1 (a82.add 258) (.bool true) w59 λw83=>
 ptrE p0 λa84=>
 st1 (a84.add 259) (.bool true) w83 λw85=>
 Calls prog 170 #[.pointer p0] w85 λe w86=>
 ∃n17_0_0:Int,∃n17_0_1:Int,∃s17_0_2:ByteArray,∃b17_1:Bool,e=.returned (.tuple #[.agg #[.int .i64 n17_0_0,.int .i64 n17_0_1,.string s17_0_2],.bool b17_1])/\
 ptrE p2 λa87=>
 stA prog 30 a87 #[.int .i64 n17_0_0,.int .i64 n17_0_1,.string s17_0_2] w86 λw88=>
 runD prog ds w88 λw89=>
 ptrE p2 λa90=>
 ∃nR0_0,w89.cell? (a90.add 0)=some (.int .i64 nR0_0)/\
 ∃nR0_1,w89.cell? (a90.add 1)=some (.int .i64 nR0_1)/\
 ∃sR0_2,w89.cell? (a90.add 2)=some (.string sR0_2)/\
 R (.returned (.tuple #[.agg #[.int .i64 nR0_0,.int .i64 nR0_1,.string sR0_2],.bool b17_1])) w89)))) (
 dwE w9 λw91=>
 ptrE p0 λa92=>
 ∃s74,w91.cell? a92=some (.string s74)/\
 ptrE p0 λa93=>
 ∃n78,w91.cell? (a93.add 1)=some (.int .i64 n78)/\
 s74.size<=s74.size/\0<=n78/\n78.toNat<=s74.size/\
 Calls prog 41 #[.string (s74.extract n78.toNat s74.size),.string (⟨#[38,38]⟩:ByteArray)] w91 λe w94=>
 ∃b80:Bool,e=.returned (.bool b80)/\
 Br b80 (
 Calls prog 168 #[.pointer p0] w94 λe w95=>
 ∃b82:Bool,e=.returned (.bool b82)/\
 Br (!b82) (
 ptrE p2 λa96=>
 stA prog 30 a96 #[.int .i64 0,.int .i64 0,.string (⟨#[]⟩:ByteArray)] w95 λw97=>
 runD prog ds w97 λw98=>
 ptrE p2 λa99=>
 ∃nR0_0,w98.cell? (a99.add 0)=some (.int .i64 nR0_0)/\
 ∃nR0_1,w98.cell? (a99.add 1)=some (.int .i64 nR0_1)/\
 ∃sR0_2,w98.cell? (a99.add 2)=some (.string sR0_2)/\
 R (.returned (.tuple #[.agg #[.int .i64 nR0_0,.int .i64 nR0_1,.string sR0_2],.bool false])) w98) (
 J1 () w95)) (
 dwE w94 λw100=>
 ptrE p0 λa101=>
 ∃s89,w100.cell? a101=some (.string s89)/\
 ptrE p0 λa102=>
 ∃n93,w100.cell? (a102.add 1)=some (.int .i64 n93)/\
 ∃b94:UInt8,0<=n93/\s89[n93.toNat]?=some b94/\
 Br ((b94.toNat:Int) == 59) (
 Calls prog 169 #[.pointer p0] w100 λe w103=>
 ∃b98_0:Bool,∃b98_1:Bool,e=.returned (.tuple #[.bool b98_0,.bool b98_1])/\
 Br (!b98_0) (
 ptrE p0 λa104=>
 ∃n107,w103.cell? (a104.add 1)=some (.int .i64 n107)/\
 ptrE p0 λa105=>
 st1 (a105.add 260) (.int .i64 n107) w103 λw106=>
 Br (!b98_0) (
 ptrE p2 λa107=>
 stA prog 30 a107 #[.int .i64 0,.int .i64 0,.string (⟨#[]⟩:ByteArray)] w106 λw108=>
 runD prog ds w108 λw109=>
 ptrE p2 λa110=>
 ∃nR0_0,w109.cell? (a110.add 0)=some (.int .i64 nR0_0)/\
 ∃nR0_1,w109.cell? (a110.add 1)=some (.int .i64 nR0_1)/\
 ∃sR0_2,w109.cell? (a110.add 2)=some (.string sR0_2)/\
 R (.returned (.tuple #[.agg #[.int .i64 nR0_0,.int .i64 nR0_1,.string sR0_2],.bool false])) w109) (
 Br (!b98_1) (
 ptrE p2 λa111=>
 stA prog 30 a111 #[.int .i64 0,.int .i64 0,.string (⟨#[]⟩:ByteArray)] w106 λw112=>
 runD prog ds w112 λw113=>
 ptrE p2 λa114=>
 ∃nR0_0,w113.cell? (a114.add 0)=some (.int .i64 nR0_0)/\
 ∃nR0_1,w113.cell? (a114.add 1)=some (.int .i64 nR0_1)/\
 ∃sR0_2,w113.cell? (a114.add 2)=some (.string sR0_2)/\
 R (.returned (.tuple #[.agg #[.int .i64 nR0_0,.int .i64 nR0_1,.string sR0_2],.bool false])) w113) (
 J1 () w106))) (
 Br (!b98_0) (
 ptrE p2 λa115=>
 stA prog 30 a115 #[.int .i64 0,.int .i64 0,.string (⟨#[]⟩:ByteArray)] w103 λw116=>
 runD prog ds w116 λw117=>
 ptrE p2 λa118=>
 ∃nR0_0,w117.cell? (a118.add 0)=some (.int .i64 nR0_0)/\
 ∃nR0_1,w117.cell? (a118.add 1)=some (.int .i64 nR0_1)/\
 ∃sR0_2,w117.cell? (a118.add 2)=some (.string sR0_2)/\
 R (.returned (.tuple #[.agg #[.int .i64 nR0_0,.int .i64 nR0_1,.string sR0_2],.bool false])) w117) (
 Br (!b98_1) (
 ptrE p2 λa119=>
 stA prog 30 a119 #[.int .i64 0,.int .i64 0,.string (⟨#[]⟩:ByteArray)] w103 λw120=>
 runD prog ds w120 λw121=>
 ptrE p2 λa122=>
 ∃nR0_0,w121.cell? (a122.add 0)=some (.int .i64 nR0_0)/\
 ∃nR0_1,w121.cell? (a122.add 1)=some (.int .i64 nR0_1)/\
 ∃sR0_2,w121.cell? (a122.add 2)=some (.string sR0_2)/\
 R (.returned (.tuple #[.agg #[.int .i64 nR0_0,.int .i64 nR0_1,.string sR0_2],.bool false])) w121) (
 J1 () w103)))) (
 ptrE p0 λa123=>
 st1 (a123.add 258) (.bool true) w100 λw124=>
 ptrE p0 λa125=>
 st1 (a125.add 259) (.bool true) w124 λw126=>
 Calls prog 170 #[.pointer p0] w126 λe w127=>
 ∃n17_0_0:Int,∃n17_0_1:Int,∃s17_0_2:ByteArray,∃b17_1:Bool,e=.returned (.tuple #[.agg #[.int .i64 n17_0_0,.int .i64 n17_0_1,.string s17_0_2],.bool b17_1])/\
 ptrE p2 λa128=>
 stA prog 30 a128 #[.int .i64 n17_0_0,.int .i64 n17_0_1,.string s17_0_2] w127 λw129=>
 runD prog ds w129 λw130=>
 ptrE p2 λa131=>
 ∃nR0_0,w130.cell? (a131.add 0)=some (.int .i64 nR0_0)/\
 ∃nR0_1,w130.cell? (a131.add 1)=some (.int .i64 nR0_1)/\
 ∃sR0_2,w130.cell? (a131.add 2)=some (.string sR0_2)/\
 R (.returned (.tuple #[.agg #[.int .i64 nR0_0,.int .i64 nR0_1,.string sR0_2],.bool b17_1])) w130))))
def F150_2 (R:Rt) (J1:(Unit)->World->Prop) (p0 p2:Option Addr) (ds:Ds) (w:World):Prop:=
 dwE w λw132=>
 ptrE p0 λa133=>
 ∃n24,w132.cell? (a133.add 1)=some (.int .i64 n24)/\
 ptrE p0 λa134=>
 ∃s28,w132.cell? a134=some (.string s28)/\
 Br (n24 == (s28.size:Int)) (
 F150_1 R J1 p0 p2 true ds w132) (
 ptrE p0 λa135=>
 ∃s35,w132.cell? a135=some (.string s35)/\
 ptrE p0 λa136=>
 ∃n39,w132.cell? (a136.add 1)=some (.int .i64 n39)/\
 ∃b40:UInt8,0<=n39/\s35[n39.toNat]?=some b40/\
 F150_1 R J1 p0 p2 ((b40.toNat:Int) == 10) ds w132)
def F150_4 (R:Rt) (J1:(Unit)->World->Prop) (p0 p2:Option Addr) (ds:Ds) (w:World):Prop:=
 Calls prog 166 #[.pointer p0] w λe w137=>
 e=.returned (.tuple #[])/\
 F150_2 R J1 p0 p2 ds w137
def F150_6(R:Rt)(p0 p2:Option Addr)(ds:Ds)(w:World):Prop:=
 loopT (λ(J1:(Unit)->World->Prop) (_:Unit) (w:World)=>F150_4 R J1 p0 p2 ds w) () w
def F150_8(R:Rt)(p0:Option Addr)(ds:Ds)(w:World):Prop:=
 alE (.cells #[.int .i64 0,.int .i64 0,.string (⟨#[]⟩:ByteArray)] 30) w λr2 w138=>
 F150_6 R p0 (some (⟨r2,0,none⟩:Addr)) ds w138
theorem F150_p:Pl prog f150 [pS 0] F150_8:=λR=>
  pc 1 (rest [pS 0,pS 2] (F150_6 R) (bk 0 rnil (lp [] [pS 0,pS 2] (F150_4 R) rnil λJ1=>bk 1 rnil (pc 1 (rest [pS 0,pS 2] (F150_2 R J1) (bk 2 rnil (pc 1 (rest [pS 0,pS 2,bS 20] (F150_1 R J1) lf))))))))
theorem F150_calls (p0:Option Addr) (w:World) (R:Rt) (h:F150_8 R p0 [] w):Calls prog 150 #[.pointer p0] w R:=
  plC F150_p func150 h
end Go.Proofs.YtjbfehippchniaaGreatDoor

/- Shallow texts of functions, printed by program, each checked by the kernel against the loaded code. No condition. -/
set_option maxRecDepth 100000
set_option linter.unusedVariables false
namespace Go.Proofs.YtjbfehippchniaaGreatDoor
open Go.Sh Tryz
def F170_1(R:Rt)(p0 p2:Option Addr)(n4:Int)(p5:Option Addr)(ds:Ds)(w:World):Prop:=
 Calls prog 191 #[.pointer p0] w λe w1=>
 ∃s114_0:ByteArray,∃n114_1:Int,∃b114_2:Bool,e=.returned (.tuple #[.string s114_0,.int .i64 n114_1,.bool b114_2])/\
 Br b114_2 (
 ptrE p0 λa2=>
 ∃n122,w1.cell? (a2.add 1)=some (.int .i64 n122)/\
 ptrE p0 λa3=>
 st1 (a3.add 1) (.int .i64 (IntKind.i64.wrap (n122+n114_1))) w1 λw4=>
 ptrE p2 λa5=>
 stA prog 30 a5 #[.int .i64 3,.int .i64 n4,.string s114_0] w4 λw6=>
 runD prog ds w6 λw7=>
 ptrE p2 λa8=>
 ∃nR0_0,w7.cell? (a8.add 0)=some (.int .i64 nR0_0)/\
 ∃nR0_1,w7.cell? (a8.add 1)=some (.int .i64 nR0_1)/\
 ∃sR0_2,w7.cell? (a8.add 2)=some (.string sR0_2)/\
 R (.returned (.tuple #[.agg #[.int .i64 nR0_0,.int .i64 nR0_1,.string sR0_2],.bool true])) w7) (
 ptrE p5 λa9=>
 ∃n131_0,w1.cell? (a9.add 0)=some (.int .i64 n131_0)/\
 ∃n131_1,w1.cell? (a9.add 1)=some (.int .i64 n131_1)/\
 ∃s131_2,w1.cell? (a9.add 2)=some (.string s131_2)/\
 Calls prog 192 #[.pointer p0,.agg #[.int .i64 n131_0,.int .i64 n131_1,.string s131_2]] w1 λe w10=>
 ∃n132_0_0:Int,∃n132_0_1:Int,∃s132_0_2:ByteArray,∃b132_1:Bool,e=.returned (.tuple #[.agg #[.int .i64 n132_0_0,.int .i64 n132_0_1,.string s132_0_2],.bool b132_1])/\
 ptrE p2 λa11=>
 stA prog 30 a11 #[.int .i64 n132_0_0,.int .i64 n132_0_1,.string s132_0_2] w10 λw12=>
 runD prog ds w12 λw13=>
 ptrE p2 λa14=>
 ∃nR0_0,w13.cell? (a14.add 0)=some (.int .i64 nR0_0)/\
 ∃nR0_1,w13.cell? (a14.add 1)=some (.int .i64 nR0_1)/\
 ∃sR0_2,w13.cell? (a14.add 2)=some (.string sR0_2)/\
 R (.returned (.tuple #[.agg #[.int .i64 nR0_0,.int .i64 nR0_1,.string sR0_2],.bool b132_1])) w13)
def F170_2(R:Rt)(p0 p2:Option Addr)(n4:Int)(p5:Option Addr)(ds:Ds)(w:World):Prop:=
 dwE w λw15=>
 ptrE p0 λa16=>
 ∃s43,w15.cell? a16=some (.string s43)/\
 ptrE p0 λa17=>
 ∃n48,w15.cell? (a17.add 1)=some (.int .i64 n48)/\
 0<=n48/\n48.toNat<=s43.size/\0<=n4/\n4.toNat<=n48.toNat/\
 ptrE p5 λa18=>
 Calls prog 80 #[.string (s43.extract n4.toNat n48.toNat)] w15 λe w19=>
 ∃s50:ByteArray,e=.returned (.string s50)/\
 st1 a18 (.int .i64 0) w19 λw20=>
 ptrE p5 λa21=>
 st1 (a21.add 2) (.string s50) w20 λw22=>
 dwE w22 λw23=>
 ∃S2:World->Prop,S2 w23/\
 ptrE p5 λa24=>
 ∃n53_0,(∀w',S2 w'->w'.cell? (a24.add 0)=some (.int .i64 n53_0))/\
 ∃n53_1,(∀w',S2 w'->w'.cell? (a24.add 1)=some (.int .i64 n53_1))/\
 ∃s53_2,(∀w',S2 w'->w'.cell? (a24.add 2)=some (.string s53_2))/\
 ptrE p5 λa25=>
 ∃n55_0,(∀w',S2 w'->w'.cell? (a25.add 0)=some (.int .i64 n55_0))/\
 ∃n55_1,(∀w',S2 w'->w'.cell? (a25.add 1)=some (.int .i64 n55_1))/\
 ∃s55_2,(∀w',S2 w'->w'.cell? (a25.add 2)=some (.string s55_2))/\
 Calls prog 189 #[.pointer p0,.agg #[.int .i64 n55_0,.int .i64 n55_1,.string s55_2],.int .i64 24] w23 λe w26=>
 ∃b56:Bool,e=.returned (.bool b56)/\
 S2 w26/\
 ptrE p2 λa27=>
 stA prog 30 a27 #[.int .i64 n53_0,.int .i64 n53_1,.string s53_2] w26 λw28=>
 runD prog ds w28 λw29=>
 ptrE p2 λa30=>
 ∃nR0_0,w29.cell? (a30.add 0)=some (.int .i64 nR0_0)/\
 ∃nR0_1,w29.cell? (a30.add 1)=some (.int .i64 nR0_1)/\
 ∃sR0_2,w29.cell? (a30.add 2)=some (.string sR0_2)/\
 R (.returned (.tuple #[.agg #[.int .i64 nR0_0,.int .i64 nR0_1,.string sR0_2],.bool b56])) w29
def F170_3 (R:Rt) (J1:(Unit)->World->Prop) (p0 p2:Option Addr) (n4:Int) (p5:Option Addr) (ds:Ds) (w:World):Prop:=
 ptrE p0 λa31=>
 ∃n23,w.cell? (a31.add 1)=some (.int .i64 n23)/\
 Calls prog 187 #[.pointer p0,.int .i64 n23,.int .u8 1] w λe w32=>
 ∃b24:Bool,e=.returned (.bool b24)/\
 Br b24 (
 ptrE p0 λa33=>
 ∃n36,w32.cell? (a33.add 1)=some (.int .i64 n36)/\
 ptrE p0 λa34=>
 st1 (a34.add 1) (.int .i64 (IntKind.i64.wrap (n36+1))) w32 λw35=>
 J1 () w35) (
 ptrE p0 λa36=>
 ∃n30,w32.cell? (a36.add 1)=some (.int .i64 n30)/\
 Calls prog 187 #[.pointer p0,.int .i64 n30,.int .u8 2] w32 λe w37=>
 ∃b31:Bool,e=.returned (.bool b31)/\
 Br b31 (
 ptrE p0 λa38=>
 ∃n36,w37.cell? (a38.add 1)=some (.int .i64 n36)/\
 ptrE p0 λa39=>
 st1 (a39.add 1) (.int .i64 (IntKind.i64.wrap (n36+1))) w37 λw40=>
 J1 () w40) (
 F170_2 R p0 p2 n4 p5 ds w37))
def F170_4(R:Rt)(p0 p2:Option Addr)(n4:Int)(p5:Option Addr)(ds:Ds)(w:World):Prop:=
 loopT (λ(J1:(Unit)->World->Prop) (_:Unit) (w:World)=>F170_3 R J1 p0 p2 n4 p5 ds w) () w
def F170_6(R:Rt)(p0 p2:Option Addr)(n4:Int)(p5:Option Addr)(ds:Ds)(w:World):Prop:=
 dwE w λw41=>
 ∃S3:World->Prop,S3 w41/\
 ptrE p0 λa42=>
 ∃s77,(∀w',S3 w'->w'.cell? a42=some (.string s77))/\
 ptrE p0 λa43=>
 ∃n82,(∀w',S3 w'->w'.cell? (a43.add 1)=some (.int .i64 n82))/\
 0<=n82/\n82.toNat<=s77.size/\0<=n4/\n4.toNat<=n82.toNat/\
 ptrE p5 λa44=>
 st1 a44 (.int .i64 1) w41 λw45=>
 S3 w45/\
 ptrE p5 λa46=>
 st1 (a46.add 2) (.string (s77.extract n4.toNat n82.toNat)) w45 λw47=>
 dwE w47 λw48=>
 ∃S4:World->Prop,S4 w48/\
 ptrE p5 λa49=>
 ∃n86_0,(∀w',S4 w'->w'.cell? (a49.add 0)=some (.int .i64 n86_0))/\
 ∃n86_1,(∀w',S4 w'->w'.cell? (a49.add 1)=some (.int .i64 n86_1))/\
 ∃s86_2,(∀w',S4 w'->w'.cell? (a49.add 2)=some (.string s86_2))/\
 ptrE p5 λa50=>
 ∃n88_0,(∀w',S4 w'->w'.cell? (a50.add 0)=some (.int .i64 n88_0))/\
 ∃n88_1,(∀w',S4 w'->w'.cell? (a50.add 1)=some (.int .i64 n88_1))/\
 ∃s88_2,(∀w',S4 w'->w'.cell? (a50.add 2)=some (.string s88_2))/\
 Calls prog 189 #[.pointer p0,.agg #[.int .i64 n88_0,.int .i64 n88_1,.string s88_2],.int .i64 15] w48 λe w51=>
 ∃b89:Bool,e=.returned (.bool b89)/\
 S4 w51/\
 ptrE p2 λa52=>
 stA prog 30 a52 #[.int .i64 n86_0,.int .i64 n86_1,.string s86_2] w51 λw53=>
 runD prog ds w53 λw54=>
 ptrE p2 λa55=>
 ∃nR0_0,w54.cell? (a55.add 0)=some (.int .i64 nR0_0)/\
 ∃nR0_1,w54.cell? (a55.add 1)=some (.int .i64 nR0_1)/\
 ∃sR0_2,w54.cell? (a55.add 2)=some (.string sR0_2)/\
 R (.returned (.tuple #[.agg #[.int .i64 nR0_0,.int .i64 nR0_1,.string sR0_2],.bool b89])) w54
def F170_7 (R:Rt) (J1:(Unit)->World->Prop) (p0 p2:Option Addr) (n4:Int) (p5:Option Addr) (ds:Ds) (w:World):Prop:=
 ptrE p0 λa56=>
 ∃n65,w.cell? (a56.add 1)=some (.int .i64 n65)/\
 Calls prog 187 #[.pointer p0,.int .i64 n65,.int .u8 2] w λe w57=>
 ∃b66:Bool,e=.returned (.bool b66)/\
 Br b66 (
 ptrE p0 λa58=>
 ∃n70,w57.cell? (a58.add 1)=some (.int .i64 n70)/\
 ptrE p0 λa59=>
 st1 (a59.add 1) (.int .i64 (IntKind.i64.wrap (n70+1))) w57 λw60=>
 J1 () w60) (
 F170_6 R p0 p2 n4 p5 ds w57)
def F170_8(R:Rt)(p0 p2:Option Addr)(n4:Int)(p5:Option Addr)(ds:Ds)(w:World):Prop:=
 loopT (λ(J1:(Unit)->World->Prop) (_:Unit) (w:World)=>F170_7 R J1 p0 p2 n4 p5 ds w) () w
def F170_10(R:Rt)(p0 p2:Option Addr)(n4:Int)(p5:Option Addr)(ds:Ds)(w:World):Prop:=
 ptrE p0 λa61=>
 ∃s94,w.cell? a61=some (.string s94)/\
 ∃b96:UInt8,0<=n4/\s94[n4.toNat]?=some b96/\
 Br ((b96.toNat:Int) == 34) (
 ptrE p5 λa62=>
 ∃n108_0,w.cell? (a62.add 0)=some (.int .i64 n108_0)/\
 ∃n108_1,w.cell? (a62.add 1)=some (.int .i64 n108_1)/\
 ∃s108_2,w.cell? (a62.add 2)=some (.string s108_2)/\
 Calls prog 190 #[.pointer p0,.agg #[.int .i64 n108_0,.int .i64 n108_1,.string s108_2]] w λe w63=>
 ∃n109_0_0:Int,∃n109_0_1:Int,∃s109_0_2:ByteArray,∃b109_1:Bool,e=.returned (.tuple #[.agg #[.int .i64 n109_0_0,.int .i64 n109_0_1,.string s109_0_2],.bool b109_1])/\
 ptrE p2 λa64=>
 stA prog 30 a64 #[.int .i64 n109_0_0,.int .i64 n109_0_1,.string s109_0_2] w63 λw65=>
 runD prog ds w65 λw66=>
 ptrE p2 λa67=>
 ∃nR0_0,w66.cell? (a67.add 0)=some (.int .i64 nR0_0)/\
 ∃nR0_1,w66.cell? (a67.add 1)=some (.int .i64 nR0_1)/\
 ∃sR0_2,w66.cell? (a67.add 2)=some (.string sR0_2)/\
 R (.returned (.tuple #[.agg #[.int .i64 nR0_0,.int .i64 nR0_1,.string sR0_2],.bool b109_1])) w66) (
 ptrE p0 λa68=>
 ∃s102,w.cell? a68=some (.string s102)/\
 ∃b104:UInt8,0<=n4/\s102[n4.toNat]?=some b104/\
 Br ((b104.toNat:Int) == 39) (
 ptrE p5 λa69=>
 ∃n108_0,w.cell? (a69.add 0)=some (.int .i64 n108_0)/\
 ∃n108_1,w.cell? (a69.add 1)=some (.int .i64 n108_1)/\
 ∃s108_2,w.cell? (a69.add 2)=some (.string s108_2)/\
 Calls prog 190 #[.pointer p0,.agg #[.int .i64 n108_0,.int .i64 n108_1,.string s108_2]] w λe w70=>
 ∃n109_0_0:Int,∃n109_0_1:Int,∃s109_0_2:ByteArray,∃b109_1:Bool,e=.returned (.tuple #[.agg #[.int .i64 n109_0_0,.int .i64 n109_0_1,.string s109_0_2],.bool b109_1])/\
 ptrE p2 λa71=>
 stA prog 30 a71 #[.int .i64 n109_0_0,.int .i64 n109_0_1,.string s109_0_2] w70 λw72=>
 runD prog ds w72 λw73=>
 ptrE p2 λa74=>
 ∃nR0_0,w73.cell? (a74.add 0)=some (.int .i64 nR0_0)/\
 ∃nR0_1,w73.cell? (a74.add 1)=some (.int .i64 nR0_1)/\
 ∃sR0_2,w73.cell? (a74.add 2)=some (.string sR0_2)/\
 R (.returned (.tuple #[.agg #[.int .i64 nR0_0,.int .i64 nR0_1,.string sR0_2],.bool b109_1])) w73) (
 F170_1 R p0 p2 n4 p5 ds w))
def F170_11(R:Rt)(p0 p2:Option Addr)(n4:Int)(p5:Option Addr)(b57:Bool)(ds:Ds)(w:World):Prop:=
 Br b57 (
 F170_8 R p0 p2 n4 p5 ds w) (
 F170_10 R p0 p2 n4 p5 ds w)
def F170_12(R:Rt)(p0 p2:Option Addr)(n4:Int)(p5:Option Addr)(ds:Ds)(w:World):Prop:=
 Calls prog 187 #[.pointer p0,.int .i64 n4,.int .u8 2] w λe w75=>
 ∃b60:Bool,e=.returned (.bool b60)/\
 F170_11 R p0 p2 n4 p5 b60 ds w75
def F170_13(R:Rt)(p0 p2:Option Addr)(n4:Int)(p5:Option Addr)(b15:Bool)(ds:Ds)(w:World):Prop:=
 Br b15 (
 F170_4 R p0 p2 n4 p5 ds w) (
 F170_12 R p0 p2 n4 p5 ds w)
def F170_14(R:Rt)(p0 p2:Option Addr)(n4:Int)(p5:Option Addr)(ds:Ds)(w:World):Prop:=
 Calls prog 187 #[.pointer p0,.int .i64 n4,.int .u8 1] w λe w76=>
 ∃b18:Bool,e=.returned (.bool b18)/\
 F170_13 R p0 p2 n4 p5 b18 ds w76
def F170_16(R:Rt)(p0:Option Addr)(ds:Ds)(w:World):Prop:=
 alE (.cells #[.int .i64 0,.int .i64 0,.string (⟨#[]⟩:ByteArray)] 30) w λr2 w77=>
 ptrE p0 λa78=>
 ∃n12,w77.cell? (a78.add 1)=some (.int .i64 n12)/\
 alE (.cells #[.int .i64 0,.int .i64 0,.string (⟨#[]⟩:ByteArray)] 30) w77 λr5 w79=>
 stA prog 30 (⟨r5,0,none⟩:Addr) #[.int .i64 0,.int .i64 n12,.string (⟨#[]⟩:ByteArray)] w79 λw80=>
 F170_14 R p0 (some (⟨r2,0,none⟩:Addr)) n12 (some (⟨r5,0,none⟩:Addr)) ds w80
theorem F170_p:Pl prog f170 [pS 0] F170_16:=λR=>
  pc 3 (rest [pS 0,pS 2,iS 4,pS 5] (F170_14 R) (bk 0 (rest [pS 0,pS 2,iS 4,pS 5] (F170_1 R) lf) (pc 1 (rest [pS 0,pS 2,iS 4,pS 5,bS 15] (F170_13 R) (cd 15 [pS 0,pS 2,iS 4,pS 5] (F170_4 R) [pS 0,pS 2,iS 4,pS 5] (F170_12 R) rnil (bk 1 (rest [pS 0,pS 2,iS 4,pS 5] (F170_2 R) lf) (lp [] [pS 0,pS 2,iS 4,pS 5] (F170_3 R) rnil λJ1=>lf)) (pc 1 (rest [pS 0,pS 2,iS 4,pS 5,bS 57] (F170_11 R) (cd 57 [pS 0,pS 2,iS 4,pS 5] (F170_8 R) [pS 0,pS 2,iS 4,pS 5] (F170_10 R) rnil (bk 3 (rest [pS 0,pS 2,iS 4,pS 5] (F170_6 R) lf) (lp [] [pS 0,pS 2,iS 4,pS 5] (F170_7 R) rnil λJ1=>lf)) lf))))))))
theorem F170_calls (p0:Option Addr) (w:World) (R:Rt) (h:F170_16 R p0 [] w):Calls prog 170 #[.pointer p0] w R:=
  plC F170_p func170 h
def F189_1(R:Rt)(p0:Option Addr)(n1_0 n1_1:Int)(s1_2:ByteArray)(n2:Int)(ds:Ds)(w:World):Prop:=
 alE (.cells #[.int .i64 n1_0,.int .i64 n1_1,.string s1_2] 30) w λr4 w1=>
 ∃s8,w1.cell? ((⟨r4,0,none⟩:Addr).add 2)=some (.string s8)/\
 Br (decide ((s8.size:Int) > n2)) (
 ∃n14,w1.cell? ((⟨r4,0,none⟩:Addr).add 1)=some (.int .i64 n14)/\
 ptrE p0 λa2=>
 st1 (a2.add 260) (.int .i64 n14) w1 λw3=>
 runD prog ds w3 λw4=>
 R (.returned (.bool false)) w4) (
 runD prog ds w1 λw5=>
 R (.returned (.bool true)) w5)
theorem F189_p:Pl prog f189 [pS 0,aS 1 [.int .i64,.int .i64,.str],iS 2] F189_1:=λR=>
  lf
theorem F189_calls (p0:Option Addr) (n1_0 n1_1:Int) (s1_2:ByteArray) (n2:Int) (w:World) (R:Rt) (h:F189_1 R p0 n1_0 n1_1 s1_2 n2 [] w):Calls prog 189 #[.pointer p0,.agg #[.int .i64 n1_0,.int .i64 n1_1,.string s1_2],.int .i64 n2] w R:=
  plC F189_p func189 h
def F190_1(R:Rt)(p0 p3 p4:Option Addr)(n7:Int)(ds:Ds)(w:World):Prop:=
 ptrE p0 λa1=>
 ∃n96,w.cell? (a1.add 1)=some (.int .i64 n96)/\
 ptrE p0 λa2=>
 st1 (a2.add 1) (.int .i64 (IntKind.i64.wrap (n96+(IntKind.i64.wrap (n7+2))))) w λw3=>
 ptrE p3 λa4=>
 ∃n102_0,w3.cell? (a4.add 0)=some (.int .i64 n102_0)/\
 ∃n102_1,w3.cell? (a4.add 1)=some (.int .i64 n102_1)/\
 ∃s102_2,w3.cell? (a4.add 2)=some (.string s102_2)/\
 ptrE p4 λa5=>
 stA prog 30 a5 #[.int .i64 n102_0,.int .i64 n102_1,.string s102_2] w3 λw6=>
 runD prog ds w6 λw7=>
 ptrE p4 λa8=>
 ∃nR0_0,w7.cell? (a8.add 0)=some (.int .i64 nR0_0)/\
 ∃nR0_1,w7.cell? (a8.add 1)=some (.int .i64 nR0_1)/\
 ∃sR0_2,w7.cell? (a8.add 2)=some (.string sR0_2)/\
 R (.returned (.tuple #[.agg #[.int .i64 nR0_0,.int .i64 nR0_1,.string sR0_2],.bool true])) w7
def F190_2 (R:Rt) (J1:(Int)->World->Prop) (p0 p3 p4:Option Addr) (n7 n67 n68:Int) (ds:Ds) (w:World):Prop:=
 Br (decide (n68<n67)) (
 dwE w λw9=>
 ptrE p3 λa10=>
 ∃s73,w9.cell? (a10.add 2)=some (.string s73)/\
 ∃b75:UInt8,0<=n68/\s73[n68.toNat]?=some b75/\
 ptrE p0 λa11=>
 0<=(b75.toNat:Int)/\(b75.toNat:Int)<(256:Int)/\
 ∃n79,w9.cell? ((a11.add 2).add ((b75.toNat:Int).toNat * 1))=some (.int .u8 n79)/\
 Br (n79 == 4) (
 ptrE p0 λa12=>
 ∃n85,w9.cell? (a12.add 1)=some (.int .i64 n85)/\
 ptrE p0 λa13=>
 st1 (a13.add 260) (.int .i64 (IntKind.i64.wrap ((IntKind.i64.wrap (n85+1))+n68))) w9 λw14=>
 ptrE p3 λa15=>
 ∃n91_0,w14.cell? (a15.add 0)=some (.int .i64 n91_0)/\
 ∃n91_1,w14.cell? (a15.add 1)=some (.int .i64 n91_1)/\
 ∃s91_2,w14.cell? (a15.add 2)=some (.string s91_2)/\
 ptrE p4 λa16=>
 stA prog 30 a16 #[.int .i64 n91_0,.int .i64 n91_1,.string s91_2] w14 λw17=>
 runD prog ds w17 λw18=>
 ptrE p4 λa19=>
 ∃nR0_0,w18.cell? (a19.add 0)=some (.int .i64 nR0_0)/\
 ∃nR0_1,w18.cell? (a19.add 1)=some (.int .i64 nR0_1)/\
 ∃sR0_2,w18.cell? (a19.add 2)=some (.string sR0_2)/\
 R (.returned (.tuple #[.agg #[.int .i64 nR0_0,.int .i64 nR0_1,.string sR0_2],.bool false])) w18) (
 J1 (IntKind.i64.wrap (n68+1)) w9)) (
 F190_1 R p0 p3 p4 n7 ds w)
def F190_3(R:Rt)(p0 p3 p4:Option Addr)(n7 n67 n68:Int)(ds:Ds)(w:World):Prop:=
 loopT (λ(J1:(Int)->World->Prop) (s:Int) (w:World)=>F190_2 R J1 p0 p3 p4 n7 n67 s ds w) n68 w
def F190_5(R:Rt)(p0:Option Addr)(n1_0 n1_1:Int)(s1_2:ByteArray)(ds:Ds)(w:World):Prop:=
 alE (.cells #[.int .i64 n1_0,.int .i64 n1_1,.string s1_2] 30) w λr3 w20=>
 alE (.cells #[.int .i64 0,.int .i64 0,.string (⟨#[]⟩:ByteArray)] 30) w20 λr4 w21=>
 ptrE p0 λa22=>
 ∃n13,w21.cell? (a22.add 1)=some (.int .i64 n13)/\
 Calls prog 188 #[.pointer p0,.int .i64 n13] w21 λe w23=>
 ∃n14:Int,e=.returned (.int .i64 n14)/\
 dwE w23 λw24=>
 ptrE p0 λa25=>
 ∃s18,w24.cell? a25=some (.string s18)/\
 ptrE p0 λa26=>
 ∃n22,w24.cell? (a26.add 1)=some (.int .i64 n22)/\
 0<=n14/\n14.toNat<=s18.size/\0<=(IntKind.i64.wrap (n22+1))/\(IntKind.i64.wrap (n22+1)).toNat<=n14.toNat/\
 ptrE p0 λa27=>
 ∃s29,w24.cell? a27=some (.string s29)/\
 ptrE p0 λa28=>
 ∃n33,w24.cell? (a28.add 1)=some (.int .i64 n33)/\
 ∃b34:UInt8,0<=n33/\s29[n33.toNat]?=some b34/\
 Calls prog 112 #[.string (s18.extract ((IntKind.i64.wrap (n22+1)).toNat) n14.toNat),.int .u8 (b34.toNat:Int)] w24 λe w29=>
 ∃n35:Int,e=.returned (.int .i64 n35)/\
 Br (decide (n35<0)) (
 ptrE p0 λa30=>
 ∃n42,w29.cell? (a30.add 1)=some (.int .i64 n42)/\
 ptrE p0 λa31=>
 st1 (a31.add 260) (.int .i64 n42) w29 λw32=>
 ∃n45_0,w32.cell? ((⟨r3,0,none⟩:Addr).add 0)=some (.int .i64 n45_0)/\
 ∃n45_1,w32.cell? ((⟨r3,0,none⟩:Addr).add 1)=some (.int .i64 n45_1)/\
 ∃s45_2,w32.cell? ((⟨r3,0,none⟩:Addr).add 2)=some (.string s45_2)/\
 stA prog 30 (⟨r4,0,none⟩:Addr) #[.int .i64 n45_0,.int .i64 n45_1,.string s45_2] w32 λw33=>
 runD prog ds w33 λw34=>
 ∃nR0_0,w34.cell? ((⟨r4,0,none⟩:Addr).add 0)=some (.int .i64 nR0_0)/\
 ∃nR0_1,w34.cell? ((⟨r4,0,none⟩:Addr).add 1)=some (.int .i64 nR0_1)/\
 ∃sR0_2,w34.cell? ((⟨r4,0,none⟩:Addr).add 2)=some (.string sR0_2)/\
 R (.returned (.tuple #[.agg #[.int .i64 nR0_0,.int .i64 nR0_1,.string sR0_2],.bool false])) w34) (
 dwE w29 λw35=>
 ∃S3:World->Prop,S3 w35/\
 ptrE p0 λa36=>
 ∃s49,(∀w',S3 w'->w'.cell? a36=some (.string s49))/\
 ptrE p0 λa37=>
 ∃n53,(∀w',S3 w'->w'.cell? (a37.add 1)=some (.int .i64 n53))/\
 ptrE p0 λa38=>
 ∃n58,(∀w',S3 w'->w'.cell? (a38.add 1)=some (.int .i64 n58))/\
 0<=(IntKind.i64.wrap ((IntKind.i64.wrap (n58+1))+n35))/\(IntKind.i64.wrap ((IntKind.i64.wrap (n58+1))+n35)).toNat<=s49.size/\0<=(IntKind.i64.wrap (n53+1))/\(IntKind.i64.wrap (n53+1)).toNat<=(IntKind.i64.wrap ((IntKind.i64.wrap (n58+1))+n35)).toNat/\
 st1 (⟨r3,0,none⟩:Addr) (.int .i64 2) w35 λw39=>
 S3 w39/\
 st1 ((⟨r3,0,none⟩:Addr).add 2) (.string (s49.extract ((IntKind.i64.wrap (n53+1)).toNat) ((IntKind.i64.wrap ((IntKind.i64.wrap (n58+1))+n35)).toNat))) w39 λw40=>
 ∃s66,w40.cell? ((⟨r3,0,none⟩:Addr).add 2)=some (.string s66)/\
 F190_3 R p0 (some (⟨r3,0,none⟩:Addr)) (some (⟨r4,0,none⟩:Addr)) n35 (s66.size:Int) 0 ds w40)
theorem F190_p:Pl prog f190 [pS 0,aS 1 [.int .i64,.int .i64,.str]] F190_5:=λR=>
  pc 7 (rest [pS 0,pS 3,pS 4,iS 7,iS 67,iS 68] (F190_3 R) (bk 0 (rest [pS 0,pS 3,pS 4,iS 7] (F190_1 R) lf) (lp [iS 68] [pS 0,pS 3,pS 4,iS 7,iS 67,iS 68] (F190_2 R) rnil λJ1=>lf)))
theorem F190_calls (p0:Option Addr) (n1_0 n1_1:Int) (s1_2:ByteArray) (w:World) (R:Rt) (h:F190_5 R p0 n1_0 n1_1 s1_2 [] w):Calls prog 190 #[.pointer p0,.agg #[.int .i64 n1_0,.int .i64 n1_1,.string s1_2]] w R:=
  plC F190_p func190 h
def F191_1(R:Rt)(s5:ByteArray)(b42:Bool)(ds:Ds)(w:World):Prop:=
 Br b42 (
 runD prog ds w λw1=>
 R (.returned (.tuple #[.string (⟨#[]⟩:ByteArray),.int .i64 0,.bool false])) w1) (
 dwE w λw2=>
 0<=(6:Int)/\(6:Int).toNat<=s5.size/\0<=(2:Int)/\(2:Int).toNat<=(6:Int).toNat/\
 0<=(9:Int)/\(9:Int).toNat<=s5.size/\0<=(7:Int)/\(7:Int).toNat<=(9:Int).toNat/\
 (((s5.extract ((2:Int).toNat) ((6:Int).toNat)).size+(s5.extract ((7:Int).toNat) ((9:Int).toNat)).size:Nat):Int)<=9223372036854775807/\
 0<=(12:Int)/\(12:Int).toNat<=s5.size/\0<=(10:Int)/\(10:Int).toNat<=(12:Int).toNat/\
 ((((s5.extract ((2:Int).toNat) ((6:Int).toNat)) ++ (s5.extract ((7:Int).toNat) ((9:Int).toNat))).size+(s5.extract ((10:Int).toNat) ((12:Int).toNat)).size:Nat):Int)<=9223372036854775807/\
 Calls prog 202 #[.string (((s5.extract ((2:Int).toNat) ((6:Int).toNat)) ++ (s5.extract ((7:Int).toNat) ((9:Int).toNat))) ++ (s5.extract ((10:Int).toNat) ((12:Int).toNat)))] w2 λe w3=>
 ∃n53_0:Int,∃b53_1:Bool,e=.returned (.tuple #[.int .i64 n53_0,.bool b53_1])/\
 Br b53_1 (
 runD prog ds w3 λw4=>
 R (.returned (.tuple #[.string (((s5.extract ((2:Int).toNat) ((6:Int).toNat)) ++ (s5.extract ((7:Int).toNat) ((9:Int).toNat))) ++ (s5.extract ((10:Int).toNat) ((12:Int).toNat))),.int .i64 13,.bool (!((((s5.extract ((2:Int).toNat) ((6:Int).toNat)) ++ (s5.extract ((7:Int).toNat) ((9:Int).toNat))) ++ (s5.extract ((10:Int).toNat) ((12:Int).toNat))).toList == (⟨#[32,32,32,32,32,32,32,32]⟩:ByteArray).toList))])) w4) (
 runD prog ds w3 λw5=>
 R (.returned (.tuple #[.string (((s5.extract ((2:Int).toNat) ((6:Int).toNat)) ++ (s5.extract ((7:Int).toNat) ((9:Int).toNat))) ++ (s5.extract ((10:Int).toNat) ((12:Int).toNat))),.int .i64 13,.bool false])) w5))
def F191_2(R:Rt)(p0:Option Addr)(ds:Ds)(w:World):Prop:=
 dwE w λw6=>
 ptrE p0 λa7=>
 ∃s12,w6.cell? a7=some (.string s12)/\
 ptrE p0 λa8=>
 ∃n16,w6.cell? (a8.add 1)=some (.int .i64 n16)/\
 s12.size<=s12.size/\0<=n16/\n16.toNat<=s12.size/\
 Calls prog 41 #[.string (s12.extract n16.toNat s12.size),.string (⟨#[123,125]⟩:ByteArray)] w6 λe w9=>
 ∃b19:Bool,e=.returned (.bool b19)/\
 Br b19 (
 runD prog ds w9 λw10=>
 R (.returned (.tuple #[.string (⟨#[]⟩:ByteArray),.int .i64 2,.bool true])) w10) (
 Br (decide ((((s12.extract n16.toNat s12.size).size:Nat):Int)<13)) (
 F191_1 R (s12.extract n16.toNat s12.size) true ds w9) (
 0<=(2:Int)/\(2:Int).toNat<=(s12.extract n16.toNat s12.size).size/\0<=(2:Int).toNat/\
 Br (!(((s12.extract n16.toNat s12.size).extract 0 ((2:Int).toNat)).toList == (⟨#[123,94]⟩:ByteArray).toList)) (
 F191_1 R (s12.extract n16.toNat s12.size) true ds w9) (
 ∃b30:UInt8,0<=(6:Int)/\(s12.extract n16.toNat s12.size)[(6:Int).toNat]?=some b30/\
 Br ((b30.toNat:Int) != 45) (
 F191_1 R (s12.extract n16.toNat s12.size) true ds w9) (
 ∃b35:UInt8,0<=(9:Int)/\(s12.extract n16.toNat s12.size)[(9:Int).toNat]?=some b35/\
 Br ((b35.toNat:Int) != 45) (
 F191_1 R (s12.extract n16.toNat s12.size) true ds w9) (
 ∃b40:UInt8,0<=(12:Int)/\(s12.extract n16.toNat s12.size)[(12:Int).toNat]?=some b40/\
 F191_1 R (s12.extract n16.toNat s12.size) ((b40.toNat:Int) != 125) ds w9)))))
theorem F191_p:Pl prog f191 [pS 0] F191_2:=λR=>
  pc 5 (rest [sS 5,bS 42] (F191_1 R) lf)
theorem F191_calls (p0:Option Addr) (w:World) (R:Rt) (h:F191_2 R p0 [] w):Calls prog 191 #[.pointer p0] w R:=
  plC F191_p func191 h
def F192_1(R:Rt)(p0 p3 p4:Option Addr)(ds:Ds)(w:World):Prop:=
 ptrE p0 λa1=>
 ∃n57,w.cell? (a1.add 1)=some (.int .i64 n57)/\
 ptrE p0 λa2=>
 st1 (a2.add 260) (.int .i64 n57) w λw3=>
 ptrE p3 λa4=>
 ∃n60_0,w3.cell? (a4.add 0)=some (.int .i64 n60_0)/\
 ∃n60_1,w3.cell? (a4.add 1)=some (.int .i64 n60_1)/\
 ∃s60_2,w3.cell? (a4.add 2)=some (.string s60_2)/\
 ptrE p4 λa5=>
 stA prog 30 a5 #[.int .i64 n60_0,.int .i64 n60_1,.string s60_2] w3 λw6=>
 runD prog ds w6 λw7=>
 ptrE p4 λa8=>
 ∃nR0_0,w7.cell? (a8.add 0)=some (.int .i64 nR0_0)/\
 ∃nR0_1,w7.cell? (a8.add 1)=some (.int .i64 nR0_1)/\
 ∃sR0_2,w7.cell? (a8.add 2)=some (.string sR0_2)/\
 R (.returned (.tuple #[.agg #[.int .i64 nR0_0,.int .i64 nR0_1,.string sR0_2],.bool false])) w7
def F192_2 (R:Rt) (J1:(Int)->World->Prop) (p0 p3 p4:Option Addr) (l10:SV) (n11 n12:Int) (ds:Ds) (w:World):Prop:=
 Br (decide (n12<n11)) (
 ∃a9,l10.a=some a9/\0<=n12/\n12<(l10.len:Int)/\
 ∃s15,w.cell? (a9.add (n12.toNat * 1))=some (.string s15)/\
 ptrE p0 λa10=>
 ∃n19,w.cell? (a10.add 1)=some (.int .i64 n19)/\
 dwE w λw11=>
 ptrE p0 λa12=>
 ∃s27,w11.cell? a12=some (.string s27)/\
 Br (decide ((IntKind.i64.wrap (n19+(s15.size:Int)))<=(s27.size:Int))) (
 ptrE p0 λa13=>
 ∃s34,w11.cell? a13=some (.string s34)/\
 ptrE p0 λa14=>
 ∃n38,w11.cell? (a14.add 1)=some (.int .i64 n38)/\
 0<=(IntKind.i64.wrap (n19+(s15.size:Int)))/\(IntKind.i64.wrap (n19+(s15.size:Int))).toNat<=s34.size/\0<=n38/\n38.toNat<=(IntKind.i64.wrap (n19+(s15.size:Int))).toNat/\
 Calls prog 80 #[.string (s34.extract n38.toNat ((IntKind.i64.wrap (n19+(s15.size:Int))).toNat))] w11 λe w15=>
 ∃s41:ByteArray,e=.returned (.string s41)/\
 Br (s41.toList == s15.toList) (
 ptrE p3 λa16=>
 st1 (a16.add 2) (.string s15) w15 λw17=>
 ptrE p0 λa18=>
 st1 (a18.add 1) (.int .i64 (IntKind.i64.wrap (n19+(s15.size:Int)))) w17 λw19=>
 ptrE p3 λa20=>
 ∃n51_0,w19.cell? (a20.add 0)=some (.int .i64 n51_0)/\
 ∃n51_1,w19.cell? (a20.add 1)=some (.int .i64 n51_1)/\
 ∃s51_2,w19.cell? (a20.add 2)=some (.string s51_2)/\
 ptrE p4 λa21=>
 stA prog 30 a21 #[.int .i64 n51_0,.int .i64 n51_1,.string s51_2] w19 λw22=>
 runD prog ds w22 λw23=>
 ptrE p4 λa24=>
 ∃nR0_0,w23.cell? (a24.add 0)=some (.int .i64 nR0_0)/\
 ∃nR0_1,w23.cell? (a24.add 1)=some (.int .i64 nR0_1)/\
 ∃sR0_2,w23.cell? (a24.add 2)=some (.string sR0_2)/\
 R (.returned (.tuple #[.agg #[.int .i64 nR0_0,.int .i64 nR0_1,.string sR0_2],.bool true])) w23) (
 J1 (IntKind.i64.wrap (n12+1)) w15)) (
 J1 (IntKind.i64.wrap (n12+1)) w11)) (
 F192_1 R p0 p3 p4 ds w)
def F192_3(R:Rt)(p0 p3 p4:Option Addr)(l10:SV)(n11 n12:Int)(ds:Ds)(w:World):Prop:=
 loopT (λ(J1:(Int)->World->Prop) (s:Int) (w:World)=>F192_2 R J1 p0 p3 p4 l10 n11 s ds w) n12 w
def F192_5(R:Rt)(p0:Option Addr)(n1_0 n1_1:Int)(s1_2:ByteArray)(ds:Ds)(w:World):Prop:=
 alE (.cells #[.int .i64 n1_0,.int .i64 n1_1,.string s1_2] 30) w λr3 w25=>
 alE (.cells #[.int .i64 0,.int .i64 0,.string (⟨#[]⟩:ByteArray)] 30) w25 λr4 w26=>
 st1 (⟨r3,0,none⟩:Addr) (.int .i64 4) w26 λw27=>
 Calls prog 203 #[] w27 λe w28=>
 ∃l10:SV,e=.returned (.slice l10.a l10.len l10.cap)/\
 F192_3 R p0 (some (⟨r3,0,none⟩:Addr)) (some (⟨r4,0,none⟩:Addr)) l10 (l10.len:Int) 0 ds w28
theorem F192_p:Pl prog f192 [pS 0,aS 1 [.int .i64,.int .i64,.str]] F192_5:=λR=>
  pc 3 (rest [pS 0,pS 3,pS 4,lS 10,iS 11,iS 12] (F192_3 R) (bk 0 (rest [pS 0,pS 3,pS 4] (F192_1 R) lf) (lp [iS 12] [pS 0,pS 3,pS 4,lS 10,iS 11,iS 12] (F192_2 R) rnil λJ1=>lf)))
theorem F192_calls (p0:Option Addr) (n1_0 n1_1:Int) (s1_2:ByteArray) (w:World) (R:Rt) (h:F192_5 R p0 n1_0 n1_1 s1_2 [] w):Calls prog 192 #[.pointer p0,.agg #[.int .i64 n1_0,.int .i64 n1_1,.string s1_2]] w R:=
  plC F192_p func192 h
def F203_1(R:Rt)(ds:Ds)(w:World):Prop:=
 alE (.cells #[.string (⟨#[46,78,85,76,76,46]⟩:ByteArray),.string (⟨#[46,65,78,68,46]⟩:ByteArray),.string (⟨#[46,78,79,84,46]⟩:ByteArray),.string (⟨#[46,79,82,46]⟩:ByteArray),.string (⟨#[46,84,46]⟩:ByteArray),.string (⟨#[46,70,46]⟩:ByteArray),.string (⟨#[58,61]⟩:ByteArray),.string (⟨#[61,61]⟩:ByteArray),.string (⟨#[60,62]⟩:ByteArray),.string (⟨#[33,61]⟩:ByteArray),.string (⟨#[60,61]⟩:ByteArray),.string (⟨#[62,61]⟩:ByteArray),.string (⟨#[45,62]⟩:ByteArray),.string (⟨#[40]⟩:ByteArray),.string (⟨#[41]⟩:ByteArray),.string (⟨#[91]⟩:ByteArray),.string (⟨#[93]⟩:ByteArray),.string (⟨#[123]⟩:ByteArray),.string (⟨#[125]⟩:ByteArray),.string (⟨#[44]⟩:ByteArray),.string (⟨#[124]⟩:ByteArray),.string (⟨#[58]⟩:ByteArray),.string (⟨#[46]⟩:ByteArray),.string (⟨#[61]⟩:ByteArray),.string (⟨#[35]⟩:ByteArray),.string (⟨#[60]⟩:ByteArray),.string (⟨#[62]⟩:ByteArray),.string (⟨#[43]⟩:ByteArray),.string (⟨#[45]⟩:ByteArray),.string (⟨#[42]⟩:ByteArray),.string (⟨#[47]⟩:ByteArray),.string (⟨#[37]⟩:ByteArray),.string (⟨#[94]⟩:ByteArray),.string (⟨#[36]⟩:ByteArray),.string (⟨#[38]⟩:ByteArray),.string (⟨#[63]⟩:ByteArray),.string (⟨#[64]⟩:ByteArray),.string (⟨#[33]⟩:ByteArray)] 9) w λr1 w1=>
 runD prog ds w1 λw2=>
 R (.returned (.slice (some ⟨r1,0,none⟩) 38 38)) w2
theorem F203_p:Pl prog f203 [] F203_1:=λR=>
  lf
theorem F203_calls  (w:World) (R:Rt) (h:F203_1 R [] w):Calls prog 203 #[] w R:=
  plC F203_p func203 h
end Go.Proofs.YtjbfehippchniaaGreatDoor

/- Shallow texts of functions, printed by program, each checked by the kernel against the loaded code. No condition. -/
set_option maxRecDepth 100000
set_option linter.unusedVariables false
namespace Go.Proofs.YtjbfehippchniaaGreatDoor
open Go.Sh Tryz
def F210_1(R:Rt)(n0:Int)(ds:Ds)(w:World):Prop:=
 IntKind.i64=IntKind.i64/\(4:Int) ≠ 0/\
 Br ((n0.tmod 4) == 0) (
 IntKind.i64=IntKind.i64/\(100:Int) ≠ 0/\
 Br ((n0.tmod 100) != 0) (
 runD prog ds w λw1=>
 R (.returned (.bool true)) w1) (
 IntKind.i64=IntKind.i64/\(400:Int) ≠ 0/\
 runD prog ds w λw2=>
 R (.returned (.bool ((n0.tmod 400) == 0))) w2)) (
 runD prog ds w λw3=>
 R (.returned (.bool false)) w3)
theorem F210_p:Pl prog f210 [iS 0] F210_1:=λR=>
  lf
theorem F210_calls (n0:Int) (w:World) (R:Rt) (h:F210_1 R n0 [] w):Calls prog 210 #[.int .i64 n0] w R:=
  plC F210_p func210 h
def F207_1(R:Rt)(n0 n1:Int)(ds:Ds)(w:World):Prop:=
 alE (.cells #[.int .i64 0,.int .i64 0,.int .i64 0,.int .i64 0,.int .i64 0,.int .i64 0,.int .i64 0,.int .i64 0,.int .i64 0,.int .i64 0,.int .i64 0,.int .i64 0] 233) w λr5 w1=>
 stA prog 233 (⟨r5,0,none⟩:Addr) #[.int .i64 31,.int .i64 28,.int .i64 31,.int .i64 30,.int .i64 31,.int .i64 30,.int .i64 31,.int .i64 31,.int .i64 30,.int .i64 31,.int .i64 30,.int .i64 31] w1 λw2=>
 Br (n1 == 2) (
 Calls prog 210 #[.int .i64 n0] w2 λe w3=>
 ∃b11:Bool,e=.returned (.bool b11)/\
 Br b11 (
 runD prog ds w3 λw4=>
 R (.returned (.int .i64 29)) w4) (
 0<=(IntKind.i64.wrap (n1 - 1))/\(IntKind.i64.wrap (n1 - 1))<(12:Int)/\
 ∃n16,w3.cell? ((⟨r5,0,none⟩:Addr).add ((IntKind.i64.wrap (n1 - 1)).toNat * 1))=some (.int .i64 n16)/\
 runD prog ds w3 λw5=>
 R (.returned (.int .i64 n16)) w5)) (
 0<=(IntKind.i64.wrap (n1 - 1))/\(IntKind.i64.wrap (n1 - 1))<(12:Int)/\
 ∃n16,w2.cell? ((⟨r5,0,none⟩:Addr).add ((IntKind.i64.wrap (n1 - 1)).toNat * 1))=some (.int .i64 n16)/\
 runD prog ds w2 λw6=>
 R (.returned (.int .i64 n16)) w6)
theorem F207_p:Pl prog f207 [iS 0,iS 1] F207_1:=λR=>
  lf
theorem F207_calls (n0 n1:Int) (w:World) (R:Rt) (h:F207_1 R n0 n1 [] w):Calls prog 207 #[.int .i64 n0,.int .i64 n1] w R:=
  plC F207_p func207 h
def F208_1(R:Rt)(n0:Int)(ds:Ds)(w:World):Prop:=
 IntKind.i64=IntKind.i64/\(4:Int) ≠ 0/\
 IntKind.i64=IntKind.i64/\(100:Int) ≠ 0/\
 IntKind.i64=IntKind.i64/\(400:Int) ≠ 0/\
 runD prog ds w λw1=>
 R (.returned (.int .i64 (IntKind.i64.wrap ((IntKind.i64.wrap ((IntKind.i64.wrap ((IntKind.i64.wrap ((365:Int) * (IntKind.i64.wrap (n0 - 1))))+(IntKind.i64.wrap ((IntKind.i64.wrap (n0 - 1)).tdiv 4)))) - (IntKind.i64.wrap ((IntKind.i64.wrap (n0 - 1)).tdiv 100))))+(IntKind.i64.wrap ((IntKind.i64.wrap (n0 - 1)).tdiv 400)))))) w1
theorem F208_p:Pl prog f208 [iS 0] F208_1:=λR=>
  lf
theorem F208_calls (n0:Int) (w:World) (R:Rt) (h:F208_1 R n0 [] w):Calls prog 208 #[.int .i64 n0] w R:=
  plC F208_p func208 h
def F205_1(R:Rt)(n8:Int)(ds:Ds)(w:World):Prop:=
 runD prog ds w λw1=>
 R (.returned (.tuple #[.int .i64 n8,.int .i64 0])) w1
def F205_2 (R:Rt) (J1:(Int × Int)->World->Prop) (n0 n8 n40 n41:Int) (ds:Ds) (w:World):Prop:=
 Br (decide (n41<n40)) (
 Calls prog 207 #[.int .i64 n0,.int .i64 (IntKind.i64.wrap (n41+1))] w λe w2=>
 ∃n48:Int,e=.returned (.int .i64 n48)/\
 J1 ((IntKind.i64.wrap (n8+n48)),(IntKind.i64.wrap (n41+1))) w2) (
 F205_1 R n8 ds w)
def F205_3(R:Rt)(n0 n8 n40 n41:Int)(ds:Ds)(w:World):Prop:=
 loopT (λ(J1:(Int × Int)->World->Prop) (s:Int × Int) (w:World)=>F205_2 R J1 n0 s.1 n40 s.2 ds w) (n8,n41) w
def F205_5(R:Rt)(n0 n1 n2:Int)(b34:Bool)(ds:Ds)(w:World):Prop:=
 Br b34 (
 runD prog ds w λw3=>
 R (.returned (.tuple #[.int .i64 0,.int .i64 1])) w3) (
 Calls prog 208 #[.int .i64 n0] w λe w4=>
 ∃n36:Int,e=.returned (.int .i64 n36)/\
 F205_3 R n0 (IntKind.i64.wrap (n36+n2)) (IntKind.i64.wrap (n1 - 1)) 0 ds w4)
def F205_6(R:Rt)(n0 n1 n2:Int)(ds:Ds)(w:World):Prop:=
 Br (decide (n0<1)) (
 F205_5 R n0 n1 n2 true ds w) (
 Br (decide (n0 > 9999)) (
 F205_5 R n0 n1 n2 true ds w) (
 Br (decide (n1<1)) (
 F205_5 R n0 n1 n2 true ds w) (
 Br (decide (n1 > 12)) (
 F205_5 R n0 n1 n2 true ds w) (
 Br (decide (n2<1)) (
 F205_5 R n0 n1 n2 true ds w) (
 Calls prog 207 #[.int .i64 n0,.int .i64 n1] w λe w5=>
 ∃n32:Int,e=.returned (.int .i64 n32)/\
 F205_5 R n0 n1 n2 (decide (n2 > n32)) ds w5)))))
def F205_7(R:Rt)(n0 n1 n2:Int)(ds:Ds)(w:World):Prop:=
 F205_6 R n0 n1 n2 ds w
theorem F205_p:Pl prog f205 [iS 0,iS 1,iS 2] F205_7:=λR=>
  pc 1 (rest [iS 0,iS 1,iS 2] (F205_6 R) (pc 1 (rest [iS 0,iS 1,iS 2,bS 34] (F205_5 R) (pc 3 (rest [iS 0,iS 8,iS 40,iS 41] (F205_3 R) (bk 0 (rest [iS 8] (F205_1 R) lf) (lp [iS 8,iS 41] [iS 0,iS 8,iS 40,iS 41] (F205_2 R) rnil λJ1=>lf)))))))
theorem F205_calls (n0 n1 n2:Int) (w:World) (R:Rt) (h:F205_7 R n0 n1 n2 [] w):Calls prog 205 #[.int .i64 n0,.int .i64 n1,.int .i64 n2] w R:=
  plC F205_p func205 h
def F206_1(R:Rt)(n3 n4:Int)(ds:Ds)(w:World):Prop:=
 runD prog ds w λw1=>
 R (.returned (.int .i64 (IntKind.i64.wrap (n3 * n4)))) w1
def F206_2 (R:Rt) (J1:(Int × Int)->World->Prop) (s0:ByteArray) (n3 n4 n26 n27:Int) (ds:Ds) (w:World):Prop:=
 Br (decide (n27<n26)) (
 ∃b32:UInt8,0<=n27/\s0[n27.toNat]?=some b32/\
 Br (decide ((b32.toNat:Int)<48)) (
 F206_1 R n3 n4 ds w) (
 ∃b37:UInt8,0<=n27/\s0[n27.toNat]?=some b37/\
 Br (decide ((b37.toNat:Int) > 57)) (
 F206_1 R n3 n4 ds w) (
 ∃b44:UInt8,0<=n27/\s0[n27.toNat]?=some b44/\
 ∃n48:Int,∃w2,(Builtin.min_ #[3,3] 3 #[.int .i64 (IntKind.i64.wrap ((IntKind.i64.wrap (n4 * 10))+(IntKind.i64.wrap (IntKind.u8.wrap ((b44.toNat:Int) - 48))))),.int .i64 1000000000000000]).run prog w=.ok (.int .i64 n48) w2/\
 J1 (n48,(IntKind.i64.wrap (n27+1))) w2))) (
 F206_1 R n3 n4 ds w)
def F206_3(R:Rt)(s0:ByteArray)(n3 n4 n26 n27:Int)(ds:Ds)(w:World):Prop:=
 loopT (λ(J1:(Int × Int)->World->Prop) (s:Int × Int) (w:World)=>F206_2 R J1 s0 n3 s.1 n26 s.2 ds w) (n4,n27) w
def F206_5(R:Rt)(s0:ByteArray)(n3:Int)(ds:Ds)(w:World):Prop:=
 F206_3 R s0 n3 0 (s0.size:Int) 0 ds w
def F206_6(R:Rt)(s0:ByteArray)(ds:Ds)(w:World):Prop:=
 Calls prog 209 #[.string s0,.string (⟨#[32]⟩:ByteArray)] w λe w3=>
 ∃s7:ByteArray,e=.returned (.string s7)/\
 Br (!(s7.toList == (⟨#[]⟩:ByteArray).toList)) (
 ∃b12:UInt8,0<=(0:Int)/\s7[(0:Int).toNat]?=some b12/\
 Br ((b12.toNat:Int) == 45) (
 ∃b21:UInt8,0<=(0:Int)/\s7[(0:Int).toNat]?=some b21/\
 Br ((b21.toNat:Int) == 45) (
 s7.size<=s7.size/\0<=(1:Int)/\(1:Int).toNat<=s7.size/\
 F206_5 R (s7.extract ((1:Int).toNat) s7.size) (-1) ds w3) (
 s7.size<=s7.size/\0<=(1:Int)/\(1:Int).toNat<=s7.size/\
 F206_5 R (s7.extract ((1:Int).toNat) s7.size) 1 ds w3)) (
 ∃b16:UInt8,0<=(0:Int)/\s7[(0:Int).toNat]?=some b16/\
 Br ((b16.toNat:Int) == 43) (
 ∃b21:UInt8,0<=(0:Int)/\s7[(0:Int).toNat]?=some b21/\
 Br ((b21.toNat:Int) == 45) (
 s7.size<=s7.size/\0<=(1:Int)/\(1:Int).toNat<=s7.size/\
 F206_5 R (s7.extract ((1:Int).toNat) s7.size) (-1) ds w3) (
 s7.size<=s7.size/\0<=(1:Int)/\(1:Int).toNat<=s7.size/\
 F206_5 R (s7.extract ((1:Int).toNat) s7.size) 1 ds w3)) (
 F206_5 R s7 1 ds w3))) (
 F206_5 R s7 1 ds w3)
theorem F206_p:Pl prog f206 [sS 0] F206_6:=λR=>
  pc 5 (rest [sS 0,iS 3] (F206_5 R) (pc 2 (rest [sS 0,iS 3,iS 4,iS 26,iS 27] (F206_3 R) (bk 0 (rest [iS 3,iS 4] (F206_1 R) lf) (lp [iS 4,iS 27] [sS 0,iS 3,iS 4,iS 26,iS 27] (F206_2 R) rnil λJ1=>lf)))))
theorem F206_calls (s0:ByteArray) (w:World) (R:Rt) (h:F206_6 R s0 [] w):Calls prog 206 #[.string s0] w R:=
  plC F206_p func206 h
def F202_1(R:Rt)(s0:ByteArray)(ds:Ds)(w:World):Prop:=
 Br (s0.toList == (⟨#[32,32,32,32,32,32,32,32]⟩:ByteArray).toList) (
 runD prog ds w λw1=>
 R (.returned (.tuple #[.int .i64 0,.bool true])) w1) (
 Br ((s0.size:Int) != 8) (
 runD prog ds w λw2=>
 R (.returned (.tuple #[.int .i64 0,.bool false])) w2) (
 Calls prog 72 #[.string s0,.string (⟨#[48,49,50,51,52,53,54,55,56,57]⟩:ByteArray)] w λe w3=>
 ∃s13:ByteArray,e=.returned (.string s13)/\
 Br (!(s13.toList == (⟨#[]⟩:ByteArray).toList)) (
 runD prog ds w3 λw4=>
 R (.returned (.tuple #[.int .i64 0,.bool false])) w4) (
 dwE w3 λw5=>
 0<=(4:Int)/\(4:Int).toNat<=s0.size/\0<=(4:Int).toNat/\
 0<=(6:Int)/\(6:Int).toNat<=s0.size/\0<=(4:Int)/\(4:Int).toNat<=(6:Int).toNat/\
 s0.size<=s0.size/\0<=(6:Int)/\(6:Int).toNat<=s0.size/\
 Calls prog 206 #[.string (s0.extract 0 ((4:Int).toNat))] w5 λe w6=>
 ∃n19:Int,e=.returned (.int .i64 n19)/\
 Calls prog 206 #[.string (s0.extract ((4:Int).toNat) ((6:Int).toNat))] w6 λe w7=>
 ∃n22:Int,e=.returned (.int .i64 n22)/\
 Calls prog 206 #[.string (s0.extract ((6:Int).toNat) s0.size)] w7 λe w8=>
 ∃n25:Int,e=.returned (.int .i64 n25)/\
 Calls prog 205 #[.int .i64 n19,.int .i64 n22,.int .i64 n25] w8 λe w9=>
 ∃n26_0:Int,∃n26_1:Int,e=.returned (.tuple #[.int .i64 n26_0,.int .i64 n26_1])/\
 runD prog ds w9 λw10=>
 R (.returned (.tuple #[.int .i64 n26_0,.bool (n26_1 == 0)])) w10)))
theorem F202_p:Pl prog f202 [sS 0] F202_1:=λR=>
  lf
theorem F202_calls (s0:ByteArray) (w:World) (R:Rt) (h:F202_1 R s0 [] w):Calls prog 202 #[.string s0] w R:=
  plC F202_p func202 h
end Go.Proofs.YtjbfehippchniaaGreatDoor

/- Shallow texts of functions, printed by program, each checked by the kernel against the loaded code. No condition. -/
set_option maxRecDepth 100000
set_option linter.unusedVariables false
namespace Go.Proofs.YtjbfehippchniaaGreatDoor
open Go.Sh Tryz
def F179_1(R:Rt)(n0:Int)(ds:Ds)(w:World):Prop:=
 IntKind.i64=IntKind.i64/\(4:Int) ≠ 0/\
 Br ((n0.tmod 4) == 0) (
 IntKind.i64=IntKind.i64/\(100:Int) ≠ 0/\
 Br ((n0.tmod 100) != 0) (
 runD prog ds w λw1=>
 R (.returned (.bool true)) w1) (
 IntKind.i64=IntKind.i64/\(400:Int) ≠ 0/\
 runD prog ds w λw2=>
 R (.returned (.bool ((n0.tmod 400) == 0))) w2)) (
 IntKind.i64=IntKind.i64/\(400:Int) ≠ 0/\
 runD prog ds w λw3=>
 R (.returned (.bool ((n0.tmod 400) == 0))) w3)
theorem F179_p:Pl prog f179 [iS 0] F179_1:=λR=>
  lf
theorem F179_calls (n0:Int) (w:World) (R:Rt) (h:F179_1 R n0 [] w):Calls prog 179 #[.int .i64 n0] w R:=
  plC F179_p func179 h
def F155_1(R:Rt)(n0 n1:Int)(ds:Ds)(w:World):Prop:=
 Br (n1 == 2) (
 Calls prog 179 #[.int .i64 n0] w λe w1=>
 ∃b8:Bool,e=.returned (.bool b8)/\
 Br b8 (
 runD prog ds w1 λw2=>
 R (.returned (.int .i64 29)) w2) (
 runD prog ds w1 λw3=>
 R (.returned (.int .i64 28)) w3)) (
 Br (n1 == 4) (
 runD prog ds w λw4=>
 R (.returned (.int .i64 30)) w4) (
 Br (n1 == 6) (
 runD prog ds w λw5=>
 R (.returned (.int .i64 30)) w5) (
 Br (n1 == 9) (
 runD prog ds w λw6=>
 R (.returned (.int .i64 30)) w6) (
 Br (n1 == 11) (
 runD prog ds w λw7=>
 R (.returned (.int .i64 30)) w7) (
 runD prog ds w λw8=>
 R (.returned (.int .i64 31)) w8)))))
theorem F155_p:Pl prog f155 [iS 0,iS 1] F155_1:=λR=>
  lf
theorem F155_calls (n0 n1:Int) (w:World) (R:Rt) (h:F155_1 R n0 n1 [] w):Calls prog 155 #[.int .i64 n0,.int .i64 n1] w R:=
  plC F155_p func155 h
def F129_1(R:Rt)(n0 n8:Int)(ds:Ds)(w:World):Prop:=
 IntKind.i64=IntKind.i64/\(4:Int) ≠ 0/\
 IntKind.i64=IntKind.i64/\(100:Int) ≠ 0/\
 IntKind.i64=IntKind.i64/\(400:Int) ≠ 0/\
 runD prog ds w λw1=>
 R (.returned (.tuple #[.int .i64 (IntKind.i64.wrap ((IntKind.i64.wrap ((IntKind.i64.wrap ((IntKind.i64.wrap (n8+(IntKind.i64.wrap ((365:Int) * (IntKind.i64.wrap (n0 - 1))))))+(IntKind.i64.wrap ((IntKind.i64.wrap (n0 - 1)).tdiv 4)))) - (IntKind.i64.wrap ((IntKind.i64.wrap (n0 - 1)).tdiv 100))))+(IntKind.i64.wrap ((IntKind.i64.wrap (n0 - 1)).tdiv 400)))),.int .i64 0])) w1
def F129_2 (R:Rt) (J1:(Int × Int)->World->Prop) (n0 n1 n8 n9:Int) (ds:Ds) (w:World):Prop:=
 Br (decide (n9<n1)) (
 Calls prog 155 #[.int .i64 n0,.int .i64 n9] w λe w2=>
 ∃n45:Int,e=.returned (.int .i64 n45)/\
 J1 ((IntKind.i64.wrap (n8+n45)),(IntKind.i64.wrap (n9+1))) w2) (
 F129_1 R n0 n8 ds w)
def F129_3(R:Rt)(n0 n1 n8 n9:Int)(ds:Ds)(w:World):Prop:=
 loopT (λ(J1:(Int × Int)->World->Prop) (s:Int × Int) (w:World)=>F129_2 R J1 n0 n1 s.1 s.2 ds w) (n8,n9) w
def F129_5(R:Rt)(n0 n1 n2:Int)(b35:Bool)(ds:Ds)(w:World):Prop:=
 Br b35 (
 runD prog ds w λw3=>
 R (.returned (.tuple #[.int .i64 0,.int .i64 1])) w3) (
 F129_3 R n0 n1 n2 1 ds w)
def F129_6(R:Rt)(n0 n1 n2:Int)(ds:Ds)(w:World):Prop:=
 Br (decide (n0<1)) (
 F129_5 R n0 n1 n2 true ds w) (
 Br (decide (n0 > 9999)) (
 F129_5 R n0 n1 n2 true ds w) (
 Br (decide (n1<1)) (
 F129_5 R n0 n1 n2 true ds w) (
 Br (decide (n1 > 12)) (
 F129_5 R n0 n1 n2 true ds w) (
 Br (decide (n2<1)) (
 F129_5 R n0 n1 n2 true ds w) (
 Calls prog 155 #[.int .i64 n0,.int .i64 n1] w λe w4=>
 ∃n33:Int,e=.returned (.int .i64 n33)/\
 F129_5 R n0 n1 n2 (decide (n2 > n33)) ds w4)))))
def F129_7(R:Rt)(n0 n1 n2:Int)(ds:Ds)(w:World):Prop:=
 F129_6 R n0 n1 n2 ds w
theorem F129_p:Pl prog f129 [iS 0,iS 1,iS 2] F129_7:=λR=>
  pc 1 (rest [iS 0,iS 1,iS 2] (F129_6 R) (pc 1 (rest [iS 0,iS 1,iS 2,bS 35] (F129_5 R) (pc 3 (rest [iS 0,iS 1,iS 8,iS 9] (F129_3 R) (bk 0 (rest [iS 0,iS 8] (F129_1 R) lf) (lp [iS 8,iS 9] [iS 0,iS 1,iS 8,iS 9] (F129_2 R) rnil λJ1=>lf)))))))
theorem F129_calls (n0 n1 n2:Int) (w:World) (R:Rt) (h:F129_7 R n0 n1 n2 [] w):Calls prog 129 #[.int .i64 n0,.int .i64 n1,.int .i64 n2] w R:=
  plC F129_p func129 h
def F130_1(R:Rt)(b4:Bool)(n5:Int)(ds:Ds)(w:World):Prop:=
 Br b4 (
 runD prog ds w λw1=>
 R (.returned (.int .i64 (IntKind.i64.wrap (0 - n5)))) w1) (
 runD prog ds w λw2=>
 R (.returned (.int .i64 n5)) w2)
def F130_2 (R:Rt) (J1:(Int × Int)->World->Prop) (s0:ByteArray) (n3:Int) (b4:Bool) (n5:Int) (ds:Ds) (w:World):Prop:=
 Br (decide (n3<(s0.size:Int))) (
 ∃b47:UInt8,0<=n3/\s0[n3.toNat]?=some b47/\
 Calls prog 28 #[.int .u8 (b47.toNat:Int)] w λe w3=>
 ∃b48:Bool,e=.returned (.bool b48)/\
 Br b48 (
 ∃b54:UInt8,0<=n3/\s0[n3.toNat]?=some b54/\
 ∃n58:Int,∃w4,(Builtin.min_ #[3,3] 3 #[.int .i64 (IntKind.i64.wrap ((IntKind.i64.wrap ((10:Int) * n5))+(IntKind.i64.wrap (IntKind.u8.wrap ((b54.toNat:Int) - 48))))),.int .i64 1000000000000000]).run prog w3=.ok (.int .i64 n58) w4/\
 J1 ((IntKind.i64.wrap (n3+1)),n58) w4) (
 F130_1 R b4 n5 ds w3)) (
 F130_1 R b4 n5 ds w)
def F130_3(R:Rt)(s0:ByteArray)(n3:Int)(b4:Bool)(n5:Int)(ds:Ds)(w:World):Prop:=
 loopT (λ(J1:(Int × Int)->World->Prop) (s:Int × Int) (w:World)=>F130_2 R J1 s0 s.1 b4 s.2 ds w) (n3,n5) w
def F130_5(R:Rt)(s0:ByteArray)(n3:Int)(ds:Ds)(w:World):Prop:=
 Br (decide (n3<(s0.size:Int))) (
 ∃b25:UInt8,0<=n3/\s0[n3.toNat]?=some b25/\
 Br ((b25.toNat:Int) == 45) (
 ∃b36:UInt8,0<=n3/\s0[n3.toNat]?=some b36/\
 F130_3 R s0 (IntKind.i64.wrap (n3+1)) ((b36.toNat:Int) == 45) 0 ds w) (
 ∃b30:UInt8,0<=n3/\s0[n3.toNat]?=some b30/\
 Br ((b30.toNat:Int) == 43) (
 ∃b36:UInt8,0<=n3/\s0[n3.toNat]?=some b36/\
 F130_3 R s0 (IntKind.i64.wrap (n3+1)) ((b36.toNat:Int) == 45) 0 ds w) (
 F130_3 R s0 n3 false 0 ds w))) (
 F130_3 R s0 n3 false 0 ds w)
def F130_6 (R:Rt) (J1:(Int)->World->Prop) (s0:ByteArray) (n3:Int) (ds:Ds) (w:World):Prop:=
 Br (decide (n3<(s0.size:Int))) (
 ∃b13:UInt8,0<=n3/\s0[n3.toNat]?=some b13/\
 Br ((b13.toNat:Int) == 32) (
 J1 (IntKind.i64.wrap (n3+1)) w) (
 F130_5 R s0 n3 ds w)) (
 F130_5 R s0 n3 ds w)
def F130_7(R:Rt)(s0:ByteArray)(n3:Int)(ds:Ds)(w:World):Prop:=
 loopT (λ(J1:(Int)->World->Prop) (s:Int) (w:World)=>F130_6 R J1 s0 s ds w) n3 w
def F130_9(R:Rt)(s0:ByteArray)(ds:Ds)(w:World):Prop:=
 F130_7 R s0 0 ds w
theorem F130_p:Pl prog f130 [sS 0] F130_9:=λR=>
  pc 2 (rest [sS 0,iS 3] (F130_7 R) (bk 0 (rest [sS 0,iS 3] (F130_5 R) (pc 4 (rest [sS 0,iS 3,bS 4,iS 5] (F130_3 R) (bk 2 (rest [bS 4,iS 5] (F130_1 R) lf) (lp [iS 3,iS 5] [sS 0,iS 3,bS 4,iS 5] (F130_2 R) rnil λJ1=>lf))))) (lp [iS 3] [sS 0,iS 3] (F130_6 R) rnil λJ1=>lf)))
theorem F130_calls (s0:ByteArray) (w:World) (R:Rt) (h:F130_9 R s0 [] w):Calls prog 130 #[.string s0] w R:=
  plC F130_p func130 h
def F97_1(R:Rt)(s0:ByteArray)(ds:Ds)(w:World):Prop:=
 dwE w λw1=>
 0<=(4:Int)/\(4:Int).toNat<=s0.size/\0<=(4:Int).toNat/\
 0<=(6:Int)/\(6:Int).toNat<=s0.size/\0<=(4:Int)/\(4:Int).toNat<=(6:Int).toNat/\
 s0.size<=s0.size/\0<=(6:Int)/\(6:Int).toNat<=s0.size/\
 Calls prog 130 #[.string (s0.extract 0 ((4:Int).toNat))] w1 λe w2=>
 ∃n24:Int,e=.returned (.int .i64 n24)/\
 Calls prog 130 #[.string (s0.extract ((4:Int).toNat) ((6:Int).toNat))] w2 λe w3=>
 ∃n27:Int,e=.returned (.int .i64 n27)/\
 Calls prog 130 #[.string (s0.extract ((6:Int).toNat) s0.size)] w3 λe w4=>
 ∃n30:Int,e=.returned (.int .i64 n30)/\
 Calls prog 129 #[.int .i64 n24,.int .i64 n27,.int .i64 n30] w4 λe w5=>
 ∃n31_0:Int,∃n31_1:Int,e=.returned (.tuple #[.int .i64 n31_0,.int .i64 n31_1])/\
 runD prog ds w5 λw6=>
 R (.returned (.tuple #[.int .i64 n31_0,.bool (n31_1 == 0)])) w6
def F97_2 (R:Rt) (J1:(Int)->World->Prop) (s0:ByteArray) (n4:Int) (ds:Ds) (w:World):Prop:=
 Br (decide (n4<8)) (
 ∃b18:UInt8,0<=n4/\s0[n4.toNat]?=some b18/\
 Calls prog 28 #[.int .u8 (b18.toNat:Int)] w λe w7=>
 ∃b19:Bool,e=.returned (.bool b19)/\
 Br (!b19) (
 runD prog ds w7 λw8=>
 R (.returned (.tuple #[.int .i64 0,.bool false])) w8) (
 J1 (IntKind.i64.wrap (n4+1)) w7)) (
 F97_1 R s0 ds w)
def F97_3(R:Rt)(s0:ByteArray)(n4:Int)(ds:Ds)(w:World):Prop:=
 loopT (λ(J1:(Int)->World->Prop) (s:Int) (w:World)=>F97_2 R J1 s0 s ds w) n4 w
def F97_5(R:Rt)(s0:ByteArray)(ds:Ds)(w:World):Prop:=
 Br (s0.toList == (⟨#[32,32,32,32,32,32,32,32]⟩:ByteArray).toList) (
 runD prog ds w λw9=>
 R (.returned (.tuple #[.int .i64 0,.bool true])) w9) (
 Br ((s0.size:Int) != 8) (
 runD prog ds w λw10=>
 R (.returned (.tuple #[.int .i64 0,.bool false])) w10) (
 F97_3 R s0 0 ds w))
theorem F97_p:Pl prog f97 [sS 0] F97_5:=λR=>
  pc 6 (rest [sS 0,iS 4] (F97_3 R) (bk 0 (rest [sS 0] (F97_1 R) lf) (lp [iS 4] [sS 0,iS 4] (F97_2 R) rnil λJ1=>lf)))
theorem F97_calls (s0:ByteArray) (w:World) (R:Rt) (h:F97_5 R s0 [] w):Calls prog 97 #[.string s0] w R:=
  plC F97_p func97 h
end Go.Proofs.YtjbfehippchniaaGreatDoor

/- Shallow texts of functions, printed by program, each checked by the kernel against the loaded code. No condition. -/
set_option maxRecDepth 100000
set_option linter.unusedVariables false
namespace Go.Proofs.YtjbfehippchniaaGreatDoor
open Go.Sh Tryz
def F29_1(R:Rt)(n0:Int)(ds:Ds)(w:World):Prop:=
 Br (n0 == 9) (
 runD prog ds w λw1=>
 R (.returned (.bool true)) w1) (
 runD prog ds w λw2=>
 R (.returned (.bool (n0 == 32))) w2)
theorem F29_p:Pl prog f29 [kS .u8 0] F29_1:=λR=>
  lf
theorem F29_calls (n0:Int) (w:World) (R:Rt) (h:F29_1 R n0 [] w):Calls prog 29 #[.int .u8 n0] w R:=
  plC F29_p func29 h
def F59_1(R:Rt)(n0:Int)(ds:Ds)(w:World):Prop:=
 Br (n0 == 9) (
 runD prog ds w λw1=>
 R (.returned (.bool true)) w1) (
 Br (n0 == 10) (
 runD prog ds w λw2=>
 R (.returned (.bool true)) w2) (
 Br (decide (n0 ≥ 32)) (
 runD prog ds w λw3=>
 R (.returned (.bool (decide (n0<=126)))) w3) (
 runD prog ds w λw4=>
 R (.returned (.bool false)) w4)))
theorem F59_p:Pl prog f59 [kS .u8 0] F59_1:=λR=>
  lf
theorem F59_calls (n0:Int) (w:World) (R:Rt) (h:F59_1 R n0 [] w):Calls prog 59 #[.int .u8 n0] w R:=
  plC F59_p func59 h
def F27_1(R:Rt)(n0:Int)(ds:Ds)(w:World):Prop:=
 Br (n0 == 95) (
 runD prog ds w λw1=>
 R (.returned (.bool true)) w1) (
 Br (decide (n0 ≥ 97)) (
 Br (decide (n0<=122)) (
 runD prog ds w λw2=>
 R (.returned (.bool true)) w2) (
 Br (decide (n0 ≥ 65)) (
 runD prog ds w λw3=>
 R (.returned (.bool (decide (n0<=90)))) w3) (
 runD prog ds w λw4=>
 R (.returned (.bool false)) w4))) (
 Br (decide (n0 ≥ 65)) (
 runD prog ds w λw5=>
 R (.returned (.bool (decide (n0<=90)))) w5) (
 runD prog ds w λw6=>
 R (.returned (.bool false)) w6)))
theorem F27_p:Pl prog f27 [kS .u8 0] F27_1:=λR=>
  lf
theorem F27_calls (n0:Int) (w:World) (R:Rt) (h:F27_1 R n0 [] w):Calls prog 27 #[.int .u8 n0] w R:=
  plC F27_p func27 h
def F28_1(R:Rt)(n0:Int)(ds:Ds)(w:World):Prop:=
 Br (decide (n0 ≥ 48)) (
 runD prog ds w λw1=>
 R (.returned (.bool (decide (n0<=57)))) w1) (
 runD prog ds w λw2=>
 R (.returned (.bool false)) w2)
theorem F28_p:Pl prog f28 [kS .u8 0] F28_1:=λR=>
  lf
theorem F28_calls (n0:Int) (w:World) (R:Rt) (h:F28_1 R n0 [] w):Calls prog 28 #[.int .u8 n0] w R:=
  plC F28_p func28 h
def F96_1(R:Rt)(n0:Int)(ds:Ds)(w:World):Prop:=
 Br (decide (n0 ≥ 97)) (
 Br (decide (n0<=122)) (
 runD prog ds w λw1=>
 R (.returned (.int .u8 (IntKind.u8.wrap (n0 - 32)))) w1) (
 runD prog ds w λw2=>
 R (.returned (.int .u8 n0)) w2)) (
 runD prog ds w λw3=>
 R (.returned (.int .u8 n0)) w3)
theorem F96_p:Pl prog f96 [kS .u8 0] F96_1:=λR=>
  lf
theorem F96_calls (n0:Int) (w:World) (R:Rt) (h:F96_1 R n0 [] w):Calls prog 96 #[.int .u8 n0] w R:=
  plC F96_p func96 h
def F63_1(R:Rt)(l3:SV)(ds:Ds)(w:World):Prop:=
 ∃s22:ByteArray,∃w1,(convert 57 9 (.slice l3.a l3.len l3.cap)).run prog w=.ok (.string s22) w1/\
 runD prog ds w1 λw2=>
 R (.returned (.string s22)) w2
def F63_2 (R:Rt) (J1:(Int)->World->Prop) (l3:SV) (n4:Int) (ds:Ds) (w:World):Prop:=
 Br (decide (n4<(l3.len:Int))) (
 ∃a3,l3.a=some a3/\0<=n4/\n4<(l3.len:Int)/\
 ∃n18,w.cell? (a3.add (n4.toNat * 1))=some (.int .u8 n18)/\
 Calls prog 96 #[.int .u8 n18] w λe w4=>
 ∃n19:Int,e=.returned (.int .u8 n19)/\
 ∃a5,l3.a=some a5/\0<=n4/\n4<(l3.len:Int)/\
 st1 (a5.add (n4.toNat * 1)) (.int .u8 n19) w4 λw6=>
 J1 (IntKind.i64.wrap (n4+1)) w6) (
 F63_1 R l3 ds w)
def F63_3(R:Rt)(l3:SV)(n4:Int)(ds:Ds)(w:World):Prop:=
 loopT (λ(J1:(Int)->World->Prop) (s:Int) (w:World)=>F63_2 R J1 l3 s ds w) n4 w
def F63_5(R:Rt)(s0:ByteArray)(ds:Ds)(w:World):Prop:=
 ∃l6:SV,∃w7,(convert 9 57 (.string s0)).run prog w=.ok (.slice l6.a l6.len l6.cap) w7/\
 F63_3 R l6 0 ds w7
theorem F63_p:Pl prog f63 [sS 0] F63_5:=λR=>
  pc 3 (rest [lS 3,iS 4] (F63_3 R) (bk 0 (rest [lS 3] (F63_1 R) lf) (lp [iS 4] [lS 3,iS 4] (F63_2 R) rnil λJ1=>lf)))
theorem F63_calls (s0:ByteArray) (w:World) (R:Rt) (h:F63_5 R s0 [] w):Calls prog 63 #[.string s0] w R:=
  plC F63_p func63 h
def F58_1(R:Rt)(ds:Ds)(w:World):Prop:=
 runD prog ds w λw1=>
 R (.returned (.bool false)) w1
def F58_2 (R:Rt) (J1:(Int)->World->Prop) (s0:ByteArray) (n1 n5:Int) (ds:Ds) (w:World):Prop:=
 Br (decide (n5<(s0.size:Int))) (
 ∃b14:UInt8,0<=n5/\s0[n5.toNat]?=some b14/\
 Br ((b14.toNat:Int) == n1) (
 runD prog ds w λw2=>
 R (.returned (.bool true)) w2) (
 J1 (IntKind.i64.wrap (n5+1)) w)) (
 F58_1 R ds w)
def F58_3(R:Rt)(s0:ByteArray)(n1 n5:Int)(ds:Ds)(w:World):Prop:=
 loopT (λ(J1:(Int)->World->Prop) (s:Int) (w:World)=>F58_2 R J1 s0 n1 s ds w) n5 w
def F58_5(R:Rt)(s0:ByteArray)(n1:Int)(ds:Ds)(w:World):Prop:=
 F58_3 R s0 n1 0 ds w
theorem F58_p:Pl prog f58 [sS 0,kS .u8 1] F58_5:=λR=>
  pc 2 (rest [sS 0,kS .u8 1,iS 5] (F58_3 R) (bk 0 (rest [] (F58_1 R) lf) (lp [iS 5] [sS 0,kS .u8 1,iS 5] (F58_2 R) rnil λJ1=>lf)))
theorem F58_calls (s0:ByteArray) (n1:Int) (w:World) (R:Rt) (h:F58_5 R s0 n1 [] w):Calls prog 58 #[.string s0,.int .u8 n1] w R:=
  plC F58_p func58 h
end Go.Proofs.YtjbfehippchniaaGreatDoor

/- Shallow texts of functions, printed by program, each checked by the kernel against the loaded code. No condition. -/
set_option maxRecDepth 100000
set_option linter.unusedVariables false
namespace Go.Proofs.YtjbfehippchniaaGreatDoor
open Go.Sh Tryz
def F64_1(R:Rt)(p0:Option Addr)(n3:Int)(ds:Ds)(w:World):Prop:=
 dwE w λw1=>
 ptrE p0 λa2=>
 ∃s93,w1.cell? a2=some (.string s93)/\
 ptrE p0 λa3=>
 ∃n97,w1.cell? (a3.add 1)=some (.int .i64 n97)/\
 0<=n3/\n3.toNat<=s93.size/\0<=(IntKind.i64.wrap (n97+1))/\(IntKind.i64.wrap (n97+1)).toNat<=n3.toNat/\
 ptrE p0 λa4=>
 ∃n106,w1.cell? (a4.add 1)=some (.int .i64 n106)/\
 Calls prog 62 #[.pointer p0,.int .i64 2,.string (s93.extract ((IntKind.i64.wrap (n97+1)).toNat) n3.toNat),.int .i64 (IntKind.i64.wrap ((IntKind.i64.wrap (n3+1)) - n106))] w1 λe w5=>
 e=.returned (.tuple #[])/\
 runD prog ds w5 λw6=>
 R (.returned (.tuple #[])) w6
def F64_2 (R:Rt) (J1:(Int)->World->Prop) (p0:Option Addr) (n3 n4:Int) (ds:Ds) (w:World):Prop:=
 Br (decide (n4<n3)) (
 ptrE p0 λa7=>
 ∃s81,w.cell? a7=some (.string s81)/\
 ∃b83:UInt8,0<=n4/\s81[n4.toNat]?=some b83/\
 Calls prog 59 #[.int .u8 (b83.toNat:Int)] w λe w8=>
 ∃b84:Bool,e=.returned (.bool b84)/\
 Br (!b84) (
 Calls prog 60 #[.pointer p0,.int .i64 n4] w8 λe w9=>
 e=.returned (.tuple #[])/\
 J1 (IntKind.i64.wrap (n4+1)) w9) (
 J1 (IntKind.i64.wrap (n4+1)) w8)) (
 F64_1 R p0 n3 ds w)
def F64_3(R:Rt)(p0:Option Addr)(n3 n4:Int)(ds:Ds)(w:World):Prop:=
 loopT (λ(J1:(Int)->World->Prop) (s:Int) (w:World)=>F64_2 R J1 p0 n3 s ds w) n4 w
def F64_5(R:Rt)(p0:Option Addr)(n3:Int)(ds:Ds)(w:World):Prop:=
 ptrE p0 λa10=>
 ∃s51,w.cell? a10=some (.string s51)/\
 Br (decide (n3 ≥ (s51.size:Int))) (
 ptrE p0 λa11=>
 ∃n67,w.cell? (a11.add 1)=some (.int .i64 n67)/\
 Calls prog 60 #[.pointer p0,.int .i64 n67] w λe w12=>
 e=.returned (.tuple #[])/\
 runD prog ds w12 λw13=>
 R (.returned (.tuple #[])) w13) (
 ptrE p0 λa14=>
 ∃s58,w.cell? a14=some (.string s58)/\
 ∃b60:UInt8,0<=n3/\s58[n3.toNat]?=some b60/\
 Br ((b60.toNat:Int) == 10) (
 ptrE p0 λa15=>
 ∃n67,w.cell? (a15.add 1)=some (.int .i64 n67)/\
 Calls prog 60 #[.pointer p0,.int .i64 n67] w λe w16=>
 e=.returned (.tuple #[])/\
 runD prog ds w16 λw17=>
 R (.returned (.tuple #[])) w17) (
 ptrE p0 λa18=>
 ∃n72,w.cell? (a18.add 1)=some (.int .i64 n72)/\
 F64_3 R p0 n3 n72 ds w))
def F64_6 (R:Rt) (J1:(Int)->World->Prop) (p0:Option Addr) (n2 n3:Int) (ds:Ds) (w:World):Prop:=
 ptrE p0 λa19=>
 ∃s23,w.cell? a19=some (.string s23)/\
 Br (decide (n3<(s23.size:Int))) (
 ptrE p0 λa20=>
 ∃s30,w.cell? a20=some (.string s30)/\
 ∃b32:UInt8,0<=n3/\s30[n3.toNat]?=some b32/\
 Br ((b32.toNat:Int) != 10) (
 ptrE p0 λa21=>
 ∃s39,w.cell? a21=some (.string s39)/\
 ∃b41:UInt8,0<=n3/\s39[n3.toNat]?=some b41/\
 Br ((b41.toNat:Int) != n2) (
 J1 (IntKind.i64.wrap (n3+1)) w) (
 F64_5 R p0 n3 ds w)) (
 F64_5 R p0 n3 ds w)) (
 F64_5 R p0 n3 ds w)
def F64_7(R:Rt)(p0:Option Addr)(n2 n3:Int)(ds:Ds)(w:World):Prop:=
 loopT (λ(J1:(Int)->World->Prop) (s:Int) (w:World)=>F64_6 R J1 p0 n2 s ds w) n3 w
def F64_9(R:Rt)(p0:Option Addr)(ds:Ds)(w:World):Prop:=
 dwE w λw22=>
 ptrE p0 λa23=>
 ∃s8,w22.cell? a23=some (.string s8)/\
 ptrE p0 λa24=>
 ∃n12,w22.cell? (a24.add 1)=some (.int .i64 n12)/\
 ∃b13:UInt8,0<=n12/\s8[n12.toNat]?=some b13/\
 ptrE p0 λa25=>
 ∃n17,w22.cell? (a25.add 1)=some (.int .i64 n17)/\
 F64_7 R p0 (b13.toNat:Int) (IntKind.i64.wrap (n17+1)) ds w22
theorem F64_p:Pl prog f64 [pS 0] F64_9:=λR=>
  pc 2 (rest [pS 0,kS .u8 2,iS 3] (F64_7 R) (bk 0 (rest [pS 0,iS 3] (F64_5 R) (pc 3 (rest [pS 0,iS 3,iS 4] (F64_3 R) (bk 2 (rest [pS 0,iS 3] (F64_1 R) lf) (lp [iS 4] [pS 0,iS 3,iS 4] (F64_2 R) rnil λJ1=>lf))))) (lp [iS 3] [pS 0,kS .u8 2,iS 3] (F64_6 R) rnil λJ1=>lf)))
theorem F64_calls (p0:Option Addr) (w:World) (R:Rt) (h:F64_9 R p0 [] w):Calls prog 64 #[.pointer p0] w R:=
  plC F64_p func64 h
def F65_1(R:Rt)(s0:ByteArray)(n1:Int)(b55:Bool)(ds:Ds)(w:World):Prop:=
 Br b55 (
 runD prog ds w λw1=>
 R (.returned (.tuple #[.string (⟨#[]⟩:ByteArray),.int .i64 0])) w1) (
 dwE w λw2=>
 0<=(IntKind.i64.wrap (n1+6))/\(IntKind.i64.wrap (n1+6)).toNat<=s0.size/\0<=(IntKind.i64.wrap (n1+2))/\(IntKind.i64.wrap (n1+2)).toNat<=(IntKind.i64.wrap (n1+6)).toNat/\
 0<=(IntKind.i64.wrap (n1+9))/\(IntKind.i64.wrap (n1+9)).toNat<=s0.size/\0<=(IntKind.i64.wrap (n1+7))/\(IntKind.i64.wrap (n1+7)).toNat<=(IntKind.i64.wrap (n1+9)).toNat/\
 (((s0.extract ((IntKind.i64.wrap (n1+2)).toNat) ((IntKind.i64.wrap (n1+6)).toNat)).size+(s0.extract ((IntKind.i64.wrap (n1+7)).toNat) ((IntKind.i64.wrap (n1+9)).toNat)).size:Nat):Int)<=9223372036854775807/\
 0<=(IntKind.i64.wrap (n1+12))/\(IntKind.i64.wrap (n1+12)).toNat<=s0.size/\0<=(IntKind.i64.wrap (n1+10))/\(IntKind.i64.wrap (n1+10)).toNat<=(IntKind.i64.wrap (n1+12)).toNat/\
 ((((s0.extract ((IntKind.i64.wrap (n1+2)).toNat) ((IntKind.i64.wrap (n1+6)).toNat)) ++ (s0.extract ((IntKind.i64.wrap (n1+7)).toNat) ((IntKind.i64.wrap (n1+9)).toNat))).size+(s0.extract ((IntKind.i64.wrap (n1+10)).toNat) ((IntKind.i64.wrap (n1+12)).toNat)).size:Nat):Int)<=9223372036854775807/\
 Calls prog 97 #[.string (((s0.extract ((IntKind.i64.wrap (n1+2)).toNat) ((IntKind.i64.wrap (n1+6)).toNat)) ++ (s0.extract ((IntKind.i64.wrap (n1+7)).toNat) ((IntKind.i64.wrap (n1+9)).toNat))) ++ (s0.extract ((IntKind.i64.wrap (n1+10)).toNat) ((IntKind.i64.wrap (n1+12)).toNat)))] w2 λe w3=>
 ∃n78_0:Int,∃b78_1:Bool,e=.returned (.tuple #[.int .i64 n78_0,.bool b78_1])/\
 Br (!b78_1) (
 runD prog ds w3 λw4=>
 R (.returned (.tuple #[.string (⟨#[]⟩:ByteArray),.int .i64 0])) w4) (
 ∃b85:UInt8,0<=(0:Int)/\(((s0.extract ((IntKind.i64.wrap (n1+2)).toNat) ((IntKind.i64.wrap (n1+6)).toNat)) ++ (s0.extract ((IntKind.i64.wrap (n1+7)).toNat) ((IntKind.i64.wrap (n1+9)).toNat))) ++ (s0.extract ((IntKind.i64.wrap (n1+10)).toNat) ((IntKind.i64.wrap (n1+12)).toNat)))[(0:Int).toNat]?=some b85/\
 Br ((b85.toNat:Int) == 32) (
 runD prog ds w3 λw5=>
 R (.returned (.tuple #[.string (⟨#[]⟩:ByteArray),.int .i64 0])) w5) (
 runD prog ds w3 λw6=>
 R (.returned (.tuple #[.string (((s0.extract ((IntKind.i64.wrap (n1+2)).toNat) ((IntKind.i64.wrap (n1+6)).toNat)) ++ (s0.extract ((IntKind.i64.wrap (n1+7)).toNat) ((IntKind.i64.wrap (n1+9)).toNat))) ++ (s0.extract ((IntKind.i64.wrap (n1+10)).toNat) ((IntKind.i64.wrap (n1+12)).toNat))),.int .i64 13])) w6)))
def F65_2(R:Rt)(s0:ByteArray)(n1:Int)(ds:Ds)(w:World):Prop:=
 Br (decide ((IntKind.i64.wrap (n1+13)) > (s0.size:Int))) (
 F65_1 R s0 n1 true ds w) (
 0<=(IntKind.i64.wrap (n1+2))/\(IntKind.i64.wrap (n1+2)).toNat<=s0.size/\0<=n1/\n1.toNat<=(IntKind.i64.wrap (n1+2)).toNat/\
 Br (!((s0.extract n1.toNat ((IntKind.i64.wrap (n1+2)).toNat)).toList == (⟨#[123,94]⟩:ByteArray).toList)) (
 F65_1 R s0 n1 true ds w) (
 ∃b39:UInt8,0<=(IntKind.i64.wrap (n1+6))/\s0[(IntKind.i64.wrap (n1+6)).toNat]?=some b39/\
 Br ((b39.toNat:Int) != 45) (
 F65_1 R s0 n1 true ds w) (
 ∃b46:UInt8,0<=(IntKind.i64.wrap (n1+9))/\s0[(IntKind.i64.wrap (n1+9)).toNat]?=some b46/\
 Br ((b46.toNat:Int) != 45) (
 F65_1 R s0 n1 true ds w) (
 ∃b53:UInt8,0<=(IntKind.i64.wrap (n1+12))/\s0[(IntKind.i64.wrap (n1+12)).toNat]?=some b53/\
 F65_1 R s0 n1 ((b53.toNat:Int) != 125) ds w))))
def F65_3(R:Rt)(s0:ByteArray)(n1:Int)(ds:Ds)(w:World):Prop:=
 Br (decide ((IntKind.i64.wrap (n1+1))<(s0.size:Int))) (
 0<=(IntKind.i64.wrap (n1+2))/\(IntKind.i64.wrap (n1+2)).toNat<=s0.size/\0<=n1/\n1.toNat<=(IntKind.i64.wrap (n1+2)).toNat/\
 Br ((s0.extract n1.toNat ((IntKind.i64.wrap (n1+2)).toNat)).toList == (⟨#[123,125]⟩:ByteArray).toList) (
 runD prog ds w λw7=>
 R (.returned (.tuple #[.string (⟨#[]⟩:ByteArray),.int .i64 2])) w7) (
 F65_2 R s0 n1 ds w)) (
 F65_2 R s0 n1 ds w)
theorem F65_p:Pl prog f65 [sS 0,iS 1] F65_3:=λR=>
  pc 3 (rest [sS 0,iS 1] (F65_2 R) (pc 1 (rest [sS 0,iS 1,bS 55] (F65_1 R) lf)))
theorem F65_calls (s0:ByteArray) (n1:Int) (w:World) (R:Rt) (h:F65_3 R s0 n1 [] w):Calls prog 65 #[.string s0,.int .i64 n1] w R:=
  plC F65_p func65 h
def F66_1(R:Rt)(ds:Ds)(w:World):Prop:=
 runD prog ds w λw1=>
 R (.returned (.string (⟨#[]⟩:ByteArray))) w1
def F66_2 (R:Rt) (J1:(Int)->World->Prop) (s0:ByteArray) (n1:Int) (l5:SV) (n6:Int) (ds:Ds) (w:World):Prop:=
 Br (decide (n6<(l5.len:Int))) (
 ∃a2,l5.a=some a2/\0<=n6/\n6<(l5.len:Int)/\
 ∃s19,w.cell? (a2.add (n6.toNat * 1))=some (.string s19)/\
 dwE w λw3=>
 ∃S1:World->Prop,S1 w3/\
 Br (decide ((IntKind.i64.wrap (n1+(s19.size:Int)))<=(s0.size:Int))) (
 0<=(IntKind.i64.wrap (n1+(s19.size:Int)))/\(IntKind.i64.wrap (n1+(s19.size:Int))).toNat<=s0.size/\0<=n1/\n1.toNat<=(IntKind.i64.wrap (n1+(s19.size:Int))).toNat/\
 ∃a4,l5.a=some a4/\0<=n6/\n6<(l5.len:Int)/\
 ∃s35,(∀w',S1 w'->w'.cell? (a4.add (n6.toNat * 1))=some (.string s35))/\
 Calls prog 63 #[.string (s0.extract n1.toNat ((IntKind.i64.wrap (n1+(s19.size:Int))).toNat))] w3 λe w5=>
 ∃s31:ByteArray,e=.returned (.string s31)/\
 S1 w5/\
 Br (s31.toList == s35.toList) (
 ∃a6,l5.a=some a6/\0<=n6/\n6<(l5.len:Int)/\
 ∃s41,w5.cell? (a6.add (n6.toNat * 1))=some (.string s41)/\
 runD prog ds w5 λw7=>
 R (.returned (.string s41)) w7) (
 J1 (IntKind.i64.wrap (n6+1)) w5)) (
 J1 (IntKind.i64.wrap (n6+1)) w3)) (
 F66_1 R ds w)
def F66_3(R:Rt)(s0:ByteArray)(n1:Int)(l5:SV)(n6:Int)(ds:Ds)(w:World):Prop:=
 loopT (λ(J1:(Int)->World->Prop) (s:Int) (w:World)=>F66_2 R J1 s0 n1 l5 s ds w) n6 w
def F66_5(R:Rt)(s0:ByteArray)(n1:Int)(ds:Ds)(w:World):Prop:=
 Calls prog 98 #[] w λe w8=>
 ∃l8:SV,e=.returned (.slice l8.a l8.len l8.cap)/\
 F66_3 R s0 n1 l8 0 ds w8
theorem F66_p:Pl prog f66 [sS 0,iS 1] F66_5:=λR=>
  pc 3 (rest [sS 0,iS 1,lS 5,iS 6] (F66_3 R) (bk 0 (rest [] (F66_1 R) lf) (lp [iS 6] [sS 0,iS 1,lS 5,iS 6] (F66_2 R) rnil λJ1=>lf)))
theorem F66_calls (s0:ByteArray) (n1:Int) (w:World) (R:Rt) (h:F66_5 R s0 n1 [] w):Calls prog 66 #[.string s0,.int .i64 n1] w R:=
  plC F66_p func66 h
def F98_1(R:Rt)(ds:Ds)(w:World):Prop:=
 alE (.cells #[.string (⟨#[46,78,85,76,76,46]⟩:ByteArray),.string (⟨#[46,65,78,68,46]⟩:ByteArray),.string (⟨#[46,78,79,84,46]⟩:ByteArray),.string (⟨#[46,79,82,46]⟩:ByteArray),.string (⟨#[46,84,46]⟩:ByteArray),.string (⟨#[46,70,46]⟩:ByteArray),.string (⟨#[58,61]⟩:ByteArray),.string (⟨#[61,61]⟩:ByteArray),.string (⟨#[60,62]⟩:ByteArray),.string (⟨#[33,61]⟩:ByteArray),.string (⟨#[60,61]⟩:ByteArray),.string (⟨#[62,61]⟩:ByteArray),.string (⟨#[45,62]⟩:ByteArray),.string (⟨#[40]⟩:ByteArray),.string (⟨#[41]⟩:ByteArray),.string (⟨#[91]⟩:ByteArray),.string (⟨#[93]⟩:ByteArray),.string (⟨#[123]⟩:ByteArray),.string (⟨#[125]⟩:ByteArray),.string (⟨#[44]⟩:ByteArray),.string (⟨#[124]⟩:ByteArray),.string (⟨#[58]⟩:ByteArray),.string (⟨#[46]⟩:ByteArray),.string (⟨#[61]⟩:ByteArray),.string (⟨#[35]⟩:ByteArray),.string (⟨#[60]⟩:ByteArray),.string (⟨#[62]⟩:ByteArray),.string (⟨#[43]⟩:ByteArray),.string (⟨#[45]⟩:ByteArray),.string (⟨#[42]⟩:ByteArray),.string (⟨#[47]⟩:ByteArray),.string (⟨#[37]⟩:ByteArray),.string (⟨#[94]⟩:ByteArray),.string (⟨#[36]⟩:ByteArray),.string (⟨#[38]⟩:ByteArray),.string (⟨#[63]⟩:ByteArray),.string (⟨#[64]⟩:ByteArray),.string (⟨#[33]⟩:ByteArray)] 9) w λr1 w1=>
 runD prog ds w1 λw2=>
 R (.returned (.slice (some ⟨r1,0,none⟩) 38 38)) w2
theorem F98_p:Pl prog f98 [] F98_1:=λR=>
  lf
theorem F98_calls  (w:World) (R:Rt) (h:F98_1 R [] w):Calls prog 98 #[] w R:=
  plC F98_p func98 h
def F35_1(R:Rt)(p0:Option Addr)(ds:Ds)(w:World):Prop:=
 dwE w λw1=>
 ptrE p0 λa2=>
 ∃s11,w1.cell? a2=some (.string s11)/\
 ptrE p0 λa3=>
 ∃n15,w1.cell? (a3.add 1)=some (.int .i64 n15)/\
 ∃b16:UInt8,0<=n15/\s11[n15.toNat]?=some b16/\
 Calls prog 27 #[.int .u8 (b16.toNat:Int)] w1 λe w4=>
 ∃b59:Bool,e=.returned (.bool b59)/\
 Br b59 (
 Calls prog 61 #[.pointer p0,.bool true] w4 λe w5=>
 ∃n61:Int,e=.returned (.int .i64 n61)/\
 Br (decide (n61 > 24)) (
 ptrE p0 λa6=>
 ∃n68,w5.cell? (a6.add 1)=some (.int .i64 n68)/\
 Calls prog 60 #[.pointer p0,.int .i64 n68] w5 λe w7=>
 e=.returned (.tuple #[])/\
 runD prog ds w7 λw8=>
 R (.returned (.tuple #[])) w8) (
 dwE w5 λw9=>
 ptrE p0 λa10=>
 ∃s74,w9.cell? a10=some (.string s74)/\
 ptrE p0 λa11=>
 ∃n78,w9.cell? (a11.add 1)=some (.int .i64 n78)/\
 ptrE p0 λa12=>
 ∃n82,w9.cell? (a12.add 1)=some (.int .i64 n82)/\
 0<=(IntKind.i64.wrap (n82+n61))/\(IntKind.i64.wrap (n82+n61)).toNat<=s74.size/\0<=n78/\n78.toNat<=(IntKind.i64.wrap (n82+n61)).toNat/\
 Calls prog 63 #[.string (s74.extract n78.toNat ((IntKind.i64.wrap (n82+n61)).toNat))] w9 λe w13=>
 ∃s86:ByteArray,e=.returned (.string s86)/\
 Calls prog 62 #[.pointer p0,.int .i64 0,.string s86,.int .i64 n61] w13 λe w14=>
 e=.returned (.tuple #[])/\
 runD prog ds w14 λw15=>
 R (.returned (.tuple #[])) w15)) (
 Calls prog 28 #[.int .u8 (b16.toNat:Int)] w4 λe w16=>
 ∃b91:Bool,e=.returned (.bool b91)/\
 Br b91 (
 Calls prog 61 #[.pointer p0,.bool false] w16 λe w17=>
 ∃n93:Int,e=.returned (.int .i64 n93)/\
 Br (decide (n93 > 15)) (
 ptrE p0 λa18=>
 ∃n100,w17.cell? (a18.add 1)=some (.int .i64 n100)/\
 Calls prog 60 #[.pointer p0,.int .i64 n100] w17 λe w19=>
 e=.returned (.tuple #[])/\
 runD prog ds w19 λw20=>
 R (.returned (.tuple #[])) w20) (
 dwE w17 λw21=>
 ptrE p0 λa22=>
 ∃s106,w21.cell? a22=some (.string s106)/\
 ptrE p0 λa23=>
 ∃n110,w21.cell? (a23.add 1)=some (.int .i64 n110)/\
 ptrE p0 λa24=>
 ∃n114,w21.cell? (a24.add 1)=some (.int .i64 n114)/\
 0<=(IntKind.i64.wrap (n114+n93))/\(IntKind.i64.wrap (n114+n93)).toNat<=s106.size/\0<=n110/\n110.toNat<=(IntKind.i64.wrap (n114+n93)).toNat/\
 Calls prog 62 #[.pointer p0,.int .i64 1,.string (s106.extract n110.toNat ((IntKind.i64.wrap (n114+n93)).toNat)),.int .i64 n93] w21 λe w25=>
 e=.returned (.tuple #[])/\
 runD prog ds w25 λw26=>
 R (.returned (.tuple #[])) w26)) (
 Br ((b16.toNat:Int) == 34) (
 Calls prog 64 #[.pointer p0] w16 λe w27=>
 e=.returned (.tuple #[])/\
 runD prog ds w27 λw28=>
 R (.returned (.tuple #[])) w28) (
 Br ((b16.toNat:Int) == 39) (
 Calls prog 64 #[.pointer p0] w16 λe w29=>
 e=.returned (.tuple #[])/\
 runD prog ds w29 λw30=>
 R (.returned (.tuple #[])) w30) (
 dwE w16 λw31=>
 ptrE p0 λa32=>
 ∃s21,w31.cell? a32=some (.string s21)/\
 ptrE p0 λa33=>
 ∃n25,w31.cell? (a33.add 1)=some (.int .i64 n25)/\
 Calls prog 65 #[.string s21,.int .i64 n25] w31 λe w34=>
 ∃s26_0:ByteArray,∃n26_1:Int,e=.returned (.tuple #[.string s26_0,.int .i64 n26_1])/\
 Br (decide (n26_1 > 0)) (
 Calls prog 62 #[.pointer p0,.int .i64 3,.string s26_0,.int .i64 n26_1] w34 λe w35=>
 e=.returned (.tuple #[])/\
 runD prog ds w35 λw36=>
 R (.returned (.tuple #[])) w36) (
 dwE w34 λw37=>
 ptrE p0 λa38=>
 ∃s38,w37.cell? a38=some (.string s38)/\
 ptrE p0 λa39=>
 ∃n42,w37.cell? (a39.add 1)=some (.int .i64 n42)/\
 Calls prog 66 #[.string s38,.int .i64 n42] w37 λe w40=>
 ∃s43:ByteArray,e=.returned (.string s43)/\
 Br (s43.toList == (⟨#[]⟩:ByteArray).toList) (
 ptrE p0 λa41=>
 ∃n50,w40.cell? (a41.add 1)=some (.int .i64 n50)/\
 Calls prog 60 #[.pointer p0,.int .i64 n50] w40 λe w42=>
 e=.returned (.tuple #[])/\
 runD prog ds w42 λw43=>
 R (.returned (.tuple #[])) w43) (
 Calls prog 62 #[.pointer p0,.int .i64 4,.string s43,.int .i64 (s43.size:Int)] w40 λe w44=>
 e=.returned (.tuple #[])/\
 runD prog ds w44 λw45=>
 R (.returned (.tuple #[])) w45))))))
theorem F35_p:Pl prog f35 [pS 0] F35_1:=λR=>
  lf
theorem F35_calls (p0:Option Addr) (w:World) (R:Rt) (h:F35_1 R p0 [] w):Calls prog 35 #[.pointer p0] w R:=
  plC F35_p func35 h
def F15_1(R:Rt)(p0:Option Addr)(n2:Int)(ds:Ds)(w:World):Prop:=
 Br (n2 == 10) (
 Calls prog 16 #[.pointer p0] w λe w1=>
 e=.returned (.tuple #[])/\
 ptrE p0 λa2=>
 ∃n23,w1.cell? (a2.add 1)=some (.int .i64 n23)/\
 ptrE p0 λa3=>
 st1 (a3.add 1) (.int .i64 (IntKind.i64.wrap (n23+1))) w1 λw4=>
 runD prog ds w4 λw5=>
 R (.returned (.tuple #[])) w5) (
 Calls prog 29 #[.int .u8 n2] w λe w6=>
 ∃b29:Bool,e=.returned (.bool b29)/\
 Br b29 (
 ptrE p0 λa7=>
 ∃n33,w6.cell? (a7.add 1)=some (.int .i64 n33)/\
 ptrE p0 λa8=>
 st1 (a8.add 1) (.int .i64 (IntKind.i64.wrap (n33+1))) w6 λw9=>
 runD prog ds w9 λw10=>
 R (.returned (.tuple #[])) w10) (
 Calls prog 30 #[.pointer p0] w6 λe w11=>
 ∃b39:Bool,e=.returned (.bool b39)/\
 Br b39 (
 Br b39 (
 ptrE p0 λa12=>
 ∃n58,w11.cell? (a12.add 1)=some (.int .i64 n58)/\
 Calls prog 33 #[.pointer p0,.int .i64 n58] w11 λe w13=>
 ∃n59:Int,e=.returned (.int .i64 n59)/\
 Calls prog 32 #[.pointer p0,.int .i64 n59] w13 λe w14=>
 e=.returned (.tuple #[])/\
 runD prog ds w14 λw15=>
 R (.returned (.tuple #[])) w15) (
 Br (n2 == 59) (
 Calls prog 34 #[.pointer p0] w11 λe w16=>
 ∃b66:Bool,e=.returned (.bool b66)/\
 Br b66 (
 ptrE p0 λa17=>
 ∃n71,w16.cell? (a17.add 1)=some (.int .i64 n71)/\
 ptrE p0 λa18=>
 st1 (a18.add 1) (.int .i64 (IntKind.i64.wrap (n71+1))) w16 λw19=>
 ptrE p0 λa20=>
 ∃n79,w19.cell? (a20.add 1)=some (.int .i64 n79)/\
 Calls prog 33 #[.pointer p0,.int .i64 n79] w19 λe w21=>
 ∃n80:Int,e=.returned (.int .i64 n80)/\
 Calls prog 32 #[.pointer p0,.int .i64 n80] w21 λe w22=>
 e=.returned (.tuple #[])/\
 dwE w22 λw23=>
 ptrE p0 λa24=>
 ∃n87,w23.cell? (a24.add 1)=some (.int .i64 n87)/\
 ptrE p0 λa25=>
 ∃s91,w23.cell? a25=some (.string s91)/\
 Br (decide (n87<(s91.size:Int))) (
 ptrE p0 λa26=>
 ∃n97,w23.cell? (a26.add 1)=some (.int .i64 n97)/\
 ptrE p0 λa27=>
 st1 (a27.add 1) (.int .i64 (IntKind.i64.wrap (n97+1))) w23 λw28=>
 runD prog ds w28 λw29=>
 R (.returned (.tuple #[])) w29) (
 runD prog ds w23 λw30=>
 R (.returned (.tuple #[])) w30)) (
 Calls prog 35 #[.pointer p0] w16 λe w31=>
 e=.returned (.tuple #[])/\
 runD prog ds w31 λw32=>
 R (.returned (.tuple #[])) w32)) (
 Calls prog 35 #[.pointer p0] w11 λe w33=>
 e=.returned (.tuple #[])/\
 runD prog ds w33 λw34=>
 R (.returned (.tuple #[])) w34))) (
 Br (n2 == 42) (
 ptrE p0 λa35=>
 ∃b46,w11.cell? (a35.add 2)=some (.bool b46)/\
 Br (!b46) (
 Calls prog 31 #[.pointer p0] w11 λe w36=>
 ∃b51:Bool,e=.returned (.bool b51)/\
 Br b51 (
 ptrE p0 λa37=>
 ∃n58,w36.cell? (a37.add 1)=some (.int .i64 n58)/\
 Calls prog 33 #[.pointer p0,.int .i64 n58] w36 λe w38=>
 ∃n59:Int,e=.returned (.int .i64 n59)/\
 Calls prog 32 #[.pointer p0,.int .i64 n59] w38 λe w39=>
 e=.returned (.tuple #[])/\
 runD prog ds w39 λw40=>
 R (.returned (.tuple #[])) w40) (
 Br (n2 == 59) (
 Calls prog 34 #[.pointer p0] w36 λe w41=>
 ∃b66:Bool,e=.returned (.bool b66)/\
 Br b66 (
 ptrE p0 λa42=>
 ∃n71,w41.cell? (a42.add 1)=some (.int .i64 n71)/\
 ptrE p0 λa43=>
 st1 (a43.add 1) (.int .i64 (IntKind.i64.wrap (n71+1))) w41 λw44=>
 ptrE p0 λa45=>
 ∃n79,w44.cell? (a45.add 1)=some (.int .i64 n79)/\
 Calls prog 33 #[.pointer p0,.int .i64 n79] w44 λe w46=>
 ∃n80:Int,e=.returned (.int .i64 n80)/\
 Calls prog 32 #[.pointer p0,.int .i64 n80] w46 λe w47=>
 e=.returned (.tuple #[])/\
 dwE w47 λw48=>
 ptrE p0 λa49=>
 ∃n87,w48.cell? (a49.add 1)=some (.int .i64 n87)/\
 ptrE p0 λa50=>
 ∃s91,w48.cell? a50=some (.string s91)/\
 Br (decide (n87<(s91.size:Int))) (
 ptrE p0 λa51=>
 ∃n97,w48.cell? (a51.add 1)=some (.int .i64 n97)/\
 ptrE p0 λa52=>
 st1 (a52.add 1) (.int .i64 (IntKind.i64.wrap (n97+1))) w48 λw53=>
 runD prog ds w53 λw54=>
 R (.returned (.tuple #[])) w54) (
 runD prog ds w48 λw55=>
 R (.returned (.tuple #[])) w55)) (
 Calls prog 35 #[.pointer p0] w41 λe w56=>
 e=.returned (.tuple #[])/\
 runD prog ds w56 λw57=>
 R (.returned (.tuple #[])) w57)) (
 Calls prog 35 #[.pointer p0] w36 λe w58=>
 e=.returned (.tuple #[])/\
 runD prog ds w58 λw59=>
 R (.returned (.tuple #[])) w59))) (
 Br (n2 == 59) (
 Calls prog 34 #[.pointer p0] w11 λe w60=>
 ∃b66:Bool,e=.returned (.bool b66)/\
 Br b66 (
 ptrE p0 λa61=>
 ∃n71,w60.cell? (a61.add 1)=some (.int .i64 n71)/\
 ptrE p0 λa62=>
 st1 (a62.add 1) (.int .i64 (IntKind.i64.wrap (n71+1))) w60 λw63=>
 ptrE p0 λa64=>
 ∃n79,w63.cell? (a64.add 1)=some (.int .i64 n79)/\
 Calls prog 33 #[.pointer p0,.int .i64 n79] w63 λe w65=>
 ∃n80:Int,e=.returned (.int .i64 n80)/\
 Calls prog 32 #[.pointer p0,.int .i64 n80] w65 λe w66=>
 e=.returned (.tuple #[])/\
 dwE w66 λw67=>
 ptrE p0 λa68=>
 ∃n87,w67.cell? (a68.add 1)=some (.int .i64 n87)/\
 ptrE p0 λa69=>
 ∃s91,w67.cell? a69=some (.string s91)/\
 Br (decide (n87<(s91.size:Int))) (
 ptrE p0 λa70=>
 ∃n97,w67.cell? (a70.add 1)=some (.int .i64 n97)/\
 ptrE p0 λa71=>
 st1 (a71.add 1) (.int .i64 (IntKind.i64.wrap (n97+1))) w67 λw72=>
 runD prog ds w72 λw73=>
 R (.returned (.tuple #[])) w73) (
 runD prog ds w67 λw74=>
 R (.returned (.tuple #[])) w74)) (
 Calls prog 35 #[.pointer p0] w60 λe w75=>
 e=.returned (.tuple #[])/\
 runD prog ds w75 λw76=>
 R (.returned (.tuple #[])) w76)) (
 Calls prog 35 #[.pointer p0] w11 λe w77=>
 e=.returned (.tuple #[])/\
 runD prog ds w77 λw78=>
 R (.returned (.tuple #[])) w78))) (
 Br (n2 == 59) (
 Calls prog 34 #[.pointer p0] w11 λe w79=>
 ∃b66:Bool,e=.returned (.bool b66)/\
 Br b66 (
 ptrE p0 λa80=>
 ∃n71,w79.cell? (a80.add 1)=some (.int .i64 n71)/\
 ptrE p0 λa81=>
 st1 (a81.add 1) (.int .i64 (IntKind.i64.wrap (n71+1))) w79 λw82=>
 ptrE p0 λa83=>
 ∃n79,w82.cell? (a83.add 1)=some (.int .i64 n79)/\
 Calls prog 33 #[.pointer p0,.int .i64 n79] w82 λe w84=>
 ∃n80:Int,e=.returned (.int .i64 n80)/\
 Calls prog 32 #[.pointer p0,.int .i64 n80] w84 λe w85=>
 e=.returned (.tuple #[])/\
 dwE w85 λw86=>
 ptrE p0 λa87=>
 ∃n87,w86.cell? (a87.add 1)=some (.int .i64 n87)/\
 ptrE p0 λa88=>
 ∃s91,w86.cell? a88=some (.string s91)/\
 Br (decide (n87<(s91.size:Int))) (
 ptrE p0 λa89=>
 ∃n97,w86.cell? (a89.add 1)=some (.int .i64 n97)/\
 ptrE p0 λa90=>
 st1 (a90.add 1) (.int .i64 (IntKind.i64.wrap (n97+1))) w86 λw91=>
 runD prog ds w91 λw92=>
 R (.returned (.tuple #[])) w92) (
 runD prog ds w86 λw93=>
 R (.returned (.tuple #[])) w93)) (
 Calls prog 35 #[.pointer p0] w79 λe w94=>
 e=.returned (.tuple #[])/\
 runD prog ds w94 λw95=>
 R (.returned (.tuple #[])) w95)) (
 Calls prog 35 #[.pointer p0] w11 λe w96=>
 e=.returned (.tuple #[])/\
 runD prog ds w96 λw97=>
 R (.returned (.tuple #[])) w97)))))
def F15_2(R:Rt)(p0:Option Addr)(ds:Ds)(w:World):Prop:=
 dwE w λw98=>
 ptrE p0 λa99=>
 ∃s7,w98.cell? a99=some (.string s7)/\
 ptrE p0 λa100=>
 ∃n11,w98.cell? (a100.add 1)=some (.int .i64 n11)/\
 ∃b12:UInt8,0<=n11/\s7[n11.toNat]?=some b12/\
 F15_1 R p0 (b12.toNat:Int) ds w98
theorem F15_p:Pl prog f15 [pS 0] F15_2:=λR=>
  pc 1 (rest [pS 0,kS .u8 2] (F15_1 R) lf)
theorem F15_calls (p0:Option Addr) (w:World) (R:Rt) (h:F15_2 R p0 [] w):Calls prog 15 #[.pointer p0] w R:=
  plC F15_p func15 h
def F8_1(R:Rt)(p5:Option Addr)(ds:Ds)(w:World):Prop:=
 ptrE p5 λa1=>
 ∃n31,w.cell? (a1.add 3)=some (.int .i64 n31)/\
 Br (decide (n31 ≥ 0)) (
 dwE w λw2=>
 ptrE p5 λa3=>
 ∃n36,w2.cell? (a3.add 3)=some (.int .i64 n36)/\
 runD prog ds w2 λw4=>
 R (.returned (.tuple #[.slice none 0 0,.int .i64 n36,.int .i64 2])) w4) (
 Calls prog 16 #[.pointer p5] w λe w5=>
 e=.returned (.tuple #[])/\
 ptrE p5 λa6=>
 ∃l42:SV,w5.cell? (a6.add 4)=some (.slice l42.a l42.len l42.cap)/\
 Br (decide ((l42.len:Int) > 1200)) (
 runD prog ds w5 λw7=>
 R (.returned (.tuple #[.slice none 0 0,.int .i64 0,.int .i64 3])) w7) (
 dwE w5 λw8=>
 ptrE p5 λa9=>
 ∃l48:SV,w8.cell? (a9.add 4)=some (.slice l48.a l48.len l48.cap)/\
 ptrE p5 λa10=>
 ∃l52:SV,w8.cell? (a10.add 4)=some (.slice l52.a l52.len l52.cap)/\
 runD prog ds w8 λw11=>
 R (.returned (.tuple #[.slice l48.a l48.len l48.cap,.int .i64 (l52.len:Int),.int .i64 0])) w11))
def F8_2 (R:Rt) (J1:(Unit)->World->Prop) (s0:ByteArray) (p5:Option Addr) (ds:Ds) (w:World):Prop:=
 ptrE p5 λa12=>
 ∃n15,w.cell? (a12.add 1)=some (.int .i64 n15)/\
 Br (decide (n15<(s0.size:Int))) (
 ptrE p5 λa13=>
 ∃n23,w.cell? (a13.add 3)=some (.int .i64 n23)/\
 Br (decide (n23<0)) (
 Calls prog 15 #[.pointer p5] w λe w14=>
 e=.returned (.tuple #[])/\
 J1 () w14) (
 F8_1 R p5 ds w)) (
 F8_1 R p5 ds w)
def F8_3(R:Rt)(s0:ByteArray)(p5:Option Addr)(ds:Ds)(w:World):Prop:=
 loopT (λ(J1:(Unit)->World->Prop) (_:Unit) (w:World)=>F8_2 R J1 s0 p5 ds w) () w
def F8_5(R:Rt)(s0:ByteArray)(ds:Ds)(w:World):Prop:=
 Br (decide ((s0.size:Int) > 4000)) (
 runD prog ds w λw15=>
 R (.returned (.tuple #[.slice none 0 0,.int .i64 0,.int .i64 3])) w15) (
 alE (.cells #[.string s0,.int .i64 0,.bool false,.int .i64 (-1),.slice none 0 0] 41) w λr11 w16=>
 F8_3 R s0 (some (⟨r11,0,none⟩:Addr)) ds w16)
theorem F8_p:Pl prog f8 [sS 0] F8_5:=λR=>
  pc 4 (rest [sS 0,pS 5] (F8_3 R) (bk 0 (rest [pS 5] (F8_1 R) lf) (lp [] [sS 0,pS 5] (F8_2 R) rnil λJ1=>lf)))
theorem F8_calls (s0:ByteArray) (w:World) (R:Rt) (h:F8_5 R s0 [] w):Calls prog 8 #[.string s0] w R:=
  plC F8_p func8 h
end Go.Proofs.YtjbfehippchniaaGreatDoor

/- Shallow texts of functions, printed by program, each checked by the kernel against the loaded code. No condition. -/
set_option maxRecDepth 100000
set_option linter.unusedVariables false
namespace Go.Proofs.YtjbfehippchniaaGreatDoor
open Go.Sh Tryz
def F81_1(R:Rt)(s0:ByteArray)(ds:Ds)(w:World):Prop:=
 Br (decide ((s0.size:Int) > 4000)) (
 runD prog ds w λw1=>
 R (.returned (.tuple #[.slice none 0 0,.int .i64 0,.int .i64 3])) w1) (
 Calls prog 119 #[] w λe w2=>
 ∃c11:Array Value,c11.size=256/\e=.returned (.agg c11)/\
 rawE prog (Instr.build 152 #[(0,.string s0),(2,.agg c11),(5,.int .i64 (-1))]) w2 λb12 w3=>
 alE (.cells ((b12).cells) 152) w3 λr13 w4=>
 Calls prog 121 #[.pointer (some (⟨r13,0,none⟩:Addr))] w4 λe w5=>
 ∃v15:Value,e=.returned (v15)/\
 Calls prog 120 #[v15] w5 λe w6=>
 ∃l16:SV,e=.returned (.slice l16.a l16.len l16.cap)/\
 ∃n20,w6.cell? ((⟨r13,0,none⟩:Addr).add 260)=some (.int .i64 n20)/\
 Br (decide (n20 ≥ 0)) (
 dwE w6 λw7=>
 ∃n25,w7.cell? ((⟨r13,0,none⟩:Addr).add 260)=some (.int .i64 n25)/\
 runD prog ds w7 λw8=>
 R (.returned (.tuple #[.slice none 0 0,.int .i64 n25,.int .i64 2])) w8) (
 Br (decide ((l16.len:Int) > 1200)) (
 runD prog ds w6 λw9=>
 R (.returned (.tuple #[.slice none 0 0,.int .i64 0,.int .i64 3])) w9) (
 runD prog ds w6 λw10=>
 R (.returned (.tuple #[.slice l16.a l16.len l16.cap,.int .i64 (l16.len:Int),.int .i64 0])) w10)))
theorem F81_p:Pl prog f81 [sS 0] F81_1:=λR=>
  lf
theorem F81_calls (s0:ByteArray) (w:World) (R:Rt) (h:F81_1 R s0 [] w):Calls prog 81 #[.string s0] w R:=
  plC F81_p func81 h
def F120_1(R:Rt)(v0:Value)(ds:Ds)(w:World):Prop:=
 Calls prog 148 #[.slice none 0 0,v0] w λe w1=>
 ∃l4:SV,e=.returned (.slice l4.a l4.len l4.cap)/\
 runD prog ds w1 λw2=>
 R (.returned (.slice l4.a l4.len l4.cap)) w2
theorem F120_p:Pl prog f120 [vS 0] F120_1:=λR=>
  lf
theorem F120_calls (v0:Value) (w:World) (R:Rt) (h:F120_1 R v0 [] w):Calls prog 120 #[v0] w R:=
  plC F120_p func120 h
def F121_1(R:Rt)(p0:Option Addr)(ds:Ds)(w:World):Prop:=
 alE (.cells #[.pointer p0] 148) w λr1 w1=>
 runD prog ds w1 λw2=>
 R (.returned (.func (.func 149) #[] #[.pointer (some (⟨r1,0,none⟩:Addr))])) w2
theorem F121_p:Pl prog f121 [pS 0] F121_1:=λR=>
  lf
theorem F121_calls (p0:Option Addr) (w:World) (R:Rt) (h:F121_1 R p0 [] w):Calls prog 121 #[.pointer p0] w R:=
  plC F121_p func121 h
end Go.Proofs.YtjbfehippchniaaGreatDoor

/- Shallow texts of functions, printed by program, each checked by the kernel against the loaded code. No condition. -/
set_option maxRecDepth 100000
set_option linter.unusedVariables false
namespace Go.Proofs.YtjbfehippchniaaGreatDoor
open Go.Sh Tryz
def F60_1(R:Rt)(p0:Option Addr)(n1:Int)(ds:Ds)(w:World):Prop:=
 ptrE p0 λa1=>
 ∃n7,w.cell? (a1.add 3)=some (.int .i64 n7)/\
 Br (decide (n7<0)) (
 ptrE p0 λa2=>
 st1 (a2.add 3) (.int .i64 n1) w λw3=>
 runD prog ds w3 λw4=>
 R (.returned (.tuple #[])) w4) (
 ptrE p0 λa5=>
 ∃n14,w.cell? (a5.add 3)=some (.int .i64 n14)/\
 Br (decide (n1<n14)) (
 ptrE p0 λa6=>
 st1 (a6.add 3) (.int .i64 n1) w λw7=>
 runD prog ds w7 λw8=>
 R (.returned (.tuple #[])) w8) (
 runD prog ds w λw9=>
 R (.returned (.tuple #[])) w9))
theorem F60_p:Pl prog f60 [pS 0,iS 1] F60_1:=λR=>
  lf
theorem F60_calls (p0:Option Addr) (n1:Int) (w:World) (R:Rt) (h:F60_1 R p0 n1 [] w):Calls prog 60 #[.pointer p0,.int .i64 n1] w R:=
  plC F60_p func60 h
def F33_1(R:Rt)(n1:Int)(ds:Ds)(w:World):Prop:=
 runD prog ds w λw1=>
 R (.returned (.int .i64 n1)) w1
def F33_2 (R:Rt) (J1:(Int)->World->Prop) (p0:Option Addr) (n1:Int) (ds:Ds) (w:World):Prop:=
 ptrE p0 λa2=>
 ∃s9,w.cell? a2=some (.string s9)/\
 Br (decide (n1<(s9.size:Int))) (
 ptrE p0 λa3=>
 ∃s16,w.cell? a3=some (.string s16)/\
 ∃b18:UInt8,0<=n1/\s16[n1.toNat]?=some b18/\
 Br ((b18.toNat:Int) != 10) (
 J1 (IntKind.i64.wrap (n1+1)) w) (
 F33_1 R n1 ds w)) (
 F33_1 R n1 ds w)
def F33_3(R:Rt)(p0:Option Addr)(n1:Int)(ds:Ds)(w:World):Prop:=
 loopT (λ(J1:(Int)->World->Prop) (s:Int) (w:World)=>F33_2 R J1 p0 s ds w) n1 w
def F33_5(R:Rt)(p0:Option Addr)(n1:Int)(ds:Ds)(w:World):Prop:=
 F33_3 R p0 n1 ds w
theorem F33_p:Pl prog f33 [pS 0,iS 1] F33_5:=λR=>
  pc 1 (rest [pS 0,iS 1] (F33_3 R) (bk 0 (rest [iS 1] (F33_1 R) lf) (lp [iS 1] [pS 0,iS 1] (F33_2 R) rnil λJ1=>lf)))
theorem F33_calls (p0:Option Addr) (n1:Int) (w:World) (R:Rt) (h:F33_5 R p0 n1 [] w):Calls prog 33 #[.pointer p0,.int .i64 n1] w R:=
  plC F33_p func33 h
def F32_1 (R:Rt) (J1:(Unit)->World->Prop) (p0:Option Addr) (n1:Int) (ds:Ds) (w:World):Prop:=
 ptrE p0 λa1=>
 ∃n7,w.cell? (a1.add 1)=some (.int .i64 n7)/\
 Br (decide (n7<n1)) (
 dwE w λw2=>
 ptrE p0 λa3=>
 ∃s13,w2.cell? a3=some (.string s13)/\
 ptrE p0 λa4=>
 ∃n17,w2.cell? (a4.add 1)=some (.int .i64 n17)/\
 ∃b18:UInt8,0<=n17/\s13[n17.toNat]?=some b18/\
 Calls prog 59 #[.int .u8 (b18.toNat:Int)] w2 λe w5=>
 ∃b19:Bool,e=.returned (.bool b19)/\
 Br (!b19) (
 ptrE p0 λa6=>
 ∃n25,w5.cell? (a6.add 1)=some (.int .i64 n25)/\
 Calls prog 60 #[.pointer p0,.int .i64 n25] w5 λe w7=>
 e=.returned (.tuple #[])/\
 ptrE p0 λa8=>
 ∃n30,w7.cell? (a8.add 1)=some (.int .i64 n30)/\
 ptrE p0 λa9=>
 st1 (a9.add 1) (.int .i64 (IntKind.i64.wrap (n30+1))) w7 λw10=>
 J1 () w10) (
 ptrE p0 λa11=>
 ∃n30,w5.cell? (a11.add 1)=some (.int .i64 n30)/\
 ptrE p0 λa12=>
 st1 (a12.add 1) (.int .i64 (IntKind.i64.wrap (n30+1))) w5 λw13=>
 J1 () w13)) (
 runD prog ds w λw14=>
 R (.returned (.tuple #[])) w14)
def F32_2(R:Rt)(p0:Option Addr)(n1:Int)(ds:Ds)(w:World):Prop:=
 loopT (λ(J1:(Unit)->World->Prop) (_:Unit) (w:World)=>F32_1 R J1 p0 n1 ds w) () w
theorem F32_p:Pl prog f32 [pS 0,iS 1] F32_2:=λR=>
  bk 0 rnil (lp [] [pS 0,iS 1] (F32_1 R) rnil λJ1=>lf)
theorem F32_calls (p0:Option Addr) (n1:Int) (w:World) (R:Rt) (h:F32_2 R p0 n1 [] w):Calls prog 32 #[.pointer p0,.int .i64 n1] w R:=
  plC F32_p func32 h
def F30_1(R:Rt)(p0:Option Addr)(ds:Ds)(w:World):Prop:=
 dwE w λw1=>
 ptrE p0 λa2=>
 ∃n6,w1.cell? (a2.add 1)=some (.int .i64 n6)/\
 ptrE p0 λa3=>
 ∃s11,w1.cell? a3=some (.string s11)/\
 Br (decide ((IntKind.i64.wrap (n6+1))<(s11.size:Int))) (
 ptrE p0 λa4=>
 ∃s18,w1.cell? a4=some (.string s18)/\
 ptrE p0 λa5=>
 ∃n22,w1.cell? (a5.add 1)=some (.int .i64 n22)/\
 ∃b23:UInt8,0<=n22/\s18[n22.toNat]?=some b23/\
 Br ((b23.toNat:Int) == 38) (
 ptrE p0 λa6=>
 ∃s30,w1.cell? a6=some (.string s30)/\
 ptrE p0 λa7=>
 ∃n34,w1.cell? (a7.add 1)=some (.int .i64 n34)/\
 ∃b36:UInt8,0<=(IntKind.i64.wrap (n34+1))/\s30[(IntKind.i64.wrap (n34+1)).toNat]?=some b36/\
 runD prog ds w1 λw8=>
 R (.returned (.bool ((b36.toNat:Int) == 38))) w8) (
 runD prog ds w1 λw9=>
 R (.returned (.bool false)) w9)) (
 runD prog ds w1 λw10=>
 R (.returned (.bool false)) w10)
theorem F30_p:Pl prog f30 [pS 0] F30_1:=λR=>
  lf
theorem F30_calls (p0:Option Addr) (w:World) (R:Rt) (h:F30_1 R p0 [] w):Calls prog 30 #[.pointer p0] w R:=
  plC F30_p func30 h
def F31_1(R:Rt)(p0:Option Addr)(n3:Int)(ds:Ds)(w:World):Prop:=
 Br (decide (n3<0)) (
 runD prog ds w λw1=>
 R (.returned (.bool true)) w1) (
 ptrE p0 λa2=>
 ∃s28,w.cell? a2=some (.string s28)/\
 ∃b30:UInt8,0<=n3/\s28[n3.toNat]?=some b30/\
 runD prog ds w λw3=>
 R (.returned (.bool ((b30.toNat:Int) == 10))) w3)
def F31_2 (R:Rt) (J1:(Int)->World->Prop) (p0:Option Addr) (n3:Int) (ds:Ds) (w:World):Prop:=
 Br (decide (n3 ≥ 0)) (
 ptrE p0 λa4=>
 ∃s15,w.cell? a4=some (.string s15)/\
 ∃b17:UInt8,0<=n3/\s15[n3.toNat]?=some b17/\
 Calls prog 29 #[.int .u8 (b17.toNat:Int)] w λe w5=>
 ∃b18:Bool,e=.returned (.bool b18)/\
 Br b18 (
 J1 (IntKind.i64.wrap (n3 - 1)) w5) (
 F31_1 R p0 n3 ds w5)) (
 F31_1 R p0 n3 ds w)
def F31_3(R:Rt)(p0:Option Addr)(n3:Int)(ds:Ds)(w:World):Prop:=
 loopT (λ(J1:(Int)->World->Prop) (s:Int) (w:World)=>F31_2 R J1 p0 s ds w) n3 w
def F31_5(R:Rt)(p0:Option Addr)(ds:Ds)(w:World):Prop:=
 ptrE p0 λa6=>
 ∃n7,w.cell? (a6.add 1)=some (.int .i64 n7)/\
 F31_3 R p0 (IntKind.i64.wrap (n7 - 1)) ds w
theorem F31_p:Pl prog f31 [pS 0] F31_5:=λR=>
  pc 2 (rest [pS 0,iS 3] (F31_3 R) (bk 0 (rest [pS 0,iS 3] (F31_1 R) lf) (lp [iS 3] [pS 0,iS 3] (F31_2 R) rnil λJ1=>lf)))
theorem F31_calls (p0:Option Addr) (w:World) (R:Rt) (h:F31_5 R p0 [] w):Calls prog 31 #[.pointer p0] w R:=
  plC F31_p func31 h
def F34_1(R:Rt)(p0:Option Addr)(n3:Int)(ds:Ds)(w:World):Prop:=
 ptrE p0 λa1=>
 ∃s31,w.cell? a1=some (.string s31)/\
 Br (decide (n3 ≥ (s31.size:Int))) (
 runD prog ds w λw2=>
 R (.returned (.bool true)) w2) (
 ptrE p0 λa3=>
 ∃s38,w.cell? a3=some (.string s38)/\
 ∃b40:UInt8,0<=n3/\s38[n3.toNat]?=some b40/\
 Br ((b40.toNat:Int) == 10) (
 runD prog ds w λw4=>
 R (.returned (.bool true)) w4) (
 ptrE p0 λa5=>
 ∃s49,w.cell? a5=some (.string s49)/\
 Br (decide ((IntKind.i64.wrap (n3+1))<(s49.size:Int))) (
 ptrE p0 λa6=>
 ∃s56,w.cell? a6=some (.string s56)/\
 0<=(IntKind.i64.wrap (n3+2))/\(IntKind.i64.wrap (n3+2)).toNat<=s56.size/\0<=n3/\n3.toNat<=(IntKind.i64.wrap (n3+2)).toNat/\
 runD prog ds w λw7=>
 R (.returned (.bool ((s56.extract n3.toNat ((IntKind.i64.wrap (n3+2)).toNat)).toList == (⟨#[38,38]⟩:ByteArray).toList))) w7) (
 runD prog ds w λw8=>
 R (.returned (.bool false)) w8)))
def F34_2 (R:Rt) (J1:(Int)->World->Prop) (p0:Option Addr) (n3:Int) (ds:Ds) (w:World):Prop:=
 ptrE p0 λa9=>
 ∃s13,w.cell? a9=some (.string s13)/\
 Br (decide (n3<(s13.size:Int))) (
 ptrE p0 λa10=>
 ∃s20,w.cell? a10=some (.string s20)/\
 ∃b22:UInt8,0<=n3/\s20[n3.toNat]?=some b22/\
 Calls prog 29 #[.int .u8 (b22.toNat:Int)] w λe w11=>
 ∃b23:Bool,e=.returned (.bool b23)/\
 Br b23 (
 J1 (IntKind.i64.wrap (n3+1)) w11) (
 F34_1 R p0 n3 ds w11)) (
 F34_1 R p0 n3 ds w)
def F34_3(R:Rt)(p0:Option Addr)(n3:Int)(ds:Ds)(w:World):Prop:=
 loopT (λ(J1:(Int)->World->Prop) (s:Int) (w:World)=>F34_2 R J1 p0 s ds w) n3 w
def F34_5(R:Rt)(p0:Option Addr)(ds:Ds)(w:World):Prop:=
 ptrE p0 λa12=>
 ∃n7,w.cell? (a12.add 1)=some (.int .i64 n7)/\
 F34_3 R p0 (IntKind.i64.wrap (n7+1)) ds w
theorem F34_p:Pl prog f34 [pS 0] F34_5:=λR=>
  pc 2 (rest [pS 0,iS 3] (F34_3 R) (bk 0 (rest [pS 0,iS 3] (F34_1 R) lf) (lp [iS 3] [pS 0,iS 3] (F34_2 R) rnil λJ1=>lf)))
theorem F34_calls (p0:Option Addr) (w:World) (R:Rt) (h:F34_5 R p0 [] w):Calls prog 34 #[.pointer p0] w R:=
  plC F34_p func34 h
def F62_1(R:Rt)(p0:Option Addr)(n1:Int)(s2:ByteArray)(n3:Int)(ds:Ds)(w:World):Prop:=
 dwE w λw1=>
 ∃S1:World->Prop,S1 w1/\
 ptrE p0 λa2=>
 ∃l12:SV,(∀w',S1 w'->w'.cell? (a2.add 4)=some (.slice l12.a l12.len l12.cap))/\
 ptrE p0 λa3=>
 ∃n17,(∀w',S1 w'->w'.cell? (a3.add 1)=some (.int .i64 n17))/\
 alE (.cells #[.int .i64 n1,.int .i64 n17,.string s2] 30) w1 λr20 w4=>
 S1 w4/\
 ∃l21:SV,∃w5,(Builtin.append_ #[25,25] 25 #[.slice l12.a l12.len l12.cap,.slice (some ⟨r20,0,none⟩) 1 1]).run prog w4=.ok (.slice l21.a l21.len l21.cap) w5/\
 ptrE p0 λa6=>
 st1 (a6.add 4) (.slice l21.a l21.len l21.cap) w5 λw7=>
 ptrE p0 λa8=>
 ∃n27,w7.cell? (a8.add 1)=some (.int .i64 n27)/\
 ptrE p0 λa9=>
 st1 (a9.add 1) (.int .i64 (IntKind.i64.wrap (n27+n3))) w7 λw10=>
 ptrE p0 λa11=>
 st1 (a11.add 2) (.bool true) w10 λw12=>
 runD prog ds w12 λw13=>
 R (.returned (.tuple #[])) w13
theorem F62_p:Pl prog f62 [pS 0,iS 1,sS 2,iS 3] F62_1:=λR=>
  lf
theorem F62_calls (p0:Option Addr) (n1:Int) (s2:ByteArray) (n3:Int) (w:World) (R:Rt) (h:F62_1 R p0 n1 s2 n3 [] w):Calls prog 62 #[.pointer p0,.int .i64 n1,.string s2,.int .i64 n3] w R:=
  plC F62_p func62 h
def F16_1(R:Rt)(p0:Option Addr)(ds:Ds)(w:World):Prop:=
 ptrE p0 λa1=>
 ∃b5,w.cell? (a1.add 2)=some (.bool b5)/\
 Br b5 (
 dwE w λw2=>
 ∃S1:World->Prop,S1 w2/\
 ptrE p0 λa3=>
 ∃l10:SV,(∀w',S1 w'->w'.cell? (a3.add 4)=some (.slice l10.a l10.len l10.cap))/\
 ptrE p0 λa4=>
 ∃n14,(∀w',S1 w'->w'.cell? (a4.add 1)=some (.int .i64 n14))/\
 alE (.cells #[.int .i64 5,.int .i64 n14,.string (⟨#[]⟩:ByteArray)] 30) w2 λr16 w5=>
 S1 w5/\
 ∃l17:SV,∃w6,(Builtin.append_ #[25,25] 25 #[.slice l10.a l10.len l10.cap,.slice (some ⟨r16,0,none⟩) 1 1]).run prog w5=.ok (.slice l17.a l17.len l17.cap) w6/\
 ptrE p0 λa7=>
 st1 (a7.add 4) (.slice l17.a l17.len l17.cap) w6 λw8=>
 ptrE p0 λa9=>
 st1 (a9.add 2) (.bool false) w8 λw10=>
 runD prog ds w10 λw11=>
 R (.returned (.tuple #[])) w11) (
 ptrE p0 λa12=>
 st1 (a12.add 2) (.bool false) w λw13=>
 runD prog ds w13 λw14=>
 R (.returned (.tuple #[])) w14)
theorem F16_p:Pl prog f16 [pS 0] F16_1:=λR=>
  lf
theorem F16_calls (p0:Option Addr) (w:World) (R:Rt) (h:F16_1 R p0 [] w):Calls prog 16 #[.pointer p0] w R:=
  plC F16_p func16 h
def F61_1(R:Rt)(n5:Int)(ds:Ds)(w:World):Prop:=
 runD prog ds w λw1=>
 R (.returned (.int .i64 n5)) w1
def F61_2 (R:Rt) (J1:(Int)->World->Prop) (p0:Option Addr) (b1:Bool) (n5:Int) (ds:Ds) (w:World):Prop:=
 dwE w λw2=>
 ptrE p0 λa3=>
 ∃n10,w2.cell? (a3.add 1)=some (.int .i64 n10)/\
 ptrE p0 λa4=>
 ∃s16,w2.cell? a4=some (.string s16)/\
 Br (decide ((IntKind.i64.wrap (n10+n5))<(s16.size:Int))) (
 dwE w2 λw5=>
 ptrE p0 λa6=>
 ∃s22,w5.cell? a6=some (.string s22)/\
 ptrE p0 λa7=>
 ∃n26,w5.cell? (a7.add 1)=some (.int .i64 n26)/\
 ∃b29:UInt8,0<=(IntKind.i64.wrap (n26+n5))/\s22[(IntKind.i64.wrap (n26+n5)).toNat]?=some b29/\
 Calls prog 28 #[.int .u8 (b29.toNat:Int)] w5 λe w8=>
 ∃b31:Bool,e=.returned (.bool b31)/\
 Br (!b31) (
 Br b1 (
 Calls prog 27 #[.int .u8 (b29.toNat:Int)] w8 λe w9=>
 ∃b37:Bool,e=.returned (.bool b37)/\
 Br (!b37) (
 F61_1 R n5 ds w9) (
 J1 (IntKind.i64.wrap (n5+1)) w9)) (
 F61_1 R n5 ds w8)) (
 J1 (IntKind.i64.wrap (n5+1)) w8)) (
 F61_1 R n5 ds w2)
def F61_3(R:Rt)(p0:Option Addr)(b1:Bool)(n5:Int)(ds:Ds)(w:World):Prop:=
 loopT (λ(J1:(Int)->World->Prop) (s:Int) (w:World)=>F61_2 R J1 p0 b1 s ds w) n5 w
def F61_5(R:Rt)(p0:Option Addr)(b1:Bool)(ds:Ds)(w:World):Prop:=
 F61_3 R p0 b1 0 ds w
theorem F61_p:Pl prog f61 [pS 0,bS 1] F61_5:=λR=>
  pc 2 (rest [pS 0,bS 1,iS 5] (F61_3 R) (bk 0 (rest [iS 5] (F61_1 R) lf) (lp [iS 5] [pS 0,bS 1,iS 5] (F61_2 R) rnil λJ1=>lf)))
theorem F61_calls (p0:Option Addr) (b1:Bool) (w:World) (R:Rt) (h:F61_5 R p0 b1 [] w):Calls prog 61 #[.pointer p0,.bool b1] w R:=
  plC F61_p func61 h
end Go.Proofs.YtjbfehippchniaaGreatDoor

/- Shallow texts of functions, printed by program, each checked by the kernel against the loaded code. No condition. -/
set_option maxRecDepth 100000
set_option linter.unusedVariables false
namespace Go.Proofs.YtjbfehippchniaaGreatDoor
open Go.Sh Tryz
def F26_1(R:Rt)(n0_0 n0_1:Int)(s0_2:ByteArray)(ds:Ds)(w:World):Prop:=
 alE (.cells #[.int .i64 n0_0,.int .i64 n0_1,.string s0_2] 30) w λr1 w1=>
 ∃n4,w1.cell? (⟨r1,0,none⟩:Addr)=some (.int .i64 n4)/\
 Br (n4 == 2) (
 ∃s8,w1.cell? ((⟨r1,0,none⟩:Addr).add 2)=some (.string s8)/\
 Calls prog 58 #[.string s8,.int .u8 34] w1 λe w2=>
 ∃b9:Bool,e=.returned (.bool b9)/\
 Br b9 (
 ∃s11,w2.cell? ((⟨r1,0,none⟩:Addr).add 2)=some (.string s11)/\
 (((⟨#[39]⟩:ByteArray).size+s11.size:Nat):Int)<=9223372036854775807/\
 ((((⟨#[39]⟩:ByteArray) ++ s11).size+(⟨#[39]⟩:ByteArray).size:Nat):Int)<=9223372036854775807/\
 runD prog ds w2 λw3=>
 R (.returned (.string (((⟨#[39]⟩:ByteArray) ++ s11) ++ (⟨#[39]⟩:ByteArray)))) w3) (
 ∃s15,w2.cell? ((⟨r1,0,none⟩:Addr).add 2)=some (.string s15)/\
 (((⟨#[34]⟩:ByteArray).size+s15.size:Nat):Int)<=9223372036854775807/\
 ((((⟨#[34]⟩:ByteArray) ++ s15).size+(⟨#[34]⟩:ByteArray).size:Nat):Int)<=9223372036854775807/\
 runD prog ds w2 λw4=>
 R (.returned (.string (((⟨#[34]⟩:ByteArray) ++ s15) ++ (⟨#[34]⟩:ByteArray)))) w4)) (
 Br (n4 == 3) (
 ∃s21,w1.cell? ((⟨r1,0,none⟩:Addr).add 2)=some (.string s21)/\
 Br ((s21.size:Int) != 8) (
 ∃s25,w1.cell? ((⟨r1,0,none⟩:Addr).add 2)=some (.string s25)/\
 (((⟨#[123]⟩:ByteArray).size+s25.size:Nat):Int)<=9223372036854775807/\
 ((((⟨#[123]⟩:ByteArray) ++ s25).size+(⟨#[125]⟩:ByteArray).size:Nat):Int)<=9223372036854775807/\
 runD prog ds w1 λw5=>
 R (.returned (.string (((⟨#[123]⟩:ByteArray) ++ s25) ++ (⟨#[125]⟩:ByteArray)))) w5) (
 dwE w1 λw6=>
 ∃s29,w6.cell? ((⟨r1,0,none⟩:Addr).add 2)=some (.string s29)/\
 0<=(4:Int)/\(4:Int).toNat<=s29.size/\0<=(4:Int).toNat/\
 (((⟨#[123,94]⟩:ByteArray).size+(s29.extract 0 ((4:Int).toNat)).size:Nat):Int)<=9223372036854775807/\
 ((((⟨#[123,94]⟩:ByteArray) ++ (s29.extract 0 ((4:Int).toNat))).size+(⟨#[45]⟩:ByteArray).size:Nat):Int)<=9223372036854775807/\
 ∃s34,w6.cell? ((⟨r1,0,none⟩:Addr).add 2)=some (.string s34)/\
 0<=(6:Int)/\(6:Int).toNat<=s34.size/\0<=(4:Int)/\(4:Int).toNat<=(6:Int).toNat/\
 (((((⟨#[123,94]⟩:ByteArray) ++ (s29.extract 0 ((4:Int).toNat))) ++ (⟨#[45]⟩:ByteArray)).size+(s34.extract ((4:Int).toNat) ((6:Int).toNat)).size:Nat):Int)<=9223372036854775807/\
 ((((((⟨#[123,94]⟩:ByteArray) ++ (s29.extract 0 ((4:Int).toNat))) ++ (⟨#[45]⟩:ByteArray)) ++ (s34.extract ((4:Int).toNat) ((6:Int).toNat))).size+(⟨#[45]⟩:ByteArray).size:Nat):Int)<=9223372036854775807/\
 ∃s39,w6.cell? ((⟨r1,0,none⟩:Addr).add 2)=some (.string s39)/\
 s39.size<=s39.size/\0<=(6:Int)/\(6:Int).toNat<=s39.size/\
 (((((((⟨#[123,94]⟩:ByteArray) ++ (s29.extract 0 ((4:Int).toNat))) ++ (⟨#[45]⟩:ByteArray)) ++ (s34.extract ((4:Int).toNat) ((6:Int).toNat))) ++ (⟨#[45]⟩:ByteArray)).size+(s39.extract ((6:Int).toNat) s39.size).size:Nat):Int)<=9223372036854775807/\
 ((((((((⟨#[123,94]⟩:ByteArray) ++ (s29.extract 0 ((4:Int).toNat))) ++ (⟨#[45]⟩:ByteArray)) ++ (s34.extract ((4:Int).toNat) ((6:Int).toNat))) ++ (⟨#[45]⟩:ByteArray)) ++ (s39.extract ((6:Int).toNat) s39.size)).size+(⟨#[125]⟩:ByteArray).size:Nat):Int)<=9223372036854775807/\
 runD prog ds w6 λw7=>
 R (.returned (.string (((((((⟨#[123,94]⟩:ByteArray) ++ (s29.extract 0 ((4:Int).toNat))) ++ (⟨#[45]⟩:ByteArray)) ++ (s34.extract ((4:Int).toNat) ((6:Int).toNat))) ++ (⟨#[45]⟩:ByteArray)) ++ (s39.extract ((6:Int).toNat) s39.size)) ++ (⟨#[125]⟩:ByteArray)))) w7)) (
 Br (n4 == 5) (
 runD prog ds w1 λw8=>
 R (.returned (.string (⟨#[10]⟩:ByteArray))) w8) (
 ∃s46,w1.cell? ((⟨r1,0,none⟩:Addr).add 2)=some (.string s46)/\
 runD prog ds w1 λw9=>
 R (.returned (.string s46)) w9)))
theorem F26_p:Pl prog f26 [aS 0 [.int .i64,.int .i64,.str]] F26_1:=λR=>
  lf
theorem F26_calls (n0_0 n0_1:Int) (s0_2:ByteArray) (w:World) (R:Rt) (h:F26_1 R n0_0 n0_1 s0_2 [] w):Calls prog 26 #[.agg #[.int .i64 n0_0,.int .i64 n0_1,.string s0_2]] w R:=
  plC F26_p func26 h
def F12_1(R:Rt)(s3:ByteArray)(ds:Ds)(w:World):Prop:=
 runD prog ds w λw1=>
 R (.returned (.string s3)) w1
def F12_2 (R:Rt) (J1:(ByteArray × Int)->World->Prop) (l0:SV) (s3:ByteArray) (n4:Int) (ds:Ds) (w:World):Prop:=
 J1 (s3,(IntKind.i64.wrap (n4+1))) w
def F12_3 (R:Rt) (J1:(ByteArray × Int)->World->Prop) (l0:SV) (s3:ByteArray) (n4:Int) (ds:Ds) (w:World):Prop:=
 Br (decide (n4 > 0)) (
 ∃a2,l0.a=some a2/\0<=n4/\n4<(l0.len:Int)/\
 ∃n18,w.cell? (a2.add (n4.toNat * 3))=some (.int .i64 n18)/\
 Br (n18 != 5) (
 ∃a3,l0.a=some a3/\0<=(IntKind.i64.wrap (n4 - 1))/\(IntKind.i64.wrap (n4 - 1))<(l0.len:Int)/\
 ∃n27,w.cell? (a3.add ((IntKind.i64.wrap (n4 - 1)).toNat * 3))=some (.int .i64 n27)/\
 Br (n27 != 5) (
 ((s3.size+(⟨#[32]⟩:ByteArray).size:Nat):Int)<=9223372036854775807/\
 ∃a4,l0.a=some a4/\0<=n4/\n4<(l0.len:Int)/\
 ∃n36_0,w.cell? ((a4.add (n4.toNat * 3)).add 0)=some (.int .i64 n36_0)/\
 ∃n36_1,w.cell? ((a4.add (n4.toNat * 3)).add 1)=some (.int .i64 n36_1)/\
 ∃s36_2,w.cell? ((a4.add (n4.toNat * 3)).add 2)=some (.string s36_2)/\
 Calls prog 26 #[.agg #[.int .i64 n36_0,.int .i64 n36_1,.string s36_2]] w λe w5=>
 ∃s37:ByteArray,e=.returned (.string s37)/\
 (((s3 ++ (⟨#[32]⟩:ByteArray)).size+s37.size:Nat):Int)<=9223372036854775807/\
 F12_2 R J1 l0 ((s3 ++ (⟨#[32]⟩:ByteArray)) ++ s37) n4 ds w5) (
 ∃a6,l0.a=some a6/\0<=n4/\n4<(l0.len:Int)/\
 ∃n36_0,w.cell? ((a6.add (n4.toNat * 3)).add 0)=some (.int .i64 n36_0)/\
 ∃n36_1,w.cell? ((a6.add (n4.toNat * 3)).add 1)=some (.int .i64 n36_1)/\
 ∃s36_2,w.cell? ((a6.add (n4.toNat * 3)).add 2)=some (.string s36_2)/\
 Calls prog 26 #[.agg #[.int .i64 n36_0,.int .i64 n36_1,.string s36_2]] w λe w7=>
 ∃s37:ByteArray,e=.returned (.string s37)/\
 ((s3.size+s37.size:Nat):Int)<=9223372036854775807/\
 F12_2 R J1 l0 (s3 ++ s37) n4 ds w7)) (
 ∃a8,l0.a=some a8/\0<=n4/\n4<(l0.len:Int)/\
 ∃n36_0,w.cell? ((a8.add (n4.toNat * 3)).add 0)=some (.int .i64 n36_0)/\
 ∃n36_1,w.cell? ((a8.add (n4.toNat * 3)).add 1)=some (.int .i64 n36_1)/\
 ∃s36_2,w.cell? ((a8.add (n4.toNat * 3)).add 2)=some (.string s36_2)/\
 Calls prog 26 #[.agg #[.int .i64 n36_0,.int .i64 n36_1,.string s36_2]] w λe w9=>
 ∃s37:ByteArray,e=.returned (.string s37)/\
 ((s3.size+s37.size:Nat):Int)<=9223372036854775807/\
 F12_2 R J1 l0 (s3 ++ s37) n4 ds w9)) (
 ∃a10,l0.a=some a10/\0<=n4/\n4<(l0.len:Int)/\
 ∃n36_0,w.cell? ((a10.add (n4.toNat * 3)).add 0)=some (.int .i64 n36_0)/\
 ∃n36_1,w.cell? ((a10.add (n4.toNat * 3)).add 1)=some (.int .i64 n36_1)/\
 ∃s36_2,w.cell? ((a10.add (n4.toNat * 3)).add 2)=some (.string s36_2)/\
 Calls prog 26 #[.agg #[.int .i64 n36_0,.int .i64 n36_1,.string s36_2]] w λe w11=>
 ∃s37:ByteArray,e=.returned (.string s37)/\
 ((s3.size+s37.size:Nat):Int)<=9223372036854775807/\
 F12_2 R J1 l0 (s3 ++ s37) n4 ds w11)
def F12_4 (R:Rt) (J1:(ByteArray × Int)->World->Prop) (l0:SV) (s3:ByteArray) (n4:Int) (ds:Ds) (w:World):Prop:=
 Br (decide (n4<(l0.len:Int))) (
 F12_3 R J1 l0 s3 n4 ds w) (
 F12_1 R s3 ds w)
def F12_5(R:Rt)(l0:SV)(s3:ByteArray)(n4:Int)(ds:Ds)(w:World):Prop:=
 loopT (λ(J1:(ByteArray × Int)->World->Prop) (s:ByteArray × Int) (w:World)=>F12_4 R J1 l0 s.1 s.2 ds w) (s3,n4) w
def F12_7(R:Rt)(l0:SV)(ds:Ds)(w:World):Prop:=
 F12_5 R l0 (⟨#[]⟩:ByteArray) 0 ds w
theorem F12_p:Pl prog f12 [lS 0] F12_7:=λR=>
  pc 3 (rest [lS 0,sS 3,iS 4] (F12_5 R) (bk 0 (rest [sS 3] (F12_1 R) lf) (lp [sS 3,iS 4] [lS 0,sS 3,iS 4] (F12_4 R) rnil λJ1=>pc 2 (rest [lS 0,sS 3,iS 4] (F12_3 R J1) (pc 1 (rest [lS 0,sS 3,iS 4] (F12_2 R J1) lf))))))
theorem F12_calls (l0:SV) (w:World) (R:Rt) (h:F12_7 R l0 [] w):Calls prog 12 #[.slice l0.a l0.len l0.cap] w R:=
  plC F12_p func12 h
end Go.Proofs.YtjbfehippchniaaGreatDoor

/- Shallow texts of functions, printed by program, each checked by the kernel against the loaded code. No condition. -/
set_option maxRecDepth 100000
set_option linter.unusedVariables false
namespace Go.Proofs.YtjbfehippchniaaGreatDoor
open Go.Sh Tryz
def F73_1(R:Rt)(s0:ByteArray)(ds:Ds)(w:World):Prop:=
 alE (.cells #[.string s0] 9) w λr1 w1=>
 runD prog ds w1 λw2=>
 R (.returned (.func (.func 111) #[] #[.pointer (some (⟨r1,0,none⟩:Addr))])) w2
theorem F73_p:Pl prog f73 [sS 0] F73_1:=λR=>
  lf
theorem F73_calls (s0:ByteArray) (w:World) (R:Rt) (h:F73_1 R s0 [] w):Calls prog 73 #[.string s0] w R:=
  plC F73_p func73 h
def F39_1(R:Rt)(s0:ByteArray)(ds:Ds)(w:World):Prop:=
 Calls prog 72 #[.string s0,.string (⟨#[32,9]⟩:ByteArray)] w λe w1=>
 ∃s4:ByteArray,e=.returned (.string s4)/\
 runD prog ds w1 λw2=>
 R (.returned (.string s4)) w2
theorem F39_p:Pl prog f39 [sS 0] F39_1:=λR=>
  lf
theorem F39_calls (s0:ByteArray) (w:World) (R:Rt) (h:F39_1 R s0 [] w):Calls prog 39 #[.string s0] w R:=
  plC F39_p func39 h
def F100_1(R:Rt)(s0 s1:ByteArray)(ds:Ds)(w:World):Prop:=
 Calls prog 90 #[.string s0,.string s1] w λe w1=>
 ∃b7:Bool,e=.returned (.bool b7)/\
 runD prog ds w1 λw2=>
 R (.returned (.bool b7)) w2
theorem F100_p:Pl prog f100 [sS 0,sS 1] F100_1:=λR=>
  lf
theorem F100_calls (s0 s1:ByteArray) (w:World) (R:Rt) (h:F100_1 R s0 s1 [] w):Calls prog 100 #[.string s0,.string s1] w R:=
  plC F100_p func100 h
def F90_1(R:Rt)(s0 s1:ByteArray)(ds:Ds)(w:World):Prop:=
 Br (decide ((s0.size:Int) ≥ (s1.size:Int))) (
 s0.size<=s0.size/\0<=(IntKind.i64.wrap ((s0.size:Int) - (s1.size:Int)))/\(IntKind.i64.wrap ((s0.size:Int) - (s1.size:Int))).toNat<=s0.size/\
 runD prog ds w λw1=>
 R (.returned (.bool ((s0.extract ((IntKind.i64.wrap ((s0.size:Int) - (s1.size:Int))).toNat) s0.size).toList == s1.toList))) w1) (
 runD prog ds w λw2=>
 R (.returned (.bool false)) w2)
theorem F90_p:Pl prog f90 [sS 0,sS 1] F90_1:=λR=>
  lf
theorem F90_calls (s0 s1:ByteArray) (w:World) (R:Rt) (h:F90_1 R s0 s1 [] w):Calls prog 90 #[.string s0,.string s1] w R:=
  plC F90_p func90 h
end Go.Proofs.YtjbfehippchniaaGreatDoor

/- Shallow texts of functions, printed by program, each checked by the kernel against the loaded code. No condition. -/
set_option maxRecDepth 100000
set_option linter.unusedVariables false
namespace Go.Proofs.YtjbfehippchniaaGreatDoor
open Go.Sh Tryz
def F18_1(R:Rt)(s0:ByteArray)(ds:Ds)(w:World):Prop:=
 Calls prog 40 #[.string s0] w λe w1=>
 ∃s9:ByteArray,e=.returned (.string s9)/\
 Calls prog 39 #[.string s9] w1 λe w2=>
 ∃s10:ByteArray,e=.returned (.string s10)/\
 Calls prog 41 #[.string s10,.string (⟨#[35]⟩:ByteArray)] w2 λe w3=>
 ∃b12:Bool,e=.returned (.bool b12)/\
 Br (!b12) (
 runD prog ds w3 λw4=>
 R (.returned (.tuple #[.string (⟨#[]⟩:ByteArray),.string (⟨#[]⟩:ByteArray),.bool false])) w4) (
 s10.size<=s10.size/\0<=(1:Int)/\(1:Int).toNat<=s10.size/\
 Calls prog 39 #[.string (s10.extract ((1:Int).toNat) s10.size)] w3 λe w5=>
 ∃s16:ByteArray,e=.returned (.string s16)/\
 alE (.cells #[.string s16,.int .i64 0,.bool false] 78) w5 λr18 w6=>
 Calls prog 43 #[.pointer (some (⟨r18,0,none⟩:Addr))] w6 λe w7=>
 ∃s21:ByteArray,e=.returned (.string s21)/\
 Calls prog 44 #[] w7 λe w8=>
 ∃l22:SV,e=.returned (.slice l22.a l22.len l22.cap)/\
 Calls prog 42 #[.string s21,.slice l22.a l22.len l22.cap] w8 λe w9=>
 ∃s23_0:ByteArray,∃b23_1:Bool,e=.returned (.tuple #[.string s23_0,.bool b23_1])/\
 dwE w9 λw10=>
 ∃s30,w10.cell? (⟨r18,0,none⟩:Addr)=some (.string s30)/\
 ∃n34,w10.cell? ((⟨r18,0,none⟩:Addr).add 1)=some (.int .i64 n34)/\
 s30.size<=s30.size/\0<=n34/\n34.toNat<=s30.size/\
 Calls prog 39 #[.string (s30.extract n34.toNat s30.size)] w10 λe w11=>
 ∃s36:ByteArray,e=.returned (.string s36)/\
 runD prog ds w11 λw12=>
 R (.returned (.tuple #[.string s23_0,.string s36,.bool b23_1])) w12)
theorem F18_p:Pl prog f18 [sS 0] F18_1:=λR=>
  lf
theorem F18_calls (s0:ByteArray) (w:World) (R:Rt) (h:F18_1 R s0 [] w):Calls prog 18 #[.string s0] w R:=
  plC F18_p func18 h
def F43_1(R:Rt)(p0:Option Addr)(n3:Int)(ds:Ds)(w:World):Prop:=
 dwE w λw1=>
 ptrE p0 λa2=>
 ∃s40,w1.cell? a2=some (.string s40)/\
 ptrE p0 λa3=>
 ∃n45,w1.cell? (a3.add 1)=some (.int .i64 n45)/\
 0<=n45/\n45.toNat<=s40.size/\0<=n3/\n3.toNat<=n45.toNat/\
 Calls prog 80 #[.string (s40.extract n3.toNat n45.toNat)] w1 λe w4=>
 ∃s47:ByteArray,e=.returned (.string s47)/\
 runD prog ds w4 λw5=>
 R (.returned (.string s47)) w5
def F43_2 (R:Rt) (J1:(Unit)->World->Prop) (p0:Option Addr) (n3:Int) (ds:Ds) (w:World):Prop:=
 dwE w λw6=>
 ptrE p0 λa7=>
 ∃n11,w6.cell? (a7.add 1)=some (.int .i64 n11)/\
 ptrE p0 λa8=>
 ∃s15,w6.cell? a8=some (.string s15)/\
 Br (decide (n11<(s15.size:Int))) (
 ptrE p0 λa9=>
 ∃s22,w6.cell? a9=some (.string s22)/\
 ptrE p0 λa10=>
 ∃n26,w6.cell? (a10.add 1)=some (.int .i64 n26)/\
 ∃b27:UInt8,0<=n26/\s22[n26.toNat]?=some b27/\
 Calls prog 79 #[.int .u8 (b27.toNat:Int)] w6 λe w11=>
 ∃b28:Bool,e=.returned (.bool b28)/\
 Br b28 (
 ptrE p0 λa12=>
 ∃n33,w11.cell? (a12.add 1)=some (.int .i64 n33)/\
 ptrE p0 λa13=>
 st1 (a13.add 1) (.int .i64 (IntKind.i64.wrap (n33+1))) w11 λw14=>
 J1 () w14) (
 F43_1 R p0 n3 ds w11)) (
 F43_1 R p0 n3 ds w6)
def F43_3(R:Rt)(p0:Option Addr)(n3:Int)(ds:Ds)(w:World):Prop:=
 loopT (λ(J1:(Unit)->World->Prop) (_:Unit) (w:World)=>F43_2 R J1 p0 n3 ds w) () w
def F43_5(R:Rt)(p0:Option Addr)(ds:Ds)(w:World):Prop:=
 ptrE p0 λa15=>
 ∃n7,w.cell? (a15.add 1)=some (.int .i64 n7)/\
 F43_3 R p0 n7 ds w
theorem F43_p:Pl prog f43 [pS 0] F43_5:=λR=>
  pc 2 (rest [pS 0,iS 3] (F43_3 R) (bk 0 (rest [pS 0,iS 3] (F43_1 R) lf) (lp [] [pS 0,iS 3] (F43_2 R) rnil λJ1=>lf)))
theorem F43_calls (p0:Option Addr) (w:World) (R:Rt) (h:F43_5 R p0 [] w):Calls prog 43 #[.pointer p0] w R:=
  plC F43_p func43 h
def F79_1(R:Rt)(b2:Bool)(ds:Ds)(w:World):Prop:=
 runD prog ds w λw1=>
 R (.returned (.bool b2)) w1
def F79_2(R:Rt)(n0:Int)(ds:Ds)(w:World):Prop:=
 Br (n0 == 95) (
 F79_1 R true ds w) (
 Br (decide (n0 ≥ 97)) (
 Br (decide (n0<=122)) (
 F79_1 R true ds w) (
 Br (decide (n0 ≥ 65)) (
 Br (decide (n0<=90)) (
 F79_1 R true ds w) (
 Br (decide (n0 ≥ 48)) (
 F79_1 R (decide (n0<=57)) ds w) (
 F79_1 R false ds w))) (
 Br (decide (n0 ≥ 48)) (
 F79_1 R (decide (n0<=57)) ds w) (
 F79_1 R false ds w)))) (
 Br (decide (n0 ≥ 65)) (
 Br (decide (n0<=90)) (
 F79_1 R true ds w) (
 Br (decide (n0 ≥ 48)) (
 F79_1 R (decide (n0<=57)) ds w) (
 F79_1 R false ds w))) (
 Br (decide (n0 ≥ 48)) (
 F79_1 R (decide (n0<=57)) ds w) (
 F79_1 R false ds w))))
def F79_3(R:Rt)(n0:Int)(ds:Ds)(w:World):Prop:=
 F79_2 R n0 ds w
theorem F79_p:Pl prog f79 [kS .u8 0] F79_3:=λR=>
  pc 1 (rest [kS .u8 0] (F79_2 R) (pc 1 (rest [bS 2] (F79_1 R) lf)))
theorem F79_calls (n0:Int) (w:World) (R:Rt) (h:F79_3 R n0 [] w):Calls prog 79 #[.int .u8 n0] w R:=
  plC F79_p func79 h
def F44_1(R:Rt)(ds:Ds)(w:World):Prop:=
 alE (.cells #[.string (⟨#[68,69,70,73,78,69]⟩:ByteArray),.string (⟨#[85,78,68,69,70]⟩:ByteArray),.string (⟨#[73,70,68,69,70]⟩:ByteArray),.string (⟨#[73,70,78,68,69,70]⟩:ByteArray),.string (⟨#[69,76,83,69]⟩:ByteArray),.string (⟨#[69,78,68,73,70]⟩:ByteArray),.string (⟨#[67,79,77,77,65,78,68]⟩:ByteArray),.string (⟨#[84,82,65,78,83,76,65,84,69]⟩:ByteArray)] 9) w λr1 w1=>
 runD prog ds w1 λw2=>
 R (.returned (.slice (some ⟨r1,0,none⟩) 8 8)) w2
theorem F44_p:Pl prog f44 [] F44_1:=λR=>
  lf
theorem F44_calls  (w:World) (R:Rt) (h:F44_1 R [] w):Calls prog 44 #[] w R:=
  plC F44_p func44 h
end Go.Proofs.YtjbfehippchniaaGreatDoor

/- Shallow texts of functions, printed by program, each checked by the kernel against the loaded code. No condition. -/
set_option maxRecDepth 100000
set_option linter.unusedVariables false
namespace Go.Proofs.YtjbfehippchniaaGreatDoor
open Go.Sh Tryz
def F47_1(R:Rt)(l4:SV)(ds:Ds)(w:World):Prop:=
 Calls prog 82 #[.slice l4.a l4.len l4.cap,.func (.func 83) #[] #[]] w λe w1=>
 ∃n28:Int,e=.returned (.int .i64 n28)/\
 Br (decide (n28<0)) (
 runD prog ds w1 λw2=>
 R (.returned (.tuple #[.slice none 0 0,.bool true])) w2) (
 0<=n28/\n28.toNat<=l4.cap/\0<=n28.toNat/\
 runD prog ds w1 λw3=>
 R (.returned (.tuple #[.slice (if l4.cap=0 then l4.a else l4.a.map (λx=>x.add (0 * 3))) (n28.toNat - 0) (l4.cap - 0),.bool (n28 == (IntKind.i64.wrap ((l4.len:Int) - 1)))])) w3)
def F47_2 (R:Rt) (J1:(Int)->World->Prop) (l4:SV) (n18 n19:Int) (ds:Ds) (w:World):Prop:=
 Br (decide (n19<n18)) (
 ∃a4,l4.a=some a4/\0<=n19/\n19<(l4.len:Int)/\
 st1 ((a4.add (n19.toNat * 3)).add 1) (.int .i64 0) w λw5=>
 J1 (IntKind.i64.wrap (n19+1)) w5) (
 F47_1 R l4 ds w)
def F47_3(R:Rt)(l4:SV)(n18 n19:Int)(ds:Ds)(w:World):Prop:=
 loopT (λ(J1:(Int)->World->Prop) (s:Int) (w:World)=>F47_2 R J1 l4 n18 s ds w) n19 w
def F47_5(R:Rt)(s0:ByteArray)(ds:Ds)(w:World):Prop:=
 Calls prog 81 #[.string s0] w λe w6=>
 ∃l11_0:SV,∃n11_1:Int,∃n11_2:Int,e=.returned (.tuple #[.slice l11_0.a l11_0.len l11_0.cap,.int .i64 n11_1,.int .i64 n11_2])/\
 Br (n11_2 != 0) (
 runD prog ds w6 λw7=>
 R (.returned (.tuple #[.slice none 0 0,.bool false])) w7) (
 F47_3 R l11_0 (l11_0.len:Int) 0 ds w6)
theorem F47_p:Pl prog f47 [sS 0] F47_5:=λR=>
  pc 5 (rest [lS 4,iS 18,iS 19] (F47_3 R) (bk 0 (rest [lS 4] (F47_1 R) lf) (lp [iS 19] [lS 4,iS 18,iS 19] (F47_2 R) rnil λJ1=>lf)))
theorem F47_calls (s0:ByteArray) (w:World) (R:Rt) (h:F47_5 R s0 [] w):Calls prog 47 #[.string s0] w R:=
  plC F47_p func47 h
def F83_1(R:Rt)(n0_0 n0_1:Int)(s0_2:ByteArray)(ds:Ds)(w:World):Prop:=
 alE (.cells #[.int .i64 n0_0,.int .i64 n0_1,.string s0_2] 30) w λr1 w1=>
 ∃n4,w1.cell? (⟨r1,0,none⟩:Addr)=some (.int .i64 n4)/\
 runD prog ds w1 λw2=>
 R (.returned (.bool (n4 == 5))) w2
theorem F83_p:Pl prog f83 [aS 0 [.int .i64,.int .i64,.str]] F83_1:=λR=>
  lf
theorem F83_calls (n0_0 n0_1:Int) (s0_2:ByteArray) (w:World) (R:Rt) (h:F83_1 R n0_0 n0_1 s0_2 [] w):Calls prog 83 #[.agg #[.int .i64 n0_0,.int .i64 n0_1,.string s0_2]] w R:=
  plC F83_p func83 h
def F82_1(R:Rt)(ds:Ds)(w:World):Prop:=
 runD prog ds w λw1=>
 R (.returned (.int .i64 (-1))) w1
def F82_2 (R:Rt) (J1:(Int)->World->Prop) (l0:SV) (v1:Value) (n7 n8:Int) (ds:Ds) (w:World):Prop:=
 Br (decide (n8<n7)) (
 ∃a2,l0.a=some a2/\0<=n8/\n8<(l0.len:Int)/\
 ∃n15_0,w.cell? ((a2.add (n8.toNat * 3)).add 0)=some (.int .i64 n15_0)/\
 ∃n15_1,w.cell? ((a2.add (n8.toNat * 3)).add 1)=some (.int .i64 n15_1)/\
 ∃s15_2,w.cell? ((a2.add (n8.toNat * 3)).add 2)=some (.string s15_2)/\
 fnE v1 λf16 first16 cap16=>
 hasBody prog f16=true/\Calls prog f16 (first16.toList ++ (([.agg #[.int .i64 n15_0,.int .i64 n15_1,.string s15_2]]:List Value) ++ cap16.toList)).toArray w λe w3=>
 ∃b16:Bool,e=.returned (.bool b16)/\
 Br b16 (
 runD prog ds w3 λw4=>
 R (.returned (.int .i64 n8)) w4) (
 J1 (IntKind.i64.wrap (n8+1)) w3)) (
 F82_1 R ds w)
def F82_3(R:Rt)(l0:SV)(v1:Value)(n7 n8:Int)(ds:Ds)(w:World):Prop:=
 loopT (λ(J1:(Int)->World->Prop) (s:Int) (w:World)=>F82_2 R J1 l0 v1 n7 s ds w) n8 w
def F82_5(R:Rt)(l0:SV)(v1:Value)(ds:Ds)(w:World):Prop:=
 F82_3 R l0 (v1) (l0.len:Int) 0 ds w
theorem F82_p:Pl prog f82 [lS 0,vS 1] F82_5:=λR=>
  pc 2 (rest [lS 0,vS 1,iS 7,iS 8] (F82_3 R) (bk 0 (rest [] (F82_1 R) lf) (lp [iS 8] [lS 0,vS 1,iS 7,iS 8] (F82_2 R) rnil λJ1=>lf)))
theorem F82_calls (l0:SV) (v1:Value) (w:World) (R:Rt) (h:F82_5 R l0 v1 [] w):Calls prog 82 #[.slice l0.a l0.len l0.cap,v1] w R:=
  plC F82_p func82 h
def F37_1(R:Rt)(l5:SV)(b37:Bool)(ds:Ds)(w:World):Prop:=
 Br b37 (
 runD prog ds w λw1=>
 R (.returned (.tuple #[.string (⟨#[]⟩:ByteArray),.slice none 0 0,.bool false])) w1) (
 dwE w λw2=>
 ∃a3,l5.a=some a3/\0<=(0:Int)/\(0:Int)<(l5.len:Int)/\
 ∃s41,w2.cell? ((a3.add ((0:Int).toNat * 3)).add 2)=some (.string s41)/\
 l5.len<=l5.cap/\0<=(1:Int)/\(1:Int).toNat<=l5.len/\
 runD prog ds w2 λw4=>
 R (.returned (.tuple #[.string s41,.slice (if l5.cap=(1:Int).toNat then l5.a else l5.a.map (λx=>x.add ((1:Int).toNat * 3))) (l5.len - (1:Int).toNat) (l5.cap - (1:Int).toNat),.bool true])) w4)
def F37_2(R:Rt)(s0:ByteArray)(ds:Ds)(w:World):Prop:=
 Calls prog 47 #[.string s0] w λe w5=>
 ∃l9_0:SV,∃b9_1:Bool,e=.returned (.tuple #[.slice l9_0.a l9_0.len l9_0.cap,.bool b9_1])/\
 Br (!b9_1) (
 F37_1 R l9_0 true ds w5) (
 Calls prog 68 #[.string s0,.bool true] w5 λe w6=>
 ∃b16:Bool,e=.returned (.bool b16)/\
 Br b16 (
 F37_1 R l9_0 true ds w6) (
 Br ((l9_0.len:Int) == 0) (
 F37_1 R l9_0 true ds w6) (
 ∃a7,l9_0.a=some a7/\0<=(0:Int)/\(0:Int)<(l9_0.len:Int)/\
 ∃n27,w6.cell? (a7.add ((0:Int).toNat * 3))=some (.int .i64 n27)/\
 Br (n27 != 0) (
 F37_1 R l9_0 true ds w6) (
 ∃a8,l9_0.a=some a8/\0<=(0:Int)/\(0:Int)<(l9_0.len:Int)/\
 ∃s34,w6.cell? ((a8.add ((0:Int).toNat * 3)).add 2)=some (.string s34)/\
 Calls prog 46 #[.string s34] w6 λe w9=>
 ∃b35:Bool,e=.returned (.bool b35)/\
 F37_1 R l9_0 (!b35) ds w9))))
theorem F37_p:Pl prog f37 [sS 0] F37_2:=λR=>
  pc 3 (rest [lS 5,bS 37] (F37_1 R) lf)
theorem F37_calls (s0:ByteArray) (w:World) (R:Rt) (h:F37_2 R s0 [] w):Calls prog 37 #[.string s0] w R:=
  plC F37_p func37 h
def F48_1(R:Rt)(l3:SV)(ds:Ds)(w:World):Prop:=
 runD prog ds w λw1=>
 R (.returned (.slice l3.a l3.len l3.cap)) w1
def F48_2 (R:Rt) (J1:(SV × Int)->World->Prop) (l3 l6:SV) (n7 n8:Int) (ds:Ds) (w:World):Prop:=
 Br (decide (n8<n7)) (
 ∃a2,l6.a=some a2/\0<=n8/\n8<(l6.len:Int)/\
 ∃n11_0,w.cell? ((a2.add (n8.toNat * 3)).add 0)=some (.int .i64 n11_0)/\
 ∃n11_1,w.cell? ((a2.add (n8.toNat * 3)).add 1)=some (.int .i64 n11_1)/\
 ∃s11_2,w.cell? ((a2.add (n8.toNat * 3)).add 2)=some (.string s11_2)/\
 alE (.cells #[.int .i64 0,.int .i64 0,.string (⟨#[]⟩:ByteArray)] 30) w λr5 w3=>
 stA prog 30 (⟨r5,0,none⟩:Addr) #[.int .i64 n11_0,.int .i64 n11_1,.string s11_2] w3 λw4=>
 ∃n13_0,w4.cell? ((⟨r5,0,none⟩:Addr).add 0)=some (.int .i64 n13_0)/\
 ∃n13_1,w4.cell? ((⟨r5,0,none⟩:Addr).add 1)=some (.int .i64 n13_1)/\
 ∃s13_2,w4.cell? ((⟨r5,0,none⟩:Addr).add 2)=some (.string s13_2)/\
 alE (.cells #[.int .i64 n13_0,.int .i64 n13_1,.string s13_2,.slice none 0 0] 112) w4 λr15 w5=>
 ∃l16:SV,∃w6,(Builtin.append_ #[84,84] 84 #[.slice l3.a l3.len l3.cap,.slice (some ⟨r15,0,none⟩) 1 1]).run prog w5=.ok (.slice l16.a l16.len l16.cap) w6/\
 J1 (l16,(IntKind.i64.wrap (n8+1))) w6) (
 F48_1 R l3 ds w)
def F48_3(R:Rt)(l3 l6:SV)(n7 n8:Int)(ds:Ds)(w:World):Prop:=
 loopT (λ(J1:(SV × Int)->World->Prop) (s:SV × Int) (w:World)=>F48_2 R J1 s.1 l6 n7 s.2 ds w) (l3,n8) w
def F48_5(R:Rt)(l0:SV)(ds:Ds)(w:World):Prop:=
 F48_3 R ⟨none,0,0⟩ l0 (l0.len:Int) 0 ds w
theorem F48_p:Pl prog f48 [lS 0] F48_5:=λR=>
  pc 3 (rest [lS 3,lS 6,iS 7,iS 8] (F48_3 R) (bk 0 (rest [lS 3] (F48_1 R) lf) (lp [lS 3,iS 8] [lS 3,lS 6,iS 7,iS 8] (F48_2 R) rnil λJ1=>lf)))
theorem F48_calls (l0:SV) (w:World) (R:Rt) (h:F48_5 R l0 [] w):Calls prog 48 #[.slice l0.a l0.len l0.cap] w R:=
  plC F48_p func48 h
def F50_1(R:Rt)(l3:SV)(ds:Ds)(w:World):Prop:=
 Calls prog 89 #[.slice l3.a l3.len l3.cap,.string (⟨#[32]⟩:ByteArray)] w λe w1=>
 ∃s19:ByteArray,e=.returned (.string s19)/\
 runD prog ds w1 λw2=>
 R (.returned (.string s19)) w2
def F50_2 (R:Rt) (J1:(SV × Int)->World->Prop) (l3 l6:SV) (n7 n8:Int) (ds:Ds) (w:World):Prop:=
 Br (decide (n8<n7)) (
 ∃a3,l6.a=some a3/\0<=n8/\n8<(l6.len:Int)/\
 ∃n11_0,w.cell? ((a3.add (n8.toNat * 4)).add 0)=some (.int .i64 n11_0)/\
 ∃n11_1,w.cell? ((a3.add (n8.toNat * 4)).add 1)=some (.int .i64 n11_1)/\
 ∃s11_2,w.cell? ((a3.add (n8.toNat * 4)).add 2)=some (.string s11_2)/\
 ∃l11_3:SV,w.cell? ((a3.add (n8.toNat * 4)).add 3)=some (.slice l11_3.a l11_3.len l11_3.cap)/\
 alE (.cells #[.int .i64 0,.int .i64 0,.string (⟨#[]⟩:ByteArray),.slice none 0 0] 112) w λr5 w4=>
 stA prog 112 (⟨r5,0,none⟩:Addr) #[.int .i64 n11_0,.int .i64 n11_1,.string s11_2,.slice l11_3.a l11_3.len l11_3.cap] w4 λw5=>
 ∃n13_0,w5.cell? ((⟨r5,0,none⟩:Addr).add 0)=some (.int .i64 n13_0)/\
 ∃n13_1,w5.cell? ((⟨r5,0,none⟩:Addr).add 1)=some (.int .i64 n13_1)/\
 ∃s13_2,w5.cell? ((⟨r5,0,none⟩:Addr).add 2)=some (.string s13_2)/\
 ∃l13_3:SV,w5.cell? ((⟨r5,0,none⟩:Addr).add 3)=some (.slice l13_3.a l13_3.len l13_3.cap)/\
 Calls prog 88 #[.agg #[.int .i64 n13_0,.int .i64 n13_1,.string s13_2,.slice l13_3.a l13_3.len l13_3.cap]] w5 λe w6=>
 ∃s14:ByteArray,e=.returned (.string s14)/\
 alE (.cells #[.string s14] 9) w6 λr15 w7=>
 ∃l16:SV,∃w8,(Builtin.append_ #[33,33] 33 #[.slice l3.a l3.len l3.cap,.slice (some ⟨r15,0,none⟩) 1 1]).run prog w7=.ok (.slice l16.a l16.len l16.cap) w8/\
 J1 (l16,(IntKind.i64.wrap (n8+1))) w8) (
 F50_1 R l3 ds w)
def F50_3(R:Rt)(l3 l6:SV)(n7 n8:Int)(ds:Ds)(w:World):Prop:=
 loopT (λ(J1:(SV × Int)->World->Prop) (s:SV × Int) (w:World)=>F50_2 R J1 s.1 l6 n7 s.2 ds w) (l3,n8) w
def F50_5(R:Rt)(l0:SV)(ds:Ds)(w:World):Prop:=
 F50_3 R ⟨none,0,0⟩ l0 (l0.len:Int) 0 ds w
theorem F50_p:Pl prog f50 [lS 0] F50_5:=λR=>
  pc 3 (rest [lS 3,lS 6,iS 7,iS 8] (F50_3 R) (bk 0 (rest [lS 3] (F50_1 R) lf) (lp [lS 3,iS 8] [lS 3,lS 6,iS 7,iS 8] (F50_2 R) rnil λJ1=>lf)))
theorem F50_calls (l0:SV) (w:World) (R:Rt) (h:F50_5 R l0 [] w):Calls prog 50 #[.slice l0.a l0.len l0.cap] w R:=
  plC F50_p func50 h
def F88_1(R:Rt)(p1:Option Addr)(ds:Ds)(w:World):Prop:=
 ptrE p1 λa1=>
 ∃s65,w.cell? (a1.add 2)=some (.string s65)/\
 runD prog ds w λw2=>
 R (.returned (.string s65)) w2
def F88_2(R:Rt)(p1:Option Addr)(ds:Ds)(w:World):Prop:=
 ptrE p1 λa3=>
 ∃n6,w.cell? a3=some (.int .i64 n6)/\
 Br (n6 == 2) (
 ptrE p1 λa4=>
 ∃s11,w.cell? (a4.add 2)=some (.string s11)/\
 Calls prog 36 #[.string s11,.string (⟨#[34]⟩:ByteArray)] w λe w5=>
 ∃b12:Bool,e=.returned (.bool b12)/\
 Br b12 (
 ptrE p1 λa6=>
 ∃s16,w5.cell? (a6.add 2)=some (.string s16)/\
 (((⟨#[39]⟩:ByteArray).size+s16.size:Nat):Int)<=9223372036854775807/\
 ((((⟨#[39]⟩:ByteArray) ++ s16).size+(⟨#[39]⟩:ByteArray).size:Nat):Int)<=9223372036854775807/\
 runD prog ds w5 λw7=>
 R (.returned (.string (((⟨#[39]⟩:ByteArray) ++ s16) ++ (⟨#[39]⟩:ByteArray)))) w7) (
 ptrE p1 λa8=>
 ∃n22,w5.cell? a8=some (.int .i64 n22)/\
 Br (n22 == 2) (
 ptrE p1 λa9=>
 ∃s26,w5.cell? (a9.add 2)=some (.string s26)/\
 (((⟨#[34]⟩:ByteArray).size+s26.size:Nat):Int)<=9223372036854775807/\
 ((((⟨#[34]⟩:ByteArray) ++ s26).size+(⟨#[34]⟩:ByteArray).size:Nat):Int)<=9223372036854775807/\
 runD prog ds w5 λw10=>
 R (.returned (.string (((⟨#[34]⟩:ByteArray) ++ s26) ++ (⟨#[34]⟩:ByteArray)))) w10) (
 ptrE p1 λa11=>
 ∃n32,w5.cell? a11=some (.int .i64 n32)/\
 Br (n32 == 3) (
 ptrE p1 λa12=>
 ∃s37,w5.cell? (a12.add 2)=some (.string s37)/\
 Br (s37.toList == (⟨#[]⟩:ByteArray).toList) (
 runD prog ds w5 λw13=>
 R (.returned (.string (⟨#[123,125]⟩:ByteArray))) w13) (
 ptrE p1 λa14=>
 ∃n43,w5.cell? a14=some (.int .i64 n43)/\
 Br (n43 == 3) (
 dwE w5 λw15=>
 ptrE p1 λa16=>
 ∃s47,w15.cell? (a16.add 2)=some (.string s47)/\
 0<=(4:Int)/\(4:Int).toNat<=s47.size/\0<=(4:Int).toNat/\
 (((⟨#[123,94]⟩:ByteArray).size+(s47.extract 0 ((4:Int).toNat)).size:Nat):Int)<=9223372036854775807/\
 ((((⟨#[123,94]⟩:ByteArray) ++ (s47.extract 0 ((4:Int).toNat))).size+(⟨#[45]⟩:ByteArray).size:Nat):Int)<=9223372036854775807/\
 ptrE p1 λa17=>
 ∃s53,w15.cell? (a17.add 2)=some (.string s53)/\
 0<=(6:Int)/\(6:Int).toNat<=s53.size/\0<=(4:Int)/\(4:Int).toNat<=(6:Int).toNat/\
 (((((⟨#[123,94]⟩:ByteArray) ++ (s47.extract 0 ((4:Int).toNat))) ++ (⟨#[45]⟩:ByteArray)).size+(s53.extract ((4:Int).toNat) ((6:Int).toNat)).size:Nat):Int)<=9223372036854775807/\
 ((((((⟨#[123,94]⟩:ByteArray) ++ (s47.extract 0 ((4:Int).toNat))) ++ (⟨#[45]⟩:ByteArray)) ++ (s53.extract ((4:Int).toNat) ((6:Int).toNat))).size+(⟨#[45]⟩:ByteArray).size:Nat):Int)<=9223372036854775807/\
 ptrE p1 λa18=>
 ∃s59,w15.cell? (a18.add 2)=some (.string s59)/\
 s59.size<=s59.size/\0<=(6:Int)/\(6:Int).toNat<=s59.size/\
 (((((((⟨#[123,94]⟩:ByteArray) ++ (s47.extract 0 ((4:Int).toNat))) ++ (⟨#[45]⟩:ByteArray)) ++ (s53.extract ((4:Int).toNat) ((6:Int).toNat))) ++ (⟨#[45]⟩:ByteArray)).size+(s59.extract ((6:Int).toNat) s59.size).size:Nat):Int)<=9223372036854775807/\
 ((((((((⟨#[123,94]⟩:ByteArray) ++ (s47.extract 0 ((4:Int).toNat))) ++ (⟨#[45]⟩:ByteArray)) ++ (s53.extract ((4:Int).toNat) ((6:Int).toNat))) ++ (⟨#[45]⟩:ByteArray)) ++ (s59.extract ((6:Int).toNat) s59.size)).size+(⟨#[125]⟩:ByteArray).size:Nat):Int)<=9223372036854775807/\
 runD prog ds w15 λw19=>
 R (.returned (.string (((((((⟨#[123,94]⟩:ByteArray) ++ (s47.extract 0 ((4:Int).toNat))) ++ (⟨#[45]⟩:ByteArray)) ++ (s53.extract ((4:Int).toNat) ((6:Int).toNat))) ++ (⟨#[45]⟩:ByteArray)) ++ (s59.extract ((6:Int).toNat) s59.size)) ++ (⟨#[125]⟩:ByteArray)))) w19) (
 F88_1 R p1 ds w5))) (
 ptrE p1 λa20=>
 ∃n43,w5.cell? a20=some (.int .i64 n43)/\
 Br (n43 == 3) (
 dwE w5 λw21=>
 ptrE p1 λa22=>
 ∃s47,w21.cell? (a22.add 2)=some (.string s47)/\
 0<=(4:Int)/\(4:Int).toNat<=s47.size/\0<=(4:Int).toNat/\
 (((⟨#[123,94]⟩:ByteArray).size+(s47.extract 0 ((4:Int).toNat)).size:Nat):Int)<=9223372036854775807/\
 ((((⟨#[123,94]⟩:ByteArray) ++ (s47.extract 0 ((4:Int).toNat))).size+(⟨#[45]⟩:ByteArray).size:Nat):Int)<=9223372036854775807/\
 ptrE p1 λa23=>
 ∃s53,w21.cell? (a23.add 2)=some (.string s53)/\
 0<=(6:Int)/\(6:Int).toNat<=s53.size/\0<=(4:Int)/\(4:Int).toNat<=(6:Int).toNat/\
 (((((⟨#[123,94]⟩:ByteArray) ++ (s47.extract 0 ((4:Int).toNat))) ++ (⟨#[45]⟩:ByteArray)).size+(s53.extract ((4:Int).toNat) ((6:Int).toNat)).size:Nat):Int)<=9223372036854775807/\
 ((((((⟨#[123,94]⟩:ByteArray) ++ (s47.extract 0 ((4:Int).toNat))) ++ (⟨#[45]⟩:ByteArray)) ++ (s53.extract ((4:Int).toNat) ((6:Int).toNat))).size+(⟨#[45]⟩:ByteArray).size:Nat):Int)<=9223372036854775807/\
 ptrE p1 λa24=>
 ∃s59,w21.cell? (a24.add 2)=some (.string s59)/\
 s59.size<=s59.size/\0<=(6:Int)/\(6:Int).toNat<=s59.size/\
 (((((((⟨#[123,94]⟩:ByteArray) ++ (s47.extract 0 ((4:Int).toNat))) ++ (⟨#[45]⟩:ByteArray)) ++ (s53.extract ((4:Int).toNat) ((6:Int).toNat))) ++ (⟨#[45]⟩:ByteArray)).size+(s59.extract ((6:Int).toNat) s59.size).size:Nat):Int)<=9223372036854775807/\
 ((((((((⟨#[123,94]⟩:ByteArray) ++ (s47.extract 0 ((4:Int).toNat))) ++ (⟨#[45]⟩:ByteArray)) ++ (s53.extract ((4:Int).toNat) ((6:Int).toNat))) ++ (⟨#[45]⟩:ByteArray)) ++ (s59.extract ((6:Int).toNat) s59.size)).size+(⟨#[125]⟩:ByteArray).size:Nat):Int)<=9223372036854775807/\
 runD prog ds w21 λw25=>
 R (.returned (.string (((((((⟨#[123,94]⟩:ByteArray) ++ (s47.extract 0 ((4:Int).toNat))) ++ (⟨#[45]⟩:ByteArray)) ++ (s53.extract ((4:Int).toNat) ((6:Int).toNat))) ++ (⟨#[45]⟩:ByteArray)) ++ (s59.extract ((6:Int).toNat) s59.size)) ++ (⟨#[125]⟩:ByteArray)))) w25) (
 F88_1 R p1 ds w5))))) (
 ptrE p1 λa26=>
 ∃n22,w.cell? a26=some (.int .i64 n22)/\
 Br (n22 == 2) (
 ptrE p1 λa27=>
 ∃s26,w.cell? (a27.add 2)=some (.string s26)/\
 (((⟨#[34]⟩:ByteArray).size+s26.size:Nat):Int)<=9223372036854775807/\
 ((((⟨#[34]⟩:ByteArray) ++ s26).size+(⟨#[34]⟩:ByteArray).size:Nat):Int)<=9223372036854775807/\
 runD prog ds w λw28=>
 R (.returned (.string (((⟨#[34]⟩:ByteArray) ++ s26) ++ (⟨#[34]⟩:ByteArray)))) w28) (
 ptrE p1 λa29=>
 ∃n32,w.cell? a29=some (.int .i64 n32)/\
 Br (n32 == 3) (
 ptrE p1 λa30=>
 ∃s37,w.cell? (a30.add 2)=some (.string s37)/\
 Br (s37.toList == (⟨#[]⟩:ByteArray).toList) (
 runD prog ds w λw31=>
 R (.returned (.string (⟨#[123,125]⟩:ByteArray))) w31) (
 ptrE p1 λa32=>
 ∃n43,w.cell? a32=some (.int .i64 n43)/\
 Br (n43 == 3) (
 dwE w λw33=>
 ptrE p1 λa34=>
 ∃s47,w33.cell? (a34.add 2)=some (.string s47)/\
 0<=(4:Int)/\(4:Int).toNat<=s47.size/\0<=(4:Int).toNat/\
 (((⟨#[123,94]⟩:ByteArray).size+(s47.extract 0 ((4:Int).toNat)).size:Nat):Int)<=9223372036854775807/\
 ((((⟨#[123,94]⟩:ByteArray) ++ (s47.extract 0 ((4:Int).toNat))).size+(⟨#[45]⟩:ByteArray).size:Nat):Int)<=9223372036854775807/\
 ptrE p1 λa35=>
 ∃s53,w33.cell? (a35.add 2)=some (.string s53)/\
 0<=(6:Int)/\(6:Int).toNat<=s53.size/\0<=(4:Int)/\(4:Int).toNat<=(6:Int).toNat/\
 (((((⟨#[123,94]⟩:ByteArray) ++ (s47.extract 0 ((4:Int).toNat))) ++ (⟨#[45]⟩:ByteArray)).size+(s53.extract ((4:Int).toNat) ((6:Int).toNat)).size:Nat):Int)<=9223372036854775807/\
 ((((((⟨#[123,94]⟩:ByteArray) ++ (s47.extract 0 ((4:Int).toNat))) ++ (⟨#[45]⟩:ByteArray)) ++ (s53.extract ((4:Int).toNat) ((6:Int).toNat))).size+(⟨#[45]⟩:ByteArray).size:Nat):Int)<=9223372036854775807/\
 ptrE p1 λa36=>
 ∃s59,w33.cell? (a36.add 2)=some (.string s59)/\
 s59.size<=s59.size/\0<=(6:Int)/\(6:Int).toNat<=s59.size/\
 (((((((⟨#[123,94]⟩:ByteArray) ++ (s47.extract 0 ((4:Int).toNat))) ++ (⟨#[45]⟩:ByteArray)) ++ (s53.extract ((4:Int).toNat) ((6:Int).toNat))) ++ (⟨#[45]⟩:ByteArray)).size+(s59.extract ((6:Int).toNat) s59.size).size:Nat):Int)<=9223372036854775807/\
 ((((((((⟨#[123,94]⟩:ByteArray) ++ (s47.extract 0 ((4:Int).toNat))) ++ (⟨#[45]⟩:ByteArray)) ++ (s53.extract ((4:Int).toNat) ((6:Int).toNat))) ++ (⟨#[45]⟩:ByteArray)) ++ (s59.extract ((6:Int).toNat) s59.size)).size+(⟨#[125]⟩:ByteArray).size:Nat):Int)<=9223372036854775807/\
 runD prog ds w33 λw37=>
 R (.returned (.string (((((((⟨#[123,94]⟩:ByteArray) ++ (s47.extract 0 ((4:Int).toNat))) ++ (⟨#[45]⟩:ByteArray)) ++ (s53.extract ((4:Int).toNat) ((6:Int).toNat))) ++ (⟨#[45]⟩:ByteArray)) ++ (s59.extract ((6:Int).toNat) s59.size)) ++ (⟨#[125]⟩:ByteArray)))) w37) (
 F88_1 R p1 ds w))) (
 ptrE p1 λa38=>
 ∃n43,w.cell? a38=some (.int .i64 n43)/\
 Br (n43 == 3) (
 dwE w λw39=>
 ptrE p1 λa40=>
 ∃s47,w39.cell? (a40.add 2)=some (.string s47)/\
 0<=(4:Int)/\(4:Int).toNat<=s47.size/\0<=(4:Int).toNat/\
 (((⟨#[123,94]⟩:ByteArray).size+(s47.extract 0 ((4:Int).toNat)).size:Nat):Int)<=9223372036854775807/\
 ((((⟨#[123,94]⟩:ByteArray) ++ (s47.extract 0 ((4:Int).toNat))).size+(⟨#[45]⟩:ByteArray).size:Nat):Int)<=9223372036854775807/\
 ptrE p1 λa41=>
 ∃s53,w39.cell? (a41.add 2)=some (.string s53)/\
 0<=(6:Int)/\(6:Int).toNat<=s53.size/\0<=(4:Int)/\(4:Int).toNat<=(6:Int).toNat/\
 (((((⟨#[123,94]⟩:ByteArray) ++ (s47.extract 0 ((4:Int).toNat))) ++ (⟨#[45]⟩:ByteArray)).size+(s53.extract ((4:Int).toNat) ((6:Int).toNat)).size:Nat):Int)<=9223372036854775807/\
 ((((((⟨#[123,94]⟩:ByteArray) ++ (s47.extract 0 ((4:Int).toNat))) ++ (⟨#[45]⟩:ByteArray)) ++ (s53.extract ((4:Int).toNat) ((6:Int).toNat))).size+(⟨#[45]⟩:ByteArray).size:Nat):Int)<=9223372036854775807/\
 ptrE p1 λa42=>
 ∃s59,w39.cell? (a42.add 2)=some (.string s59)/\
 s59.size<=s59.size/\0<=(6:Int)/\(6:Int).toNat<=s59.size/\
 (((((((⟨#[123,94]⟩:ByteArray) ++ (s47.extract 0 ((4:Int).toNat))) ++ (⟨#[45]⟩:ByteArray)) ++ (s53.extract ((4:Int).toNat) ((6:Int).toNat))) ++ (⟨#[45]⟩:ByteArray)).size+(s59.extract ((6:Int).toNat) s59.size).size:Nat):Int)<=9223372036854775807/\
 ((((((((⟨#[123,94]⟩:ByteArray) ++ (s47.extract 0 ((4:Int).toNat))) ++ (⟨#[45]⟩:ByteArray)) ++ (s53.extract ((4:Int).toNat) ((6:Int).toNat))) ++ (⟨#[45]⟩:ByteArray)) ++ (s59.extract ((6:Int).toNat) s59.size)).size+(⟨#[125]⟩:ByteArray).size:Nat):Int)<=9223372036854775807/\
 runD prog ds w39 λw43=>
 R (.returned (.string (((((((⟨#[123,94]⟩:ByteArray) ++ (s47.extract 0 ((4:Int).toNat))) ++ (⟨#[45]⟩:ByteArray)) ++ (s53.extract ((4:Int).toNat) ((6:Int).toNat))) ++ (⟨#[45]⟩:ByteArray)) ++ (s59.extract ((6:Int).toNat) s59.size)) ++ (⟨#[125]⟩:ByteArray)))) w43) (
 F88_1 R p1 ds w))))
def F88_3(R:Rt)(n0_0 n0_1:Int)(s0_2:ByteArray)(l0_3:SV)(ds:Ds)(w:World):Prop:=
 alE (.cells #[.int .i64 n0_0,.int .i64 n0_1,.string s0_2,.slice l0_3.a l0_3.len l0_3.cap] 112) w λr1 w44=>
 F88_2 R (some (⟨r1,0,none⟩:Addr)) ds w44
theorem F88_p:Pl prog f88 [aS 0 [.int .i64,.int .i64,.str,.slice]] F88_3:=λR=>
  pc 1 (rest [pS 1] (F88_2 R) (pc 1 (rest [pS 1] (F88_1 R) lf)))
theorem F88_calls (n0_0 n0_1:Int) (s0_2:ByteArray) (l0_3:SV) (w:World) (R:Rt) (h:F88_3 R n0_0 n0_1 s0_2 l0_3 [] w):Calls prog 88 #[.agg #[.int .i64 n0_0,.int .i64 n0_1,.string s0_2,.slice l0_3.a l0_3.len l0_3.cap]] w R:=
  plC F88_p func88 h
end Go.Proofs.YtjbfehippchniaaGreatDoor

/- Shallow texts of functions, printed by program, each checked by the kernel against the loaded code. No condition. -/
set_option maxRecDepth 100000
set_option linter.unusedVariables false
namespace Go.Proofs.YtjbfehippchniaaGreatDoor
open Go.Sh Tryz
def F84_1(R:Rt)(l0:SV)(ds:Ds)(w:World):Prop:=
 ∃b4:Bool,∃w1,(eqS .eql 33 (.tmp 3) (.const (.slice none 0 0)) (.slice l0.a l0.len l0.cap) (.slice none 0 0)).run prog w=.ok (.bool b4) w1/\
 Br b4 (
 runD prog ds w1 λw2=>
 R (.returned (.slice none 0 0)) w2) (
 alE (.cells #[] 9) w1 λr5 w3=>
 ∃l7:SV,∃w4,(Builtin.append_ #[33,33] 33 #[.slice (some ⟨r5,0,none⟩) 0 0,.slice l0.a l0.len l0.cap]).run prog w3=.ok (.slice l7.a l7.len l7.cap) w4/\
 runD prog ds w4 λw5=>
 R (.returned (.slice l7.a l7.len l7.cap)) w5)
theorem F84_p:Pl prog f84 [lS 0] F84_1:=λR=>
  lf
theorem F84_calls (l0:SV) (w:World) (R:Rt) (h:F84_1 R l0 [] w):Calls prog 84 #[.slice l0.a l0.len l0.cap] w R:=
  plC F84_p func84 h
def F85_1(R:Rt)(l6:SV)(ds:Ds)(w:World):Prop:=
 runD prog ds w λw1=>
 R (.returned (.slice l6.a l6.len l6.cap)) w1
def F85_2 (R:Rt) (J1:(SV × Int)->World->Prop) (l6 l25:SV) (n26 n27:Int) (ds:Ds) (w:World):Prop:=
 Br (decide (n27<n26)) (
 ∃a2,l25.a=some a2/\0<=n27/\n27<(l25.len:Int)/\
 ∃l30:SV,w.cell? (a2.add (n27.toNat * 1))=some (.slice l30.a l30.len l30.cap)/\
 ∃l33:SV,∃w3,(Builtin.append_ #[84,84] 84 #[.slice l6.a l6.len l6.cap,.slice l30.a l30.len l30.cap]).run prog w=.ok (.slice l33.a l33.len l33.cap) w3/\
 J1 (l33,(IntKind.i64.wrap (n27+1))) w3) (
 F85_1 R l6 ds w)
def F85_3(R:Rt)(l6 l25:SV)(n26 n27:Int)(ds:Ds)(w:World):Prop:=
 loopT (λ(J1:(SV × Int)->World->Prop) (s:SV × Int) (w:World)=>F85_2 R J1 s.1 l25 n26 s.2 ds w) (l6,n27) w
def F85_5(R:Rt)(l0:SV)(n3:Int)(ds:Ds)(w:World):Prop:=
 Calls prog 122 #[.slice none 0 0,.int .i64 n3] w λe w4=>
 ∃l24:SV,e=.returned (.slice l24.a l24.len l24.cap)/\
 F85_3 R l24 l0 (l0.len:Int) 0 ds w4
def F85_6 (R:Rt) (J1:(Int × Int)->World->Prop) (l0:SV) (n3:Int) (l9:SV) (n10 n11:Int) (ds:Ds) (w:World):Prop:=
 Br (decide (n11<n10)) (
 ∃a5,l9.a=some a5/\0<=n11/\n11<(l9.len:Int)/\
 ∃l14:SV,w.cell? (a5.add (n11.toNat * 1))=some (.slice l14.a l14.len l14.cap)/\
 Br (decide ((IntKind.i64.wrap (n3+(l14.len:Int)))<0)) (
 ∃v21:Value,∃w6,(Instr.makeInterface 9 (.string (⟨#[108,101,110,32,111,117,116,32,111,102,32,114,97,110,103,101]⟩:ByteArray))).run prog w=.ok (v21) w6/\
 False) (
 J1 ((IntKind.i64.wrap (n3+(l14.len:Int))),(IntKind.i64.wrap (n11+1))) w)) (
 F85_5 R l0 n3 ds w)
def F85_7(R:Rt)(l0:SV)(n3:Int)(l9:SV)(n10 n11:Int)(ds:Ds)(w:World):Prop:=
 loopT (λ(J1:(Int × Int)->World->Prop) (s:Int × Int) (w:World)=>F85_6 R J1 l0 s.1 l9 n10 s.2 ds w) (n3,n11) w
def F85_9(R:Rt)(l0:SV)(ds:Ds)(w:World):Prop:=
 F85_7 R l0 0 l0 (l0.len:Int) 0 ds w
theorem F85_p:Pl prog f85 [lS 0] F85_9:=λR=>
  pc 3 (rest [lS 0,iS 3,lS 9,iS 10,iS 11] (F85_7 R) (bk 0 (rest [lS 0,iS 3] (F85_5 R) (pc 2 (rest [lS 6,lS 25,iS 26,iS 27] (F85_3 R) (bk 2 (rest [lS 6] (F85_1 R) lf) (lp [lS 6,iS 27] [lS 6,lS 25,iS 26,iS 27] (F85_2 R) rnil λJ1=>lf))))) (lp [iS 3,iS 11] [lS 0,iS 3,lS 9,iS 10,iS 11] (F85_6 R) rnil λJ1=>lf)))
theorem F85_calls (l0:SV) (w:World) (R:Rt) (h:F85_9 R l0 [] w):Calls prog 85 #[.slice l0.a l0.len l0.cap] w R:=
  plC F85_p func85 h
def F173_1(R:Rt)(l6:SV)(ds:Ds)(w:World):Prop:=
 runD prog ds w λw1=>
 R (.returned (.slice l6.a l6.len l6.cap)) w1
def F173_2 (R:Rt) (J1:(SV × Int)->World->Prop) (l6 l25:SV) (n26 n27:Int) (ds:Ds) (w:World):Prop:=
 Br (decide (n27<n26)) (
 ∃a2,l25.a=some a2/\0<=n27/\n27<(l25.len:Int)/\
 ∃l30:SV,w.cell? (a2.add (n27.toNat * 1))=some (.slice l30.a l30.len l30.cap)/\
 ∃l33:SV,∃w3,(Builtin.append_ #[70,70] 70 #[.slice l6.a l6.len l6.cap,.slice l30.a l30.len l30.cap]).run prog w=.ok (.slice l33.a l33.len l33.cap) w3/\
 J1 (l33,(IntKind.i64.wrap (n27+1))) w3) (
 F173_1 R l6 ds w)
def F173_3(R:Rt)(l6 l25:SV)(n26 n27:Int)(ds:Ds)(w:World):Prop:=
 loopT (λ(J1:(SV × Int)->World->Prop) (s:SV × Int) (w:World)=>F173_2 R J1 s.1 l25 n26 s.2 ds w) (l6,n27) w
def F173_5(R:Rt)(l0:SV)(n3:Int)(ds:Ds)(w:World):Prop:=
 Calls prog 197 #[.slice none 0 0,.int .i64 n3] w λe w4=>
 ∃l24:SV,e=.returned (.slice l24.a l24.len l24.cap)/\
 F173_3 R l24 l0 (l0.len:Int) 0 ds w4
def F173_6 (R:Rt) (J1:(Int × Int)->World->Prop) (l0:SV) (n3:Int) (l9:SV) (n10 n11:Int) (ds:Ds) (w:World):Prop:=
 Br (decide (n11<n10)) (
 ∃a5,l9.a=some a5/\0<=n11/\n11<(l9.len:Int)/\
 ∃l14:SV,w.cell? (a5.add (n11.toNat * 1))=some (.slice l14.a l14.len l14.cap)/\
 Br (decide ((IntKind.i64.wrap (n3+(l14.len:Int)))<0)) (
 ∃v21:Value,∃w6,(Instr.makeInterface 9 (.string (⟨#[108,101,110,32,111,117,116,32,111,102,32,114,97,110,103,101]⟩:ByteArray))).run prog w=.ok (v21) w6/\
 False) (
 J1 ((IntKind.i64.wrap (n3+(l14.len:Int))),(IntKind.i64.wrap (n11+1))) w)) (
 F173_5 R l0 n3 ds w)
def F173_7(R:Rt)(l0:SV)(n3:Int)(l9:SV)(n10 n11:Int)(ds:Ds)(w:World):Prop:=
 loopT (λ(J1:(Int × Int)->World->Prop) (s:Int × Int) (w:World)=>F173_6 R J1 l0 s.1 l9 n10 s.2 ds w) (n3,n11) w
def F173_9(R:Rt)(l0:SV)(ds:Ds)(w:World):Prop:=
 F173_7 R l0 0 l0 (l0.len:Int) 0 ds w
theorem F173_p:Pl prog f173 [lS 0] F173_9:=λR=>
  pc 3 (rest [lS 0,iS 3,lS 9,iS 10,iS 11] (F173_7 R) (bk 0 (rest [lS 0,iS 3] (F173_5 R) (pc 2 (rest [lS 6,lS 25,iS 26,iS 27] (F173_3 R) (bk 2 (rest [lS 6] (F173_1 R) lf) (lp [lS 6,iS 27] [lS 6,lS 25,iS 26,iS 27] (F173_2 R) rnil λJ1=>lf))))) (lp [iS 3,iS 11] [lS 0,iS 3,lS 9,iS 10,iS 11] (F173_6 R) rnil λJ1=>lf)))
theorem F173_calls (l0:SV) (w:World) (R:Rt) (h:F173_9 R l0 [] w):Calls prog 173 #[.slice l0.a l0.len l0.cap] w R:=
  plC F173_p func173 h
def F86_1(R:Rt)(l0:SV)(ds:Ds)(w:World):Prop:=
 alE (.cells #[.slice l0.a l0.len l0.cap] 44) w λr1 w1=>
 runD prog ds w1 λw2=>
 R (.returned (.func (.func 123) #[] #[.pointer (some (⟨r1,0,none⟩:Addr))])) w2
theorem F86_p:Pl prog f86 [lS 0] F86_1:=λR=>
  lf
theorem F86_calls (l0:SV) (w:World) (R:Rt) (h:F86_1 R l0 [] w):Calls prog 86 #[.slice l0.a l0.len l0.cap] w R:=
  plC F86_p func86 h
def F123_1 (R:Rt) (J1:(Int)->World->Prop) (v0 v1:Value) (n3:Int) (ds:Ds) (w:World):Prop:=
 Br (decide (n3 ≥ 0)) (
 addrE v1 λa1=>
 ∃l13:SV,w.cell? a1=some (.slice l13.a l13.len l13.cap)/\
 ∃a2,l13.a=some a2/\0<=n3/\n3<(l13.len:Int)/\
 ∃b16_0,w.cell? ((a2.add (n3.toNat * 3)).add 0)=some (.bool b16_0)/\
 ∃l16_1:SV,w.cell? ((a2.add (n3.toNat * 3)).add 1)=some (.slice l16_1.a l16_1.len l16_1.cap)/\
 ∃l16_2:SV,w.cell? ((a2.add (n3.toNat * 3)).add 2)=some (.slice l16_2.a l16_2.len l16_2.cap)/\
 fnE v0 λf17 first17 cap17=>
 hasBody prog f17=true/\Calls prog f17 (first17.toList ++ (([.int .i64 n3,.agg #[.bool b16_0,.slice l16_1.a l16_1.len l16_1.cap,.slice l16_2.a l16_2.len l16_2.cap]]:List Value) ++ cap17.toList)).toArray w λe w3=>
 ∃b17:Bool,e=.returned (.bool b17)/\
 Br (!b17) (
 runD prog ds w3 λw4=>
 R (.returned (.tuple #[])) w4) (
 J1 (IntKind.i64.wrap (n3 - 1)) w3)) (
 runD prog ds w λw5=>
 R (.returned (.tuple #[])) w5)
def F123_2(R:Rt)(v0 v1:Value)(n3:Int)(ds:Ds)(w:World):Prop:=
 loopT (λ(J1:(Int)->World->Prop) (s:Int) (w:World)=>F123_1 R J1 v0 v1 s ds w) n3 w
def F123_4(R:Rt)(v0 v1:Value)(ds:Ds)(w:World):Prop:=
 addrE v1 λa6=>
 ∃l4:SV,w.cell? a6=some (.slice l4.a l4.len l4.cap)/\
 F123_2 R (v0) (v1) (IntKind.i64.wrap ((l4.len:Int) - 1)) ds w
theorem F123_p:Pl prog f123 [vS 0,vS 1] F123_4:=λR=>
  pc 1 (rest [vS 0,vS 1,iS 3] (F123_2 R) (bk 0 rnil (lp [iS 3] [vS 0,vS 1,iS 3] (F123_1 R) rnil λJ1=>lf)))
theorem F123_calls (v0 v1:Value) (w:World) (R:Rt) (h:F123_4 R v0 v1 [] w):Calls prog 123 #[v0,v1] w R:=
  plC F123_p func123 h
end Go.Proofs.YtjbfehippchniaaGreatDoor

/- Shallow texts of functions, printed by program, each checked by the kernel against the loaded code. No condition. -/
set_option maxRecDepth 100000
set_option linter.unusedVariables false
namespace Go.Proofs.YtjbfehippchniaaGreatDoor
open Go.Sh Tryz
def F9_1(R:Rt)(s0:ByteArray)(p6:Option Addr)(ds:Ds)(w:World):Prop:=
 Calls prog 20 #[.pointer p6,.string s0] w λe w1=>
 ∃s56_0:ByteArray,∃n56_1:Int,e=.returned (.tuple #[.string s56_0,.int .i64 n56_1])/\
 Br (n56_1 != 0) (
 runD prog ds w1 λw2=>
 R (.returned (.tuple #[.string (⟨#[]⟩:ByteArray),.int .i64 n56_1])) w2) (
 Calls prog 21 #[.string s56_0,.string (⟨#[10]⟩:ByteArray)] w1 λe w3=>
 ∃s63:ByteArray,e=.returned (.string s63)/\
 Br (decide ((s63.size:Int) > 4000)) (
 runD prog ds w3 λw4=>
 R (.returned (.tuple #[.string (⟨#[]⟩:ByteArray),.int .i64 3])) w4) (
 runD prog ds w3 λw5=>
 R (.returned (.tuple #[.string s63,.int .i64 0])) w5))
def F9_2 (R:Rt) (J1:(Int)->World->Prop) (s0:ByteArray) (p6:Option Addr) (l33:SV) (n34 n35:Int) (ds:Ds) (w:World):Prop:=
 Br (decide (n35<n34)) (
 ∃a6,l33.a=some a6/\0<=n35/\n35<(l33.len:Int)/\
 ∃s38,w.cell? (a6.add (n35.toNat * 1))=some (.string s38)/\
 Calls prog 18 #[.string s38] w λe w7=>
 ∃s41_0:ByteArray,∃s41_1:ByteArray,∃b41_2:Bool,e=.returned (.tuple #[.string s41_0,.string s41_1,.bool b41_2])/\
 Calls prog 19 #[.pointer p6,.string s41_0,.string s41_1] w7 λe w8=>
 ∃n48:Int,e=.returned (.int .i64 n48)/\
 Br (n48 != 0) (
 runD prog ds w8 λw9=>
 R (.returned (.tuple #[.string (⟨#[]⟩:ByteArray),.int .i64 n48])) w9) (
 J1 (IntKind.i64.wrap (n35+1)) w8)) (
 F9_1 R s0 p6 ds w)
def F9_3(R:Rt)(s0:ByteArray)(p6:Option Addr)(l33:SV)(n34 n35:Int)(ds:Ds)(w:World):Prop:=
 loopT (λ(J1:(Int)->World->Prop) (s:Int) (w:World)=>F9_2 R J1 s0 p6 l33 n34 s ds w) n35 w
def F9_5(R:Rt)(s0:ByteArray)(l1:SV)(p6:Option Addr)(ds:Ds)(w:World):Prop:=
 F9_3 R s0 p6 l1 (l1.len:Int) 0 ds w
def F9_6 (R:Rt) (J1:(Int)->World->Prop) (s0:ByteArray) (l1:SV) (p6:Option Addr) (l21:SV) (n22 n23:Int) (ds:Ds) (w:World):Prop:=
 Br (decide (n23<n22)) (
 ∃a10,l21.a=some a10/\0<=n23/\n23<(l21.len:Int)/\
 ∃s26,w.cell? (a10.add (n23.toNat * 1))=some (.string s26)/\
 Calls prog 17 #[.string s26] w λe w11=>
 ∃n28:Int,e=.returned (.int .i64 n28)/\
 Br (n28 != 0) (
 runD prog ds w11 λw12=>
 R (.returned (.tuple #[.string (⟨#[]⟩:ByteArray),.int .i64 n28])) w12) (
 J1 (IntKind.i64.wrap (n23+1)) w11)) (
 F9_5 R s0 l1 p6 ds w)
def F9_7(R:Rt)(s0:ByteArray)(l1:SV)(p6:Option Addr)(l21:SV)(n22 n23:Int)(ds:Ds)(w:World):Prop:=
 loopT (λ(J1:(Int)->World->Prop) (s:Int) (w:World)=>F9_6 R J1 s0 l1 p6 l21 n22 s ds w) n23 w
def F9_9(R:Rt)(s0:ByteArray)(l1:SV)(ds:Ds)(w:World):Prop:=
 alE (.map #[] 0) w λr18 w13=>
 alE (.cells #[.map (some r18),.slice none 0 0] 46) w13 λr20 w14=>
 F9_7 R s0 l1 (some (⟨r20,0,none⟩:Addr)) l1 (l1.len:Int) 0 ds w14
theorem F9_p:Pl prog f9 [sS 0,lS 1] F9_9:=λR=>
  pc 3 (rest [sS 0,lS 1,pS 6,lS 21,iS 22,iS 23] (F9_7 R) (bk 0 (rest [sS 0,lS 1,pS 6] (F9_5 R) (pc 1 (rest [sS 0,pS 6,lS 33,iS 34,iS 35] (F9_3 R) (bk 2 (rest [sS 0,pS 6] (F9_1 R) lf) (lp [iS 35] [sS 0,pS 6,lS 33,iS 34,iS 35] (F9_2 R) rnil λJ1=>lf))))) (lp [iS 23] [sS 0,lS 1,pS 6,lS 21,iS 22,iS 23] (F9_6 R) rnil λJ1=>lf)))
theorem F9_calls (s0:ByteArray) (l1:SV) (w:World) (R:Rt) (h:F9_9 R s0 l1 [] w):Calls prog 9 #[.string s0,.slice l1.a l1.len l1.cap] w R:=
  plC F9_p func9 h
def F17_1(R:Rt)(b5:Bool)(ds:Ds)(w:World):Prop:=
 Br (!b5) (
 runD prog ds w λw1=>
 R (.returned (.int .i64 2)) w1) (
 runD prog ds w λw2=>
 R (.returned (.int .i64 0)) w2)
def F17_2(R:Rt)(s0:ByteArray)(ds:Ds)(w:World):Prop:=
 Br (decide ((s0.size:Int) > 200)) (
 runD prog ds w λw3=>
 R (.returned (.int .i64 3)) w3) (
 Calls prog 18 #[.string s0] w λe w4=>
 ∃s11_0:ByteArray,∃s11_1:ByteArray,∃b11_2:Bool,e=.returned (.tuple #[.string s11_0,.string s11_1,.bool b11_2])/\
 Br (!b11_2) (
 runD prog ds w4 λw5=>
 R (.returned (.int .i64 2)) w5) (
 Calls prog 36 #[.string s0,.string (⟨#[10]⟩:ByteArray)] w4 λe w6=>
 ∃b19:Bool,e=.returned (.bool b19)/\
 Br b19 (
 runD prog ds w6 λw7=>
 R (.returned (.int .i64 2)) w7) (
 Br (s11_0.toList == (⟨#[68,69,70,73,78,69]⟩:ByteArray).toList) (
 Calls prog 37 #[.string s11_1] w6 λe w8=>
 ∃s26_0:ByteArray,∃l26_1:SV,∃b26_2:Bool,e=.returned (.tuple #[.string s26_0,.slice l26_1.a l26_1.len l26_1.cap,.bool b26_2])/\
 F17_1 R b26_2 ds w8) (
 Br (s11_0.toList == (⟨#[67,79,77,77,65,78,68]⟩:ByteArray).toList) (
 Br (s11_0.toList == (⟨#[67,79,77,77,65,78,68]⟩:ByteArray).toList) (
 Calls prog 38 #[.string s11_0,.string s11_1] w6 λe w9=>
 ∃b36_0_0:Bool,∃l36_0_1:SV,∃l36_0_2:SV,∃b36_1:Bool,e=.returned (.tuple #[.agg #[.bool b36_0_0,.slice l36_0_1.a l36_0_1.len l36_0_1.cap,.slice l36_0_2.a l36_0_2.len l36_0_2.cap],.bool b36_1])/\
 F17_1 R b36_1 ds w9) (
 F17_1 R false ds w6)) (
 Br (s11_0.toList == (⟨#[84,82,65,78,83,76,65,84,69]⟩:ByteArray).toList) (
 Calls prog 38 #[.string s11_0,.string s11_1] w6 λe w10=>
 ∃b36_0_0:Bool,∃l36_0_1:SV,∃l36_0_2:SV,∃b36_1:Bool,e=.returned (.tuple #[.agg #[.bool b36_0_0,.slice l36_0_1.a l36_0_1.len l36_0_1.cap,.slice l36_0_2.a l36_0_2.len l36_0_2.cap],.bool b36_1])/\
 F17_1 R b36_1 ds w10) (
 F17_1 R false ds w6))))))
theorem F17_p:Pl prog f17 [sS 0] F17_2:=λR=>
  pc 8 (rest [bS 5] (F17_1 R) lf)
theorem F17_calls (s0:ByteArray) (w:World) (R:Rt) (h:F17_2 R s0 [] w):Calls prog 17 #[.string s0] w R:=
  plC F17_p func17 h
def F19_1(R:Rt)(p0:Option Addr)(s1 s2:ByteArray)(ds:Ds)(w:World):Prop:=
 Br (s1.toList == (⟨#[68,69,70,73,78,69]⟩:ByteArray).toList) (
 Calls prog 37 #[.string s2] w λe w1=>
 ∃s36_0:ByteArray,∃l36_1:SV,∃b36_2:Bool,e=.returned (.tuple #[.string s36_0,.slice l36_1.a l36_1.len l36_1.cap,.bool b36_2])/\
 Br (!b36_2) (
 runD prog ds w1 λw2=>
 R (.returned (.int .i64 2)) w2) (
 ptrE p0 λa3=>
 ∃m45,w1.cell? a3=some (.map m45)/\
 doE prog (Instr.mapUpdate 43 (.map m45) (.string s36_0) (.slice l36_1.a l36_1.len l36_1.cap)) w1 λw4=>
 runD prog ds w4 λw5=>
 R (.returned (.int .i64 0)) w5)) (
 Br (s1.toList == (⟨#[85,78,68,69,70]⟩:ByteArray).toList) (
 Calls prog 45 #[.string s2] w λe w6=>
 ∃s51:ByteArray,e=.returned (.string s51)/\
 Calls prog 46 #[.string s51] w6 λe w7=>
 ∃b53:Bool,e=.returned (.bool b53)/\
 Br (!b53) (
 runD prog ds w7 λw8=>
 R (.returned (.int .i64 2)) w8) (
 ptrE p0 λa9=>
 ∃m58,w7.cell? a9=some (.map m58)/\
 ∃w10,(Builtin.delete_ #[43,9] 0 #[.map m58,.string s51]).run prog w7=.ok (.tuple #[]) w10/\
 runD prog ds w10 λw11=>
 R (.returned (.int .i64 0)) w11)) (
 Calls prog 38 #[.string s1,.string s2] w λe w12=>
 ∃b17_0_0:Bool,∃l17_0_1:SV,∃l17_0_2:SV,∃b17_1:Bool,e=.returned (.tuple #[.agg #[.bool b17_0_0,.slice l17_0_1.a l17_0_1.len l17_0_1.cap,.slice l17_0_2.a l17_0_2.len l17_0_2.cap],.bool b17_1])/\
 alE (.cells #[.bool false,.slice none 0 0,.slice none 0 0] 72) w12 λr11 w13=>
 stA prog 72 (⟨r11,0,none⟩:Addr) #[.bool b17_0_0,.slice l17_0_1.a l17_0_1.len l17_0_1.cap,.slice l17_0_2.a l17_0_2.len l17_0_2.cap] w13 λw14=>
 Br (!b17_1) (
 runD prog ds w14 λw15=>
 R (.returned (.int .i64 2)) w15) (
 dwE w14 λw16=>
 ∃S1:World->Prop,S1 w16/\
 ptrE p0 λa17=>
 ∃l26:SV,(∀w',S1 w'->w'.cell? (a17.add 1)=some (.slice l26.a l26.len l26.cap))/\
 ∃b27_0,(∀w',S1 w'->w'.cell? ((⟨r11,0,none⟩:Addr).add 0)=some (.bool b27_0))/\
 ∃l27_1:SV,(∀w',S1 w'->w'.cell? ((⟨r11,0,none⟩:Addr).add 1)=some (.slice l27_1.a l27_1.len l27_1.cap))/\
 ∃l27_2:SV,(∀w',S1 w'->w'.cell? ((⟨r11,0,none⟩:Addr).add 2)=some (.slice l27_2.a l27_2.len l27_2.cap))/\
 alE (.cells #[.bool b27_0,.slice l27_1.a l27_1.len l27_1.cap,.slice l27_2.a l27_2.len l27_2.cap] 72) w16 λr28 w18=>
 S1 w18/\
 ∃l29:SV,∃w19,(Builtin.append_ #[44,44] 44 #[.slice l26.a l26.len l26.cap,.slice (some ⟨r28,0,none⟩) 1 1]).run prog w18=.ok (.slice l29.a l29.len l29.cap) w19/\
 ptrE p0 λa20=>
 st1 (a20.add 1) (.slice l29.a l29.len l29.cap) w19 λw21=>
 runD prog ds w21 λw22=>
 R (.returned (.int .i64 0)) w22)))
theorem F19_p:Pl prog f19 [pS 0,sS 1,sS 2] F19_1:=λR=>
  lf
theorem F19_calls (p0:Option Addr) (s1 s2:ByteArray) (w:World) (R:Rt) (h:F19_1 R p0 s1 s2 [] w):Calls prog 19 #[.pointer p0,.string s1,.string s2] w R:=
  plC F19_p func19 h
def F20_1(R:Rt)(l8:SV)(ds:Ds)(w:World):Prop:=
 Br ((l8.len:Int) == 0) (
 runD prog ds w λw1=>
 R (.returned (.tuple #[.string (⟨#[]⟩:ByteArray),.int .i64 0])) w1) (
 Calls prog 50 #[.slice l8.a l8.len l8.cap] w λe w2=>
 ∃s47:ByteArray,e=.returned (.string s47)/\
 ((s47.size+(⟨#[10]⟩:ByteArray).size:Nat):Int)<=9223372036854775807/\
 runD prog ds w2 λw3=>
 R (.returned (.tuple #[.string (s47 ++ (⟨#[10]⟩:ByteArray)),.int .i64 0])) w3)
def F20_2 (R:Rt) (J1:(SV × Int)->World->Prop) (p0:Option Addr) (l8:SV) (n9:Int) (ds:Ds) (w:World):Prop:=
 Calls prog 49 #[.pointer p0,.slice l8.a l8.len l8.cap] w λe w4=>
 ∃l27_0:SV,∃b27_1:Bool,∃n27_2:Int,e=.returned (.tuple #[.slice l27_0.a l27_0.len l27_0.cap,.bool b27_1,.int .i64 n27_2])/\
 Br (n27_2 != 0) (
 runD prog ds w4 λw5=>
 R (.returned (.tuple #[.string (⟨#[]⟩:ByteArray),.int .i64 n27_2])) w5) (
 Br (!b27_1) (
 F20_1 R l8 ds w4) (
 Br (n9 == 40) (
 runD prog ds w4 λw6=>
 R (.returned (.tuple #[.string (⟨#[]⟩:ByteArray),.int .i64 3])) w6) (
 Calls prog 50 #[.slice l27_0.a l27_0.len l27_0.cap] w4 λe w7=>
 ∃s40:ByteArray,e=.returned (.string s40)/\
 Br (decide ((s40.size:Int) > 4000)) (
 runD prog ds w7 λw8=>
 R (.returned (.tuple #[.string (⟨#[]⟩:ByteArray),.int .i64 3])) w8) (
 J1 (l27_0,(IntKind.i64.wrap (n9+1))) w7))))
def F20_3(R:Rt)(p0:Option Addr)(l8:SV)(n9:Int)(ds:Ds)(w:World):Prop:=
 loopT (λ(J1:(SV × Int)->World->Prop) (s:SV × Int) (w:World)=>F20_2 R J1 p0 s.1 s.2 ds w) (l8,n9) w
def F20_5(R:Rt)(p0:Option Addr)(s1:ByteArray)(ds:Ds)(w:World):Prop:=
 Calls prog 47 #[.string s1] w λe w9=>
 ∃l15_0:SV,∃b15_1:Bool,e=.returned (.tuple #[.slice l15_0.a l15_0.len l15_0.cap,.bool b15_1])/\
 Br (!b15_1) (
 runD prog ds w9 λw10=>
 R (.returned (.tuple #[.string (⟨#[]⟩:ByteArray),.int .i64 2])) w10) (
 Calls prog 48 #[.slice l15_0.a l15_0.len l15_0.cap] w9 λe w11=>
 ∃l21:SV,e=.returned (.slice l21.a l21.len l21.cap)/\
 F20_3 R p0 l21 0 ds w11)
theorem F20_p:Pl prog f20 [pS 0,sS 1] F20_5:=λR=>
  pc 6 (rest [pS 0,lS 8,iS 9] (F20_3 R) (bk 0 (rest [lS 8] (F20_1 R) lf) (lp [lS 8,iS 9] [pS 0,lS 8,iS 9] (F20_2 R) rnil λJ1=>lf)))
theorem F20_calls (p0:Option Addr) (s1:ByteArray) (w:World) (R:Rt) (h:F20_5 R p0 s1 [] w):Calls prog 20 #[.pointer p0,.string s1] w R:=
  plC F20_p func20 h
end Go.Proofs.YtjbfehippchniaaGreatDoor

/- Shallow texts of functions, printed by program, each checked by the kernel against the loaded code. No condition. -/
set_option maxRecDepth 100000
set_option linter.unusedVariables false
namespace Go.Proofs.YtjbfehippchniaaGreatDoor
open Go.Sh Tryz
def F126_1(R:Rt)(s0 s1:ByteArray)(ds:Ds)(w:World):Prop:=
 Calls prog 154 #[.string s0,.string s1,.int .i64 0,.int .i64 (-1)] w λe w1=>
 ∃l7:SV,e=.returned (.slice l7.a l7.len l7.cap)/\
 runD prog ds w1 λw2=>
 R (.returned (.slice l7.a l7.len l7.cap)) w2
theorem F126_p:Pl prog f126 [sS 0,sS 1] F126_1:=λR=>
  lf
theorem F126_calls (s0 s1:ByteArray) (w:World) (R:Rt) (h:F126_1 R s0 s1 [] w):Calls prog 126 #[.string s0,.string s1] w R:=
  plC F126_p func126 h
def F154_1(R:Rt)(s0:ByteArray)(l9:SV)(n10:Int)(ds:Ds)(w:World):Prop:=
 ∃a1,l9.a=some a1/\0<=n10/\n10<(l9.len:Int)/\
 st1 (a1.add (n10.toNat * 1)) (.string s0) w λw2=>
 0<=(IntKind.i64.wrap (n10+1))/\(IntKind.i64.wrap (n10+1)).toNat<=l9.cap/\0<=(IntKind.i64.wrap (n10+1)).toNat/\
 runD prog ds w2 λw3=>
 R (.returned (.slice (if l9.cap=0 then l9.a else l9.a.map (λx=>x.add (0 * 1))) ((IntKind.i64.wrap (n10+1)).toNat - 0) (l9.cap - 0))) w3
def F154_2 (R:Rt) (J1:(ByteArray × Int)->World->Prop) (s0 s1:ByteArray) (n2 n3:Int) (l9:SV) (n10:Int) (ds:Ds) (w:World):Prop:=
 Br (decide (n10<n3)) (
 Calls prog 67 #[.string s0,.string s1] w λe w4=>
 ∃n39:Int,e=.returned (.int .i64 n39)/\
 Br (decide (n39<0)) (
 F154_1 R s0 l9 n10 ds w4) (
 0<=(IntKind.i64.wrap (n39+n2))/\(IntKind.i64.wrap (n39+n2)).toNat<=s0.size/\0<=(IntKind.i64.wrap (n39+n2)).toNat/\
 ∃a5,l9.a=some a5/\0<=n10/\n10<(l9.len:Int)/\
 st1 (a5.add (n10.toNat * 1)) (.string (s0.extract 0 ((IntKind.i64.wrap (n39+n2)).toNat))) w4 λw6=>
 s0.size<=s0.size/\0<=(IntKind.i64.wrap (n39+(s1.size:Int)))/\(IntKind.i64.wrap (n39+(s1.size:Int))).toNat<=s0.size/\
 J1 ((s0.extract ((IntKind.i64.wrap (n39+(s1.size:Int))).toNat) s0.size),(IntKind.i64.wrap (n10+1))) w6)) (
 F154_1 R s0 l9 n10 ds w)
def F154_3(R:Rt)(s0 s1:ByteArray)(n2 n3:Int)(l9:SV)(n10:Int)(ds:Ds)(w:World):Prop:=
 loopT (λ(J1:(ByteArray × Int)->World->Prop) (s:ByteArray × Int) (w:World)=>F154_2 R J1 s.1 s1 n2 n3 l9 s.2 ds w) (s0,n10) w
def F154_5(R:Rt)(s0 s1:ByteArray)(n2 n3:Int)(ds:Ds)(w:World):Prop:=
 Br (n3 == 0) (
 runD prog ds w λw7=>
 R (.returned (.slice none 0 0)) w7) (
 Br (s1.toList == (⟨#[]⟩:ByteArray).toList) (
 Calls prog 177 #[.string s0,.int .i64 n3] w λe w8=>
 ∃l18:SV,e=.returned (.slice l18.a l18.len l18.cap)/\
 runD prog ds w8 λw9=>
 R (.returned (.slice l18.a l18.len l18.cap)) w9) (
 Br (decide (n3<0)) (
 Calls prog 178 #[.string s0,.string s1] w λe w10=>
 ∃n23:Int,e=.returned (.int .i64 n23)/\
 ∃n29:Int,∃w11,(Builtin.min_ #[3,3] 3 #[.int .i64 (IntKind.i64.wrap (n23+1)),.int .i64 (IntKind.i64.wrap ((s0.size:Int)+1))]).run prog w10=.ok (.int .i64 n29) w11/\
 ∃l31:SV,∃w12,(Instr.makeSlice 33 (.int .i64 n29) (.int .i64 n29)).run prog w11=.ok (.slice l31.a l31.len l31.cap) w12/\
 F154_3 R s0 s1 n2 (IntKind.i64.wrap (n29 - 1)) l31 0 ds w12) (
 ∃n29:Int,∃w13,(Builtin.min_ #[3,3] 3 #[.int .i64 n3,.int .i64 (IntKind.i64.wrap ((s0.size:Int)+1))]).run prog w=.ok (.int .i64 n29) w13/\
 ∃l31:SV,∃w14,(Instr.makeSlice 33 (.int .i64 n29) (.int .i64 n29)).run prog w13=.ok (.slice l31.a l31.len l31.cap) w14/\
 F154_3 R s0 s1 n2 (IntKind.i64.wrap (n29 - 1)) l31 0 ds w14)))
theorem F154_p:Pl prog f154 [sS 0,sS 1,iS 2,iS 3] F154_5:=λR=>
  pc 11 (rest [sS 0,sS 1,iS 2,iS 3,lS 9,iS 10] (F154_3 R) (bk 0 (rest [sS 0,lS 9,iS 10] (F154_1 R) lf) (lp [sS 0,iS 10] [sS 0,sS 1,iS 2,iS 3,lS 9,iS 10] (F154_2 R) rnil λJ1=>lf)))
theorem F154_calls (s0 s1:ByteArray) (n2 n3:Int) (w:World) (R:Rt) (h:F154_5 R s0 s1 n2 n3 [] w):Calls prog 154 #[.string s0,.string s1,.int .i64 n2,.int .i64 n3] w R:=
  plC F154_p func154 h
def F115_1(R:Rt)(p0:Option Addr)(s1:ByteArray)(ds:Ds)(w:World):Prop:=
 Calls prog 142 #[.pointer p0] w λe w1=>
 e=.returned (.tuple #[])/\
 ptrE p0 λa2=>
 ∃l12:SV,w1.cell? (a2.add 1)=some (.slice l12.a l12.len l12.cap)/\
 ∃l14:SV,∃w3,(Builtin.append_ #[57,9] 57 #[.slice l12.a l12.len l12.cap,.string s1]).run prog w1=.ok (.slice l14.a l14.len l14.cap) w3/\
 ptrE p0 λa4=>
 st1 (a4.add 1) (.slice l14.a l14.len l14.cap) w3 λw5=>
 runD prog ds w5 λw6=>
 R (.returned (.tuple #[.int .i64 (s1.size:Int),.nilIface])) w6
theorem F115_p:Pl prog f115 [pS 0,sS 1] F115_1:=λR=>
  lf
theorem F115_calls (p0:Option Addr) (s1:ByteArray) (w:World) (R:Rt) (h:F115_1 R p0 s1 [] w):Calls prog 115 #[.pointer p0,.string s1] w R:=
  plC F115_p func115 h
def F25_1(R:Rt)(p0:Option Addr)(ds:Ds)(w:World):Prop:=
 dwE w λw1=>
 ∃S1:World->Prop,S1 w1/\
 ptrE p0 λa2=>
 ∃l6:SV,(∀w',S1 w'->w'.cell? (a2.add 1)=some (.slice l6.a l6.len l6.cap))/\
 ptrE p0 λa3=>
 ∃l11:SV,(∀w',S1 w'->w'.cell? (a3.add 1)=some (.slice l11.a l11.len l11.cap))/\
 ∃p7:Option Addr,∃w4,(Builtin.unsafeSliceData_ #[57] 93 #[.slice l6.a l6.len l6.cap]).run prog w1=.ok (.pointer p7) w4/\
 S1 w4/\
 ∃s13:ByteArray,∃w5,(Builtin.unsafeString_ #[93,3] 9 #[.pointer p7,.int .i64 (l11.len:Int)]).run prog w4=.ok (.string s13) w5/\
 runD prog ds w5 λw6=>
 R (.returned (.string s13)) w6
theorem F25_p:Pl prog f25 [pS 0] F25_1:=λR=>
  lf
theorem F25_calls (p0:Option Addr) (w:World) (R:Rt) (h:F25_1 R p0 [] w):Calls prog 25 #[.pointer p0] w R:=
  plC F25_p func25 h
end Go.Proofs.YtjbfehippchniaaGreatDoor

/- Shallow texts of functions, printed by program, each checked by the kernel against the loaded code. No condition. -/
set_option maxRecDepth 100000
set_option linter.unusedVariables false
namespace Go.Proofs.YtjbfehippchniaaGreatDoor
open Go.Sh Tryz
def F11_1(R:Rt)(s0:ByteArray)(ds:Ds)(w:World):Prop:=
 Calls prog 24 #[.string s0] w λe w1=>
 ∃p8_0:Option Addr,∃n8_1:Int,e=.returned (.tuple #[.pointer p8_0,.int .i64 n8_1])/\
 Br (n8_1 != 0) (
 runD prog ds w1 λw2=>
 R (.returned (.tuple #[.string (⟨#[]⟩:ByteArray),.int .i64 n8_1])) w2) (
 ptrE p8_0 λa3=>
 Calls prog 25 #[.pointer (some (a3.add 2))] w1 λe w4=>
 ∃s17:ByteArray,e=.returned (.string s17)/\
 runD prog ds w4 λw5=>
 R (.returned (.tuple #[.string s17,.int .i64 0])) w5)
theorem F11_p:Pl prog f11 [sS 0] F11_1:=λR=>
  lf
theorem F11_calls (s0:ByteArray) (w:World) (R:Rt) (h:F11_1 R s0 [] w):Calls prog 11 #[.string s0] w R:=
  plC F11_p func11 h
def F24_1(R:Rt)(s0:ByteArray)(ds:Ds)(w:World):Prop:=
 alE (.map #[] 0) w λr6 w1=>
 alE (.cells #[.map (some r6),.slice none 0 0,.pointer none,.slice none 0 0,.slice none 0 0] 62) w1 λr9 w2=>
 Br (decide ((s0.size:Int) > 4000)) (
 runD prog ds w2 λw3=>
 R (.returned (.tuple #[.pointer (some (⟨r9,0,none⟩:Addr)),.int .i64 3])) w3) (
 Calls prog 56 #[.pointer (some (⟨r9,0,none⟩:Addr)),.string s0] w2 λe w4=>
 ∃n16:Int,e=.returned (.int .i64 n16)/\
 Br (n16 != 0) (
 runD prog ds w4 λw5=>
 R (.returned (.tuple #[.pointer (some (⟨r9,0,none⟩:Addr)),.int .i64 n16])) w5) (
 Calls prog 57 #[.pointer (some ((⟨r9,0,none⟩:Addr).add 2))] w4 λe w6=>
 ∃n24:Int,e=.returned (.int .i64 n24)/\
 Br (decide (n24 > 4000)) (
 runD prog ds w6 λw7=>
 R (.returned (.tuple #[.pointer (some (⟨r9,0,none⟩:Addr)),.int .i64 3])) w7) (
 runD prog ds w6 λw8=>
 R (.returned (.tuple #[.pointer (some (⟨r9,0,none⟩:Addr)),.int .i64 0])) w8)))
theorem F24_p:Pl prog f24 [sS 0] F24_1:=λR=>
  lf
theorem F24_calls (s0:ByteArray) (w:World) (R:Rt) (h:F24_1 R s0 [] w):Calls prog 24 #[.string s0] w R:=
  plC F24_p func24 h
def F56_1(R:Rt)(p0:Option Addr)(ds:Ds)(w:World):Prop:=
 ptrE p0 λa1=>
 ∃l25:SV,w.cell? (a1.add 4)=some (.slice l25.a l25.len l25.cap)/\
 Br (decide ((l25.len:Int) > 0)) (
 runD prog ds w λw2=>
 R (.returned (.int .i64 2)) w2) (
 runD prog ds w λw3=>
 R (.returned (.int .i64 0)) w3)
def F56_2 (R:Rt) (J1:(Int)->World->Prop) (p0:Option Addr) (l9:SV) (n10 n11:Int) (ds:Ds) (w:World):Prop:=
 Br (decide (n11<n10)) (
 ∃a4,l9.a=some a4/\0<=n11/\n11<(l9.len:Int)/\
 ∃s14,w.cell? (a4.add (n11.toNat * 1))=some (.string s14)/\
 Calls prog 95 #[.pointer p0,.string s14] w λe w5=>
 ∃n17:Int,e=.returned (.int .i64 n17)/\
 Br (n17 != 0) (
 runD prog ds w5 λw6=>
 R (.returned (.int .i64 n17)) w6) (
 J1 (IntKind.i64.wrap (n11+1)) w5)) (
 F56_1 R p0 ds w)
def F56_3(R:Rt)(p0:Option Addr)(l9:SV)(n10 n11:Int)(ds:Ds)(w:World):Prop:=
 loopT (λ(J1:(Int)->World->Prop) (s:Int) (w:World)=>F56_2 R J1 p0 l9 n10 s ds w) n11 w
def F56_5(R:Rt)(p0:Option Addr)(s1:ByteArray)(ds:Ds)(w:World):Prop:=
 Calls prog 94 #[.string s1] w λe w7=>
 ∃l9:SV,e=.returned (.slice l9.a l9.len l9.cap)/\
 F56_3 R p0 l9 (l9.len:Int) 0 ds w7
theorem F56_p:Pl prog f56 [pS 0,sS 1] F56_5:=λR=>
  pc 2 (rest [pS 0,lS 9,iS 10,iS 11] (F56_3 R) (bk 0 (rest [pS 0] (F56_1 R) lf) (lp [iS 11] [pS 0,lS 9,iS 10,iS 11] (F56_2 R) rnil λJ1=>lf)))
theorem F56_calls (p0:Option Addr) (s1:ByteArray) (w:World) (R:Rt) (h:F56_5 R p0 s1 [] w):Calls prog 56 #[.pointer p0,.string s1] w R:=
  plC F56_p func56 h
def F95_1(R:Rt)(p0:Option Addr)(s1:ByteArray)(ds:Ds)(w:World):Prop:=
 Calls prog 39 #[.string s1] w λe w1=>
 ∃s14:ByteArray,e=.returned (.string s14)/\
 Calls prog 41 #[.string s14,.string (⟨#[35]⟩:ByteArray)] w1 λe w2=>
 ∃b15:Bool,e=.returned (.bool b15)/\
 Br (!b15) (
 Calls prog 127 #[.pointer p0] w2 λe w3=>
 ∃b18:Bool,e=.returned (.bool b18)/\
 Br (!b18) (
 runD prog ds w3 λw4=>
 R (.returned (.int .i64 0)) w4) (
 ptrE p0 λa5=>
 Calls prog 20 #[.pointer (some a5),.string s1] w3 λe w6=>
 ∃s25_0:ByteArray,∃n25_1:Int,e=.returned (.tuple #[.string s25_0,.int .i64 n25_1])/\
 ptrE p0 λa7=>
 Calls prog 115 #[.pointer (some (a7.add 2)),.string s25_0] w6 λe w8=>
 ∃n32_0:Int,∃v32_1:Value,e=.returned (.tuple #[.int .i64 n32_0,v32_1])/\
 runD prog ds w8 λw9=>
 R (.returned (.int .i64 n25_1)) w9)) (
 Calls prog 18 #[.string s1] w2 λe w10=>
 ∃s36_0:ByteArray,∃s36_1:ByteArray,∃b36_2:Bool,e=.returned (.tuple #[.string s36_0,.string s36_1,.bool b36_2])/\
 Calls prog 128 #[.pointer p0,.string s36_0,.string s36_1] w10 λe w11=>
 ∃b44_0:Bool,∃n44_1:Int,e=.returned (.tuple #[.bool b44_0,.int .i64 n44_1])/\
 Br b44_0 (
 runD prog ds w11 λw12=>
 R (.returned (.int .i64 n44_1)) w12) (
 Calls prog 127 #[.pointer p0] w11 λe w13=>
 ∃b50:Bool,e=.returned (.bool b50)/\
 Br (!b50) (
 runD prog ds w13 λw14=>
 R (.returned (.int .i64 0)) w14) (
 Br (!b36_2) (
 runD prog ds w13 λw15=>
 R (.returned (.int .i64 2)) w15) (
 ptrE p0 λa16=>
 Calls prog 19 #[.pointer (some a16),.string s36_0,.string s36_1] w13 λe w17=>
 ∃n59:Int,e=.returned (.int .i64 n59)/\
 Br (n59 != 0) (
 runD prog ds w17 λw18=>
 R (.returned (.int .i64 n59)) w18) (
 dwE w17 λw19=>
 ptrE p0 λa20=>
 ∃m67,w19.cell? a20=some (.map m67)/\
 ∃n68:Int,(Builtin.len_ #[43] 3 #[.map m67]).run prog w19=.ok (.int .i64 n68) w19/\
 ptrE p0 λa21=>
 ∃l73:SV,w19.cell? (a21.add 1)=some (.slice l73.a l73.len l73.cap)/\
 Br (decide ((IntKind.i64.wrap (n68+(l73.len:Int))) > 40)) (
 runD prog ds w19 λw22=>
 R (.returned (.int .i64 3)) w22) (
 runD prog ds w19 λw23=>
 R (.returned (.int .i64 0)) w23))))))
theorem F95_p:Pl prog f95 [pS 0,sS 1] F95_1:=λR=>
  lf
theorem F95_calls (p0:Option Addr) (s1:ByteArray) (w:World) (R:Rt) (h:F95_1 R p0 s1 [] w):Calls prog 95 #[.pointer p0,.string s1] w R:=
  plC F95_p func95 h
def F127_1(R:Rt)(p0:Option Addr)(ds:Ds)(w:World):Prop:=
 ptrE p0 λa1=>
 ∃l7:SV,w.cell? (a1.add 4)=some (.slice l7.a l7.len l7.cap)/\
 Br ((l7.len:Int) == 0) (
 runD prog ds w λw2=>
 R (.returned (.bool true)) w2) (
 ptrE p0 λa3=>
 ∃l15:SV,w.cell? (a3.add 4)=some (.slice l15.a l15.len l15.cap)/\
 ∃a4,l15.a=some a4/\0<=(IntKind.i64.wrap ((l7.len:Int) - 1))/\(IntKind.i64.wrap ((l7.len:Int) - 1))<(l15.len:Int)/\
 ∃b20,w.cell? (a4.add ((IntKind.i64.wrap ((l7.len:Int) - 1)).toNat * 3))=some (.bool b20)/\
 Br b20 (
 ptrE p0 λa5=>
 ∃l25:SV,w.cell? (a5.add 4)=some (.slice l25.a l25.len l25.cap)/\
 ∃a6,l25.a=some a6/\0<=(IntKind.i64.wrap ((l7.len:Int) - 1))/\(IntKind.i64.wrap ((l7.len:Int) - 1))<(l25.len:Int)/\
 ∃b30,w.cell? ((a6.add ((IntKind.i64.wrap ((l7.len:Int) - 1)).toNat * 3)).add 1)=some (.bool b30)/\
 runD prog ds w λw7=>
 R (.returned (.bool b30)) w7) (
 runD prog ds w λw8=>
 R (.returned (.bool false)) w8))
theorem F127_p:Pl prog f127 [pS 0] F127_1:=λR=>
  lf
theorem F127_calls (p0:Option Addr) (w:World) (R:Rt) (h:F127_1 R p0 [] w):Calls prog 127 #[.pointer p0] w R:=
  plC F127_p func127 h
def F94_1(R:Rt)(l3:SV)(s4:ByteArray)(b5:Bool)(ds:Ds)(w:World):Prop:=
 Br b5 (
 alE (.cells #[.string s4] 9) w λr68 w1=>
 ∃l69:SV,∃w2,(Builtin.append_ #[33,33] 33 #[.slice l3.a l3.len l3.cap,.slice (some ⟨r68,0,none⟩) 1 1]).run prog w1=.ok (.slice l69.a l69.len l69.cap) w2/\
 runD prog ds w2 λw3=>
 R (.returned (.slice l69.a l69.len l69.cap)) w3) (
 runD prog ds w λw4=>
 R (.returned (.slice l3.a l3.len l3.cap)) w4)
def F94_2 (R:Rt) (J1:(SV × ByteArray × Bool × Bool × Int)->World->Prop) (l3:SV) (s4:ByteArray) (b5 b6:Bool) (l11:SV) (n12 n13:Int) (ds:Ds) (w:World):Prop:=
 J1 (l3,s4,b5,b6,(IntKind.i64.wrap (n13+1))) w
def F94_3 (R:Rt) (J1:(SV × ByteArray × Bool × Bool × Int)->World->Prop) (l3:SV) (s4:ByteArray) (b5 b6:Bool) (l11:SV) (n12 n13:Int) (b59:Bool) (ds:Ds) (w:World):Prop:=
 Br b59 (
 alE (.cells #[.string s4] 9) w λr62 w5=>
 ∃l63:SV,∃w6,(Builtin.append_ #[33,33] 33 #[.slice l3.a l3.len l3.cap,.slice (some ⟨r62,0,none⟩) 1 1]).run prog w5=.ok (.slice l63.a l63.len l63.cap) w6/\
 F94_2 R J1 l63 (⟨#[]⟩:ByteArray) b5 false l11 n12 n13 ds w6) (
 F94_2 R J1 l3 s4 b5 b6 l11 n12 n13 ds w)
def F94_4 (R:Rt) (J1:(SV × ByteArray × Bool × Bool × Int)->World->Prop) (l3:SV) (s4:ByteArray) (b5 b6:Bool) (s9:ByteArray) (l11:SV) (n12 n13:Int) (ds:Ds) (w:World):Prop:=
 Br b6 (
 F94_3 R J1 l3 s4 b5 true l11 n12 n13 (!b5) ds w) (
 Br (!(s9.toList == (⟨#[]⟩:ByteArray).toList)) (
 Br (!(s9.toList == (⟨#[59]⟩:ByteArray).toList)) (
 Calls prog 41 #[.string s9,.string (⟨#[42]⟩:ByteArray)] w λe w7=>
 ∃b50:Bool,e=.returned (.bool b50)/\
 Br b50 (
 F94_3 R J1 l3 s4 b5 (!(!b6)) l11 n12 n13 (!b5) ds w7) (
 F94_3 R J1 l3 s4 b5 true l11 n12 n13 (!b5) ds w7)) (
 F94_3 R J1 l3 s4 b5 false l11 n12 n13 (!b5) ds w)) (
 F94_3 R J1 l3 s4 b5 false l11 n12 n13 (!b5) ds w))
def F94_5 (R:Rt) (J1:(SV × ByteArray × Bool × Bool × Int)->World->Prop) (l3:SV) (s4:ByteArray) (b5 b6:Bool) (l11:SV) (n12 n13:Int) (ds:Ds) (w:World):Prop:=
 ∃a8,l11.a=some a8/\0<=n13/\n13<(l11.len:Int)/\
 ∃s16,w.cell? (a8.add (n13.toNat * 1))=some (.string s16)/\
 Br (!b5) (
 Calls prog 39 #[.string s16] w λe w9=>
 ∃s21:ByteArray,e=.returned (.string s21)/\
 Calls prog 41 #[.string s21,.string (⟨#[35]⟩:ByteArray)] w9 λe w10=>
 ∃b22:Bool,e=.returned (.bool b22)/\
 Br b22 (
 alE (.cells #[.string s16] 9) w10 λr26 w11=>
 ∃l27:SV,∃w12,(Builtin.append_ #[33,33] 33 #[.slice l3.a l3.len l3.cap,.slice (some ⟨r26,0,none⟩) 1 1]).run prog w11=.ok (.slice l27.a l27.len l27.cap) w12/\
 F94_2 R J1 l27 s4 b5 b6 l11 n12 n13 ds w12) (
 Br b5 (
 ((s4.size+(⟨#[10]⟩:ByteArray).size:Nat):Int)<=9223372036854775807/\
 (((s4 ++ (⟨#[10]⟩:ByteArray)).size+s16.size:Nat):Int)<=9223372036854775807/\
 Calls prog 40 #[.string s16] w10 λe w13=>
 ∃s35:ByteArray,e=.returned (.string s35)/\
 Calls prog 39 #[.string s35] w13 λe w14=>
 ∃s36:ByteArray,e=.returned (.string s36)/\
 Calls prog 68 #[.string s16,.bool b6] w14 λe w15=>
 ∃b39:Bool,e=.returned (.bool b39)/\
 F94_4 R J1 l3 ((s4 ++ (⟨#[10]⟩:ByteArray)) ++ s16) b39 b6 s36 l11 n12 n13 ds w15) (
 ((s4.size+s16.size:Nat):Int)<=9223372036854775807/\
 Calls prog 40 #[.string s16] w10 λe w16=>
 ∃s35:ByteArray,e=.returned (.string s35)/\
 Calls prog 39 #[.string s35] w16 λe w17=>
 ∃s36:ByteArray,e=.returned (.string s36)/\
 Calls prog 68 #[.string s16,.bool b6] w17 λe w18=>
 ∃b39:Bool,e=.returned (.bool b39)/\
 F94_4 R J1 l3 (s4 ++ s16) b39 b6 s36 l11 n12 n13 ds w18))) (
 Br b5 (
 ((s4.size+(⟨#[10]⟩:ByteArray).size:Nat):Int)<=9223372036854775807/\
 (((s4 ++ (⟨#[10]⟩:ByteArray)).size+s16.size:Nat):Int)<=9223372036854775807/\
 Calls prog 40 #[.string s16] w λe w19=>
 ∃s35:ByteArray,e=.returned (.string s35)/\
 Calls prog 39 #[.string s35] w19 λe w20=>
 ∃s36:ByteArray,e=.returned (.string s36)/\
 Calls prog 68 #[.string s16,.bool b6] w20 λe w21=>
 ∃b39:Bool,e=.returned (.bool b39)/\
 F94_4 R J1 l3 ((s4 ++ (⟨#[10]⟩:ByteArray)) ++ s16) b39 b6 s36 l11 n12 n13 ds w21) (
 ((s4.size+s16.size:Nat):Int)<=9223372036854775807/\
 Calls prog 40 #[.string s16] w λe w22=>
 ∃s35:ByteArray,e=.returned (.string s35)/\
 Calls prog 39 #[.string s35] w22 λe w23=>
 ∃s36:ByteArray,e=.returned (.string s36)/\
 Calls prog 68 #[.string s16,.bool b6] w23 λe w24=>
 ∃b39:Bool,e=.returned (.bool b39)/\
 F94_4 R J1 l3 (s4 ++ s16) b39 b6 s36 l11 n12 n13 ds w24))
def F94_7 (R:Rt) (J1:(SV × ByteArray × Bool × Bool × Int)->World->Prop) (l3:SV) (s4:ByteArray) (b5 b6:Bool) (l11:SV) (n12 n13:Int) (ds:Ds) (w:World):Prop:=
 Br (decide (n13<n12)) (
 F94_5 R J1 l3 s4 b5 b6 l11 n12 n13 ds w) (
 F94_1 R l3 s4 b5 ds w)
def F94_8(R:Rt)(l3:SV)(s4:ByteArray)(b5 b6:Bool)(l11:SV)(n12 n13:Int)(ds:Ds)(w:World):Prop:=
 loopT (λ(J1:(SV × ByteArray × Bool × Bool × Int)->World->Prop) (s:SV × ByteArray × Bool × Bool × Int) (w:World)=>F94_7 R J1 s.1 s.2.1 s.2.2.1 s.2.2.2.1 l11 n12 s.2.2.2.2 ds w) (l3,s4,b5,b6,n13) w
def F94_10(R:Rt)(s0:ByteArray)(ds:Ds)(w:World):Prop:=
 Calls prog 126 #[.string s0,.string (⟨#[10]⟩:ByteArray)] w λe w25=>
 ∃l11:SV,e=.returned (.slice l11.a l11.len l11.cap)/\
 F94_8 R ⟨none,0,0⟩ (⟨#[]⟩:ByteArray) false false l11 (l11.len:Int) 0 ds w25
theorem F94_p:Pl prog f94 [sS 0] F94_10:=λR=>
  pc 4 (rest [lS 3,sS 4,bS 5,bS 6,lS 11,iS 12,iS 13] (F94_8 R) (bk 0 (rest [lS 3,sS 4,bS 5] (F94_1 R) lf) (lp [lS 3,sS 4,bS 5,bS 6,iS 13] [lS 3,sS 4,bS 5,bS 6,lS 11,iS 12,iS 13] (F94_7 R) rnil λJ1=>pc 2 (rest [lS 3,sS 4,bS 5,bS 6,lS 11,iS 12,iS 13] (F94_5 R J1) (bk 1 (rest [lS 3,sS 4,bS 5,bS 6,lS 11,iS 12,iS 13] (F94_2 R J1) lf) (pc 8 (rest [lS 3,sS 4,bS 5,bS 6,sS 9,lS 11,iS 12,iS 13] (F94_4 R J1) (pc 2 (rest [lS 3,sS 4,bS 5,bS 6,lS 11,iS 12,iS 13,bS 59] (F94_3 R J1) lf)))))))))
theorem F94_calls (s0:ByteArray) (w:World) (R:Rt) (h:F94_10 R s0 [] w):Calls prog 94 #[.string s0] w R:=
  plC F94_p func94 h
def F57_1(R:Rt)(p0:Option Addr)(ds:Ds)(w:World):Prop:=
 ptrE p0 λa1=>
 ∃l6:SV,w.cell? (a1.add 1)=some (.slice l6.a l6.len l6.cap)/\
 runD prog ds w λw2=>
 R (.returned (.int .i64 (l6.len:Int))) w2
theorem F57_p:Pl prog f57 [pS 0] F57_1:=λR=>
  lf
theorem F57_calls (p0:Option Addr) (w:World) (R:Rt) (h:F57_1 R p0 [] w):Calls prog 57 #[.pointer p0] w R:=
  plC F57_p func57 h
end Go.Proofs.YtjbfehippchniaaGreatDoor

/- Shallow texts of functions, printed by program, each checked by the kernel against the loaded code. No condition. -/
set_option maxRecDepth 100000
set_option linter.unusedVariables false
namespace Go.Proofs.YtjbfehippchniaaGreatDoor
open Go.Sh Tryz
def F10_1(R:Rt)(ds:Ds)(w:World):Prop:=
 runD prog ds w λw1=>
 R (.returned (.bool false)) w1
def F10_2 (R:Rt) (J1:(Int)->World->Prop) (l3:SV) (n4:Int) (ds:Ds) (w:World):Prop:=
 Br (decide (n4<(l3.len:Int))) (
 ∃a2,l3.a=some a2/\0<=n4/\n4<(l3.len:Int)/\
 ∃s20,w.cell? (a2.add (n4.toNat * 1))=some (.string s20)/\
 Calls prog 23 #[.string s20] w λe w3=>
 ∃s21_0:ByteArray,∃s21_1:ByteArray,∃b21_2:Bool,e=.returned (.tuple #[.string s21_0,.string s21_1,.bool b21_2])/\
 Br b21_2 (
 runD prog ds w3 λw4=>
 R (.returned (.bool true)) w4) (
 J1 (IntKind.i64.wrap (n4+1)) w3)) (
 F10_1 R ds w)
def F10_3(R:Rt)(l3:SV)(n4:Int)(ds:Ds)(w:World):Prop:=
 loopT (λ(J1:(Int)->World->Prop) (s:Int) (w:World)=>F10_2 R J1 l3 s ds w) n4 w
def F10_5(R:Rt)(s0:ByteArray)(ds:Ds)(w:World):Prop:=
 Calls prog 22 #[.string s0] w λe w5=>
 ∃l9:SV,e=.returned (.slice l9.a l9.len l9.cap)/\
 F10_3 R l9 0 ds w5
theorem F10_p:Pl prog f10 [sS 0] F10_5:=λR=>
  pc 3 (rest [lS 3,iS 4] (F10_3 R) (bk 0 (rest [] (F10_1 R) lf) (lp [iS 4] [lS 3,iS 4] (F10_2 R) rnil λJ1=>lf)))
theorem F10_calls (s0:ByteArray) (w:World) (R:Rt) (h:F10_5 R s0 [] w):Calls prog 10 #[.string s0] w R:=
  plC F10_p func10 h
def F22_1(R:Rt)(l3:SV)(ds:Ds)(w:World):Prop:=
 runD prog ds w λw1=>
 R (.returned (.slice l3.a l3.len l3.cap)) w1
def F22_2 (R:Rt) (J1:(SV × Int × Int)->World->Prop) (s0:ByteArray) (l3:SV) (n4 n5:Int) (ds:Ds) (w:World):Prop:=
 Br (decide (n5<=(s0.size:Int))) (
 Br (n5 == (s0.size:Int)) (
 0<=n5/\n5.toNat<=s0.size/\0<=n4/\n4.toNat<=n5.toNat/\
 alE (.cells #[.string (s0.extract n4.toNat n5.toNat)] 9) w λr27 w2=>
 ∃l28:SV,∃w3,(Builtin.append_ #[33,33] 33 #[.slice l3.a l3.len l3.cap,.slice (some ⟨r27,0,none⟩) 1 1]).run prog w2=.ok (.slice l28.a l28.len l28.cap) w3/\
 J1 (l28,(IntKind.i64.wrap (n5+1)),(IntKind.i64.wrap (n5+1))) w3) (
 ∃b19:UInt8,0<=n5/\s0[n5.toNat]?=some b19/\
 Br ((b19.toNat:Int) == 10) (
 0<=n5/\n5.toNat<=s0.size/\0<=n4/\n4.toNat<=n5.toNat/\
 alE (.cells #[.string (s0.extract n4.toNat n5.toNat)] 9) w λr27 w4=>
 ∃l28:SV,∃w5,(Builtin.append_ #[33,33] 33 #[.slice l3.a l3.len l3.cap,.slice (some ⟨r27,0,none⟩) 1 1]).run prog w4=.ok (.slice l28.a l28.len l28.cap) w5/\
 J1 (l28,(IntKind.i64.wrap (n5+1)),(IntKind.i64.wrap (n5+1))) w5) (
 J1 (l3,n4,(IntKind.i64.wrap (n5+1))) w))) (
 F22_1 R l3 ds w)
def F22_3(R:Rt)(s0:ByteArray)(l3:SV)(n4 n5:Int)(ds:Ds)(w:World):Prop:=
 loopT (λ(J1:(SV × Int × Int)->World->Prop) (s:SV × Int × Int) (w:World)=>F22_2 R J1 s0 s.1 s.2.1 s.2.2 ds w) (l3,n4,n5) w
def F22_5(R:Rt)(s0:ByteArray)(ds:Ds)(w:World):Prop:=
 F22_3 R s0 ⟨none,0,0⟩ 0 0 ds w
theorem F22_p:Pl prog f22 [sS 0] F22_5:=λR=>
  pc 4 (rest [sS 0,lS 3,iS 4,iS 5] (F22_3 R) (bk 0 (rest [lS 3] (F22_1 R) lf) (lp [lS 3,iS 4,iS 5] [sS 0,lS 3,iS 4,iS 5] (F22_2 R) rnil λJ1=>lf)))
theorem F22_calls (s0:ByteArray) (w:World) (R:Rt) (h:F22_5 R s0 [] w):Calls prog 22 #[.string s0] w R:=
  plC F22_p func22 h
def F23_1(R:Rt)(s0:ByteArray)(n5:Int)(ds:Ds)(w:World):Prop:=
 Br (n5 == (s0.size:Int)) (
 runD prog ds w λw1=>
 R (.returned (.tuple #[.string (⟨#[]⟩:ByteArray),.string (⟨#[]⟩:ByteArray),.bool false])) w1) (
 ∃b33:UInt8,0<=n5/\s0[n5.toNat]?=some b33/\
 Br ((b33.toNat:Int) != 35) (
 runD prog ds w λw2=>
 R (.returned (.tuple #[.string (⟨#[]⟩:ByteArray),.string (⟨#[]⟩:ByteArray),.bool false])) w2) (
 s0.size<=s0.size/\0<=(IntKind.i64.wrap (n5+1))/\(IntKind.i64.wrap (n5+1)).toNat<=s0.size/\
 Calls prog 52 #[.string (s0.extract ((IntKind.i64.wrap (n5+1)).toNat) s0.size)] w λe w3=>
 ∃s40:ByteArray,e=.returned (.string s40)/\
 alE (.cells #[.string s40,.int .i64 0,.bool false] 91) w3 λr42 w4=>
 Calls prog 53 #[.pointer (some (⟨r42,0,none⟩:Addr))] w4 λe w5=>
 e=.returned (.tuple #[])/\
 Calls prog 54 #[.pointer (some (⟨r42,0,none⟩:Addr))] w5 λe w6=>
 ∃s46:ByteArray,e=.returned (.string s46)/\
 alE (.cells #[.string (⟨#[68,69,70,73,78,69]⟩:ByteArray),.string (⟨#[85,78,68,69,70]⟩:ByteArray),.string (⟨#[73,70,68,69,70]⟩:ByteArray),.string (⟨#[73,70,78,68,69,70]⟩:ByteArray),.string (⟨#[69,76,83,69]⟩:ByteArray),.string (⟨#[69,78,68,73,70]⟩:ByteArray),.string (⟨#[67,79,77,77,65,78,68]⟩:ByteArray),.string (⟨#[84,82,65,78,83,76,65,84,69]⟩:ByteArray)] 9) w6 λr49 w7=>
 Calls prog 55 #[.string s46,.slice (some ⟨r49,0,none⟩) 8 8] w7 λe w8=>
 ∃s50_0:ByteArray,∃b50_1:Bool,e=.returned (.tuple #[.string s50_0,.bool b50_1])/\
 dwE w8 λw9=>
 ∃s57,w9.cell? (⟨r42,0,none⟩:Addr)=some (.string s57)/\
 ∃n61,w9.cell? ((⟨r42,0,none⟩:Addr).add 1)=some (.int .i64 n61)/\
 s57.size<=s57.size/\0<=n61/\n61.toNat<=s57.size/\
 runD prog ds w9 λw10=>
 R (.returned (.tuple #[.string s50_0,.string (s57.extract n61.toNat s57.size),.bool true])) w10))
def F23_2 (R:Rt) (J1:(Int)->World->Prop) (s0:ByteArray) (n5:Int) (ds:Ds) (w:World):Prop:=
 Br (decide (n5<(s0.size:Int))) (
 ∃b15:UInt8,0<=n5/\s0[n5.toNat]?=some b15/\
 Br ((b15.toNat:Int) == 32) (
 J1 (IntKind.i64.wrap (n5+1)) w) (
 ∃b20:UInt8,0<=n5/\s0[n5.toNat]?=some b20/\
 Br ((b20.toNat:Int) == 9) (
 J1 (IntKind.i64.wrap (n5+1)) w) (
 F23_1 R s0 n5 ds w))) (
 F23_1 R s0 n5 ds w)
def F23_3(R:Rt)(s0:ByteArray)(n5:Int)(ds:Ds)(w:World):Prop:=
 loopT (λ(J1:(Int)->World->Prop) (s:Int) (w:World)=>F23_2 R J1 s0 s ds w) n5 w
def F23_5(R:Rt)(s0:ByteArray)(ds:Ds)(w:World):Prop:=
 F23_3 R s0 0 ds w
theorem F23_p:Pl prog f23 [sS 0] F23_5:=λR=>
  pc 2 (rest [sS 0,iS 5] (F23_3 R) (bk 0 (rest [sS 0,iS 5] (F23_1 R) lf) (lp [iS 5] [sS 0,iS 5] (F23_2 R) rnil λJ1=>lf)))
theorem F23_calls (s0:ByteArray) (w:World) (R:Rt) (h:F23_5 R s0 [] w):Calls prog 23 #[.string s0] w R:=
  plC F23_p func23 h
def F52_1(R:Rt)(s0:ByteArray)(ds:Ds)(w:World):Prop:=
 runD prog ds w λw1=>
 R (.returned (.string s0)) w1
def F52_2 (R:Rt) (J1:(Int)->World->Prop) (s0:ByteArray) (n3:Int) (ds:Ds) (w:World):Prop:=
 Br (decide (n3<(s0.size:Int))) (
 s0.size<=s0.size/\0<=n3/\n3.toNat<=s0.size/\
 Calls prog 92 #[.string (s0.extract n3.toNat s0.size),.string (⟨#[38,38]⟩:ByteArray)] w λe w2=>
 ∃b14:Bool,e=.returned (.bool b14)/\
 Br b14 (
 0<=n3/\n3.toNat<=s0.size/\0<=n3.toNat/\
 runD prog ds w2 λw3=>
 R (.returned (.string (s0.extract 0 n3.toNat))) w3) (
 Calls prog 91 #[.string s0,.int .i64 n3] w2 λe w4=>
 ∃n10:Int,e=.returned (.int .i64 n10)/\
 J1 n10 w4)) (
 F52_1 R s0 ds w)
def F52_3(R:Rt)(s0:ByteArray)(n3:Int)(ds:Ds)(w:World):Prop:=
 loopT (λ(J1:(Int)->World->Prop) (s:Int) (w:World)=>F52_2 R J1 s0 s ds w) n3 w
def F52_5(R:Rt)(s0:ByteArray)(ds:Ds)(w:World):Prop:=
 F52_3 R s0 0 ds w
theorem F52_p:Pl prog f52 [sS 0] F52_5:=λR=>
  pc 2 (rest [sS 0,iS 3] (F52_3 R) (bk 0 (rest [sS 0] (F52_1 R) lf) (lp [iS 3] [sS 0,iS 3] (F52_2 R) rnil λJ1=>lf)))
theorem F52_calls (s0:ByteArray) (w:World) (R:Rt) (h:F52_5 R s0 [] w):Calls prog 52 #[.string s0] w R:=
  plC F52_p func52 h
def F53_1 (R:Rt) (J1:(Unit)->World->Prop) (p0:Option Addr) (ds:Ds) (w:World):Prop:=
 dwE w λw1=>
 ptrE p0 λa2=>
 ∃n5,w1.cell? (a2.add 1)=some (.int .i64 n5)/\
 ptrE p0 λa3=>
 ∃s9,w1.cell? a3=some (.string s9)/\
 Br (decide (n5<(s9.size:Int))) (
 ptrE p0 λa4=>
 ∃s16,w1.cell? a4=some (.string s16)/\
 ptrE p0 λa5=>
 ∃n20,w1.cell? (a5.add 1)=some (.int .i64 n20)/\
 ∃b21:UInt8,0<=n20/\s16[n20.toNat]?=some b21/\
 Br ((b21.toNat:Int) == 32) (
 ptrE p0 λa6=>
 ∃n39,w1.cell? (a6.add 1)=some (.int .i64 n39)/\
 ptrE p0 λa7=>
 st1 (a7.add 1) (.int .i64 (IntKind.i64.wrap (n39+1))) w1 λw8=>
 J1 () w8) (
 ptrE p0 λa9=>
 ∃s27,w1.cell? a9=some (.string s27)/\
 ptrE p0 λa10=>
 ∃n31,w1.cell? (a10.add 1)=some (.int .i64 n31)/\
 ∃b32:UInt8,0<=n31/\s27[n31.toNat]?=some b32/\
 Br ((b32.toNat:Int) == 9) (
 ptrE p0 λa11=>
 ∃n39,w1.cell? (a11.add 1)=some (.int .i64 n39)/\
 ptrE p0 λa12=>
 st1 (a12.add 1) (.int .i64 (IntKind.i64.wrap (n39+1))) w1 λw13=>
 J1 () w13) (
 runD prog ds w1 λw14=>
 R (.returned (.tuple #[])) w14))) (
 runD prog ds w1 λw15=>
 R (.returned (.tuple #[])) w15)
def F53_2(R:Rt)(p0:Option Addr)(ds:Ds)(w:World):Prop:=
 loopT (λ(J1:(Unit)->World->Prop) (_:Unit) (w:World)=>F53_1 R J1 p0 ds w) () w
theorem F53_p:Pl prog f53 [pS 0] F53_2:=λR=>
  bk 0 rnil (lp [] [pS 0] (F53_1 R) rnil λJ1=>lf)
theorem F53_calls (p0:Option Addr) (w:World) (R:Rt) (h:F53_2 R p0 [] w):Calls prog 53 #[.pointer p0] w R:=
  plC F53_p func53 h
def F54_1(R:Rt)(p0:Option Addr)(n3:Int)(ds:Ds)(w:World):Prop:=
 dwE w λw1=>
 ptrE p0 λa2=>
 ∃s36,w1.cell? a2=some (.string s36)/\
 ptrE p0 λa3=>
 ∃n40,w1.cell? (a3.add 1)=some (.int .i64 n40)/\
 0<=n3/\n3.toNat<=s36.size/\0<=n40/\n40.toNat<=n3.toNat/\
 Calls prog 63 #[.string (s36.extract n40.toNat n3.toNat)] w1 λe w4=>
 ∃s43:ByteArray,e=.returned (.string s43)/\
 ptrE p0 λa5=>
 st1 (a5.add 1) (.int .i64 n3) w4 λw6=>
 runD prog ds w6 λw7=>
 R (.returned (.string s43)) w7
def F54_2 (R:Rt) (J1:(Int)->World->Prop) (p0:Option Addr) (n3:Int) (ds:Ds) (w:World):Prop:=
 dwE w λw8=>
 ptrE p0 λa9=>
 ∃s13,w8.cell? a9=some (.string s13)/\
 Br (decide (n3<(s13.size:Int))) (
 ptrE p0 λa10=>
 ∃s20,w8.cell? a10=some (.string s20)/\
 ptrE p0 λa11=>
 ∃n24,w8.cell? (a11.add 1)=some (.int .i64 n24)/\
 0<=(IntKind.i64.wrap (n3+1))/\(IntKind.i64.wrap (n3+1)).toNat<=s20.size/\0<=n24/\n24.toNat<=(IntKind.i64.wrap (n3+1)).toNat/\
 Calls prog 63 #[.string (s20.extract n24.toNat ((IntKind.i64.wrap (n3+1)).toNat))] w8 λe w12=>
 ∃s28:ByteArray,e=.returned (.string s28)/\
 Calls prog 14 #[.string s28,.int .i64 24] w12 λe w13=>
 ∃b29:Bool,e=.returned (.bool b29)/\
 Br b29 (
 J1 (IntKind.i64.wrap (n3+1)) w13) (
 F54_1 R p0 n3 ds w13)) (
 F54_1 R p0 n3 ds w8)
def F54_3(R:Rt)(p0:Option Addr)(n3:Int)(ds:Ds)(w:World):Prop:=
 loopT (λ(J1:(Int)->World->Prop) (s:Int) (w:World)=>F54_2 R J1 p0 s ds w) n3 w
def F54_5(R:Rt)(p0:Option Addr)(ds:Ds)(w:World):Prop:=
 ptrE p0 λa14=>
 ∃n8,w.cell? (a14.add 1)=some (.int .i64 n8)/\
 F54_3 R p0 n8 ds w
theorem F54_p:Pl prog f54 [pS 0] F54_5:=λR=>
  pc 2 (rest [pS 0,iS 3] (F54_3 R) (bk 0 (rest [pS 0,iS 3] (F54_1 R) lf) (lp [iS 3] [pS 0,iS 3] (F54_2 R) rnil λJ1=>lf)))
theorem F54_calls (p0:Option Addr) (w:World) (R:Rt) (h:F54_5 R p0 [] w):Calls prog 54 #[.pointer p0] w R:=
  plC F54_p func54 h
def F91_1(R:Rt)(s0:ByteArray)(n1 n5:Int)(ds:Ds)(w:World):Prop:=
 Br (n5 == (s0.size:Int)) (
 runD prog ds w λw1=>
 R (.returned (.int .i64 (IntKind.i64.wrap (n1+1)))) w1) (
 runD prog ds w λw2=>
 R (.returned (.int .i64 (IntKind.i64.wrap (n5+1)))) w2)
def F91_2 (R:Rt) (J1:(Int)->World->Prop) (s0:ByteArray) (n1 n5:Int) (ds:Ds) (w:World):Prop:=
 dwE w λw3=>
 Br (decide (n5<(s0.size:Int))) (
 ∃b27:UInt8,0<=n5/\s0[n5.toNat]?=some b27/\
 ∃b30:UInt8,0<=n1/\s0[n1.toNat]?=some b30/\
 Br ((b27.toNat:Int) != (b30.toNat:Int)) (
 J1 (IntKind.i64.wrap (n5+1)) w3) (
 F91_1 R s0 n1 n5 ds w3)) (
 F91_1 R s0 n1 n5 ds w3)
def F91_3(R:Rt)(s0:ByteArray)(n1 n5:Int)(ds:Ds)(w:World):Prop:=
 loopT (λ(J1:(Int)->World->Prop) (s:Int) (w:World)=>F91_2 R J1 s0 n1 s ds w) n5 w
def F91_5(R:Rt)(s0:ByteArray)(n1:Int)(ds:Ds)(w:World):Prop:=
 ∃b8:UInt8,0<=n1/\s0[n1.toNat]?=some b8/\
 Br ((b8.toNat:Int) != 34) (
 ∃b13:UInt8,0<=n1/\s0[n1.toNat]?=some b13/\
 Br ((b13.toNat:Int) != 39) (
 runD prog ds w λw4=>
 R (.returned (.int .i64 (IntKind.i64.wrap (n1+1)))) w4) (
 F91_3 R s0 n1 (IntKind.i64.wrap (n1+1)) ds w)) (
 F91_3 R s0 n1 (IntKind.i64.wrap (n1+1)) ds w)
theorem F91_p:Pl prog f91 [sS 0,iS 1] F91_5:=λR=>
  pc 4 (rest [sS 0,iS 1,iS 5] (F91_3 R) (bk 0 (rest [sS 0,iS 1,iS 5] (F91_1 R) lf) (lp [iS 5] [sS 0,iS 1,iS 5] (F91_2 R) rnil λJ1=>lf)))
theorem F91_calls (s0:ByteArray) (n1:Int) (w:World) (R:Rt) (h:F91_5 R s0 n1 [] w):Calls prog 91 #[.string s0,.int .i64 n1] w R:=
  plC F91_p func91 h
end Go.Proofs.YtjbfehippchniaaGreatDoor
