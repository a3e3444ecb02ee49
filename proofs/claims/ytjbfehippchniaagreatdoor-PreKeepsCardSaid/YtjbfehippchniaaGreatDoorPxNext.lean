import Derived.Test.YtjbfehippchniaaGreatDoorPrPrA
/- Lex: parts of the scanner's next, printed by program. No condition. -/
set_option linter.unusedVariables false
namespace Go.Proofs.YtjbfehippchniaaGreatDoor
open Go.Sh
def nxCom (R:Rt) (J1:(Unit) → World → Prop) (p0:Option Addr) (p2:Option Addr) (ds:Ds) (w9:World):Prop:=
  Calls Tryz.prog 168 #[.pointer p0] w9 λe w13=>
  ∃b82:Bool,e=.returned (.bool b82) ∧
  Br (!b82) (
  ptrE p2 λa14=>
  stA Tryz.prog 30 a14 #[.int .i64 0,.int .i64 0,.string (⟨#[]⟩:ByteArray)] w13 λw15=>
  runD Tryz.prog ds w15 λw16=>
  ptrE p2 λa17=>
  ∃nR0_0:Int,w16.cell? (a17.add 0)=some (.int .i64 nR0_0) ∧
  ∃nR0_1:Int,w16.cell? (a17.add 1)=some (.int .i64 nR0_1) ∧
  ∃sR0_2:ByteArray,w16.cell? (a17.add 2)=some (.string sR0_2) ∧
  R (.returned (.tuple #[.agg #[.int .i64 nR0_0,.int .i64 nR0_1,.string sR0_2],.bool false])) w16) (
  J1 () w13)
def nxSemi (R:Rt) (J1:(Unit) → World → Prop) (p0:Option Addr) (p2:Option Addr) (ds:Ds) (w18:World):Prop:=
  ptrE p0 λa19=>
  ∃s89:ByteArray,w18.cell? a19=some (.string s89) ∧
  ptrE p0 λa20=>
  ∃n93:Int,w18.cell? (a20.add 1)=some (.int .i64 n93) ∧
  ∃b94:UInt8,0 ≤ n93 ∧ s89[n93.toNat]?=some b94 ∧
  Br (((b94.toNat:Nat):Int) == 59) (
  Calls Tryz.prog 169 #[.pointer p0] w18 λe w21=>
  ∃b98_0:Bool,∃b98_1:Bool,e=.returned (.tuple #[.bool b98_0,.bool b98_1]) ∧
  Br (!b98_0) (
  ptrE p0 λa22=>
  ∃n107:Int,w21.cell? (a22.add 1)=some (.int .i64 n107) ∧
  ptrE p0 λa23=>
  st1 (a23.add 260) (.int .i64 n107) w21 λw24=>
  Br (!b98_0) (
  ptrE p2 λa25=>
  stA Tryz.prog 30 a25 #[.int .i64 0,.int .i64 0,.string (⟨#[]⟩:ByteArray)] w24 λw26=>
  runD Tryz.prog ds w26 λw27=>
  ptrE p2 λa28=>
  ∃nR0_0:Int,w27.cell? (a28.add 0)=some (.int .i64 nR0_0) ∧
  ∃nR0_1:Int,w27.cell? (a28.add 1)=some (.int .i64 nR0_1) ∧
  ∃sR0_2:ByteArray,w27.cell? (a28.add 2)=some (.string sR0_2) ∧
  R (.returned (.tuple #[.agg #[.int .i64 nR0_0,.int .i64 nR0_1,.string sR0_2],.bool false])) w27) (
  Br (!b98_1) (
  ptrE p2 λa29=>
  stA Tryz.prog 30 a29 #[.int .i64 0,.int .i64 0,.string (⟨#[]⟩:ByteArray)] w24 λw30=>
  runD Tryz.prog ds w30 λw31=>
  ptrE p2 λa32=>
  ∃nR0_0:Int,w31.cell? (a32.add 0)=some (.int .i64 nR0_0) ∧
  ∃nR0_1:Int,w31.cell? (a32.add 1)=some (.int .i64 nR0_1) ∧
  ∃sR0_2:ByteArray,w31.cell? (a32.add 2)=some (.string sR0_2) ∧
  R (.returned (.tuple #[.agg #[.int .i64 nR0_0,.int .i64 nR0_1,.string sR0_2],.bool false])) w31) (
  J1 () w24))) (
  Br (!b98_0) (
  ptrE p2 λa33=>
  stA Tryz.prog 30 a33 #[.int .i64 0,.int .i64 0,.string (⟨#[]⟩:ByteArray)] w21 λw34=>
  runD Tryz.prog ds w34 λw35=>
  ptrE p2 λa36=>
  ∃nR0_0:Int,w35.cell? (a36.add 0)=some (.int .i64 nR0_0) ∧
  ∃nR0_1:Int,w35.cell? (a36.add 1)=some (.int .i64 nR0_1) ∧
  ∃sR0_2:ByteArray,w35.cell? (a36.add 2)=some (.string sR0_2) ∧
  R (.returned (.tuple #[.agg #[.int .i64 nR0_0,.int .i64 nR0_1,.string sR0_2],.bool false])) w35) (
  Br (!b98_1) (
  ptrE p2 λa37=>
  stA Tryz.prog 30 a37 #[.int .i64 0,.int .i64 0,.string (⟨#[]⟩:ByteArray)] w21 λw38=>
  runD Tryz.prog ds w38 λw39=>
  ptrE p2 λa40=>
  ∃nR0_0:Int,w39.cell? (a40.add 0)=some (.int .i64 nR0_0) ∧
  ∃nR0_1:Int,w39.cell? (a40.add 1)=some (.int .i64 nR0_1) ∧
  ∃sR0_2:ByteArray,w39.cell? (a40.add 2)=some (.string sR0_2) ∧
  R (.returned (.tuple #[.agg #[.int .i64 nR0_0,.int .i64 nR0_1,.string sR0_2],.bool false])) w39) (
  J1 () w21)))) (
  ptrE p0 λa41=>
  st1 (a41.add 258) (.bool true) w18 λw42=>
  ptrE p0 λa43=>
  st1 (a43.add 259) (.bool true) w42 λw44=>
  Calls Tryz.prog 170 #[.pointer p0] w44 λe w45=>
  ∃n17_0_0:Int,∃n17_0_1:Int,∃s17_0_2:ByteArray,∃b17_1:Bool,e=.returned (.tuple #[.agg #[.int .i64 n17_0_0,.int .i64 n17_0_1,.string s17_0_2],.bool b17_1]) ∧
  ptrE p2 λa46=>
  stA Tryz.prog 30 a46 #[.int .i64 n17_0_0,.int .i64 n17_0_1,.string s17_0_2] w45 λw47=>
  runD Tryz.prog ds w47 λw48=>
  ptrE p2 λa49=>
  ∃nR0_0:Int,w48.cell? (a49.add 0)=some (.int .i64 nR0_0) ∧
  ∃nR0_1:Int,w48.cell? (a49.add 1)=some (.int .i64 nR0_1) ∧
  ∃sR0_2:ByteArray,w48.cell? (a49.add 2)=some (.string sR0_2) ∧
  R (.returned (.tuple #[.agg #[.int .i64 nR0_0,.int .i64 nR0_1,.string sR0_2],.bool b17_1])) w48)
def nxPre (R:Rt) (J1:(Unit) → World → Prop) (p0:Option Addr) (p2:Option Addr) (ds:Ds) (w9:World):Prop:=
  dwE w9 λw50=>
  ptrE p0 λa51=>
  ∃s74:ByteArray,w50.cell? a51=some (.string s74) ∧
  ptrE p0 λa52=>
  ∃n78:Int,w50.cell? (a52.add 1)=some (.int .i64 n78) ∧
  s74.size ≤ s74.size ∧ 0 ≤ n78 ∧ n78.toNat ≤ s74.size ∧
  Calls Tryz.prog 41 #[.string (s74.extract n78.toNat s74.size),.string (⟨#[38,38]⟩:ByteArray)] w50 λe w53=>
  ∃b80:Bool,e=.returned (.bool b80) ∧
  Br b80 (
  nxCom R J1 p0 p2 ds w53) (
  dwE w53 λw59=>nxSemi R J1 p0 p2 ds w59)
end Go.Proofs.YtjbfehippchniaaGreatDoor
