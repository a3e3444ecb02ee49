import Derived.Test.YtjbfehippchniaaGreatDoorPrPrA
/- Lex: parts of the scanner's next, printed by program. No condition. -/
set_option linter.unusedVariables false
namespace Go.Proofs.YtjbfehippchniaaGreatDoor
open Go.Sh
def nxCom (R : Rt) (J1 : (Unit) → World → Prop) (p0 : Option Addr) (p2 : Option Addr) (ds : Ds) (w9 : World) : Prop :=
  Calls Tryz.prog 168 #[.pointer p0] w9 fun e w13 =>
  ∃ b82 : Bool, e = .returned (.bool b82) ∧
  Br (!b82) (
  ptrE p2 fun a14 =>
  stA Tryz.prog 30 a14 #[.int .i64 0, .int .i64 0, .string (⟨#[]⟩ : ByteArray)] w13 fun w15 =>
  runD Tryz.prog ds w15 fun w16 =>
  ptrE p2 fun a17 =>
  ∃ nR0_0 : Int, w16.cell? (a17.add 0) = some (.int .i64 nR0_0) ∧
  ∃ nR0_1 : Int, w16.cell? (a17.add 1) = some (.int .i64 nR0_1) ∧
  ∃ sR0_2 : ByteArray, w16.cell? (a17.add 2) = some (.string sR0_2) ∧
  R (.returned (.tuple #[.agg #[.int .i64 nR0_0, .int .i64 nR0_1, .string sR0_2], .bool false])) w16) (
  J1 () w13)
def nxSemi (R : Rt) (J1 : (Unit) → World → Prop) (p0 : Option Addr) (p2 : Option Addr) (ds : Ds) (w18 : World) : Prop :=
  ptrE p0 fun a19 =>
  ∃ s89 : ByteArray, w18.cell? a19 = some (.string s89) ∧
  ptrE p0 fun a20 =>
  ∃ n93 : Int, w18.cell? (a20.add 1) = some (.int .i64 n93) ∧
  ∃ b94 : UInt8, 0 ≤ n93 ∧ s89[n93.toNat]? = some b94 ∧
  Br (((b94.toNat : Nat) : Int) == 59) (
  Calls Tryz.prog 169 #[.pointer p0] w18 fun e w21 =>
  ∃ b98_0 : Bool, ∃ b98_1 : Bool, e = .returned (.tuple #[.bool b98_0, .bool b98_1]) ∧
  Br (!b98_0) (
  ptrE p0 fun a22 =>
  ∃ n107 : Int, w21.cell? (a22.add 1) = some (.int .i64 n107) ∧
  ptrE p0 fun a23 =>
  st1 (a23.add 260) (.int .i64 n107) w21 fun w24 =>
  Br (!b98_0) (
  ptrE p2 fun a25 =>
  stA Tryz.prog 30 a25 #[.int .i64 0, .int .i64 0, .string (⟨#[]⟩ : ByteArray)] w24 fun w26 =>
  runD Tryz.prog ds w26 fun w27 =>
  ptrE p2 fun a28 =>
  ∃ nR0_0 : Int, w27.cell? (a28.add 0) = some (.int .i64 nR0_0) ∧
  ∃ nR0_1 : Int, w27.cell? (a28.add 1) = some (.int .i64 nR0_1) ∧
  ∃ sR0_2 : ByteArray, w27.cell? (a28.add 2) = some (.string sR0_2) ∧
  R (.returned (.tuple #[.agg #[.int .i64 nR0_0, .int .i64 nR0_1, .string sR0_2], .bool false])) w27) (
  Br (!b98_1) (
  ptrE p2 fun a29 =>
  stA Tryz.prog 30 a29 #[.int .i64 0, .int .i64 0, .string (⟨#[]⟩ : ByteArray)] w24 fun w30 =>
  runD Tryz.prog ds w30 fun w31 =>
  ptrE p2 fun a32 =>
  ∃ nR0_0 : Int, w31.cell? (a32.add 0) = some (.int .i64 nR0_0) ∧
  ∃ nR0_1 : Int, w31.cell? (a32.add 1) = some (.int .i64 nR0_1) ∧
  ∃ sR0_2 : ByteArray, w31.cell? (a32.add 2) = some (.string sR0_2) ∧
  R (.returned (.tuple #[.agg #[.int .i64 nR0_0, .int .i64 nR0_1, .string sR0_2], .bool false])) w31) (
  J1 () w24))) (
  Br (!b98_0) (
  ptrE p2 fun a33 =>
  stA Tryz.prog 30 a33 #[.int .i64 0, .int .i64 0, .string (⟨#[]⟩ : ByteArray)] w21 fun w34 =>
  runD Tryz.prog ds w34 fun w35 =>
  ptrE p2 fun a36 =>
  ∃ nR0_0 : Int, w35.cell? (a36.add 0) = some (.int .i64 nR0_0) ∧
  ∃ nR0_1 : Int, w35.cell? (a36.add 1) = some (.int .i64 nR0_1) ∧
  ∃ sR0_2 : ByteArray, w35.cell? (a36.add 2) = some (.string sR0_2) ∧
  R (.returned (.tuple #[.agg #[.int .i64 nR0_0, .int .i64 nR0_1, .string sR0_2], .bool false])) w35) (
  Br (!b98_1) (
  ptrE p2 fun a37 =>
  stA Tryz.prog 30 a37 #[.int .i64 0, .int .i64 0, .string (⟨#[]⟩ : ByteArray)] w21 fun w38 =>
  runD Tryz.prog ds w38 fun w39 =>
  ptrE p2 fun a40 =>
  ∃ nR0_0 : Int, w39.cell? (a40.add 0) = some (.int .i64 nR0_0) ∧
  ∃ nR0_1 : Int, w39.cell? (a40.add 1) = some (.int .i64 nR0_1) ∧
  ∃ sR0_2 : ByteArray, w39.cell? (a40.add 2) = some (.string sR0_2) ∧
  R (.returned (.tuple #[.agg #[.int .i64 nR0_0, .int .i64 nR0_1, .string sR0_2], .bool false])) w39) (
  J1 () w21)))) (
  ptrE p0 fun a41 =>
  st1 (a41.add 258) (.bool true) w18 fun w42 =>
  ptrE p0 fun a43 =>
  st1 (a43.add 259) (.bool true) w42 fun w44 =>
  Calls Tryz.prog 170 #[.pointer p0] w44 fun e w45 =>
  ∃ n17_0_0 : Int, ∃ n17_0_1 : Int, ∃ s17_0_2 : ByteArray, ∃ b17_1 : Bool, e = .returned (.tuple #[.agg #[.int .i64 n17_0_0, .int .i64 n17_0_1, .string s17_0_2], .bool b17_1]) ∧
  ptrE p2 fun a46 =>
  stA Tryz.prog 30 a46 #[.int .i64 n17_0_0, .int .i64 n17_0_1, .string s17_0_2] w45 fun w47 =>
  runD Tryz.prog ds w47 fun w48 =>
  ptrE p2 fun a49 =>
  ∃ nR0_0 : Int, w48.cell? (a49.add 0) = some (.int .i64 nR0_0) ∧
  ∃ nR0_1 : Int, w48.cell? (a49.add 1) = some (.int .i64 nR0_1) ∧
  ∃ sR0_2 : ByteArray, w48.cell? (a49.add 2) = some (.string sR0_2) ∧
  R (.returned (.tuple #[.agg #[.int .i64 nR0_0, .int .i64 nR0_1, .string sR0_2], .bool b17_1])) w48)
def nxPre (R : Rt) (J1 : (Unit) → World → Prop) (p0 : Option Addr) (p2 : Option Addr) (ds : Ds) (w9 : World) : Prop :=
  dwE w9 fun w50 =>
  ptrE p0 fun a51 =>
  ∃ s74 : ByteArray, w50.cell? a51 = some (.string s74) ∧
  ptrE p0 fun a52 =>
  ∃ n78 : Int, w50.cell? (a52.add 1) = some (.int .i64 n78) ∧
  s74.size ≤ s74.size ∧ 0 ≤ n78 ∧ n78.toNat ≤ s74.size ∧
  Calls Tryz.prog 41 #[.string (s74.extract n78.toNat s74.size), .string (⟨#[38, 38]⟩ : ByteArray)] w50 fun e w53 =>
  ∃ b80 : Bool, e = .returned (.bool b80) ∧
  Br b80 (
  nxCom R J1 p0 p2 ds w53) (
  dwE w53 fun w59 => nxSemi R J1 p0 p2 ds w59)
end Go.Proofs.YtjbfehippchniaaGreatDoor
